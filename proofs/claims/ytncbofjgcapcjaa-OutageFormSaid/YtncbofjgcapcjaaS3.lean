/- The symmetric merge of two ascending runs of outages, one of which has a single element (part of the stable sort). -/
import Derived.Test.YtncbofjgcapcjaaS2
import Derived.Test.YtncbofjgcapcjaaM
namespace Go.Proofs.Ytncbofjgcapcjaa
open Go.RowKit Go.Shelf Go.Lib Go.Sort

theorem swk_cells {w0 W : World} {blk off : Nat} {d0 dk : Array O} (h : SWK encO 4 w0 blk off dk W) (R : RowK encO 4 w0 blk off d0) (hs : dk.size = d0.size) (i : Nat) (hi : i < dk.size) (x : O) (hx : dk[i]! = x) :
    (∀ n os, (grow (W.drewN n) os).cell? ⟨blk, off + i * 4, none⟩ = some (.int .u8 x.k)) ∧ (∀ n os, (grow (W.drewN n) os).cell? ⟨blk, off + i * 4 + 1, none⟩ = some (.int .i64 x.wh)) ∧
    (∀ n os, (grow (W.drewN n) os).cell? ⟨blk, off + i * 4 + 2, none⟩ = some (.int .i64 x.f)) ∧ (∀ n os, (grow (W.drewN n) os).cell? ⟨blk, off + i * 4 + 3, none⟩ = some (.int .i64 x.t)) :=
  have H := fun n os => (holds4 ((h.grown n os).holds R.hblk R.hH hs) i hi x hx).1
  ⟨fun n os => (H n os).1, fun n os => (H n os).2.1, fun n os => (H n os).2.2.1, fun n os => (H n os).2.2.2⟩

def SymPost (blk off a b : Nat) (w0 : World) (d : Array O) (e : Ending) (w' : World) : Prop :=
  e = .returned (.tuple #[]) ∧ ∃ d', d'.size = d.size ∧ PermIn a b d d' ∧ SortedIn (ltOf cmpO) a b d' ∧ SWK encO 4 w0 blk off d' w'

set_option maxHeartbeats 2000000 in
set_option maxRecDepth 100000 in
theorem symA_any (hO : SWO (ltOf cmpO)) (blk off cap a b : Nat) (d0 d : Array O) (w0 w : World) (R : RowK encO 4 w0 blk off d0) (hs : d0.size = d.size) (S : SWK encO 4 w0 blk off d w)
    (hmb : a + 1 < b) (hb : b ≤ d.size) (hsz : d.size < 4611686018427387904) (h2 : SortedIn (ltOf cmpO) (a + 1) b d) :
    Calls Try.prog 43 #[.slice (some ⟨blk, off, none⟩) d.size cap, .int .i64 a, .int .i64 ((a : Int) + 1), .int .i64 b, .func (.func 24) #[] #[]] w (SymPost blk off a b w0 d) := by
  have S0 : Aside (SWK encO 4 w0 blk off d w) := S
  have HS2 : Hid (SortedIn (ltOf cmpO) (a + 1) b d) := h2
  have HO : Hid (SWO (ltOf cmpO)) := hO
  clear S h2 hO
  have t1 : ((a : Int) + 1 - (a : Int) == 1) = true := by simp; omega
  have mixed : Try.prog.follows .mixedOrders = true := by kernel_rfl
  go_enter Try.func43, Try.ntmps43
  go_wp2
  go_loopw [10, 11] (fun i j wr => ∃ x y : Nat, i = .int .i64 x ∧ j = .int .i64 y ∧ a + 1 ≤ x ∧ x ≤ y ∧ y ≤ b ∧ Aside (SWK encO 4 w0 blk off d wr) ∧
    Hid (∀ h, a + 1 ≤ h → h < x → ltOf cmpO d[h]! d[a]! = true) ∧ Hid (∀ h, y ≤ h → h < b → ltOf cmpO d[h]! d[a]! = false)) (fun i j _ => (intOf j - intOf i).toNat)
  case atStart => exact ⟨a + 1, b, by go_num, rfl, by omega, by omega, by omega, S0, fun h _ _ => by omega, fun h _ _ => by omega⟩
  case round =>
    clear S0
    obtain ⟨x, y, rfl, rfl, hx, hxy, hyb, S1, HL, HH⟩ := hrel
    by_cases hlt : x < y
    · obtain ⟨z, hz, hz1, hz2⟩ : ∃ z : Nat, ((x : Int) + (y : Int)) / 2 = (z : Int) ∧ x ≤ z ∧ z < y := ⟨(x + y) / 2, by omega, by omega, by omega⟩
      obtain ⟨u, hu⟩ : ∃ u, d[z]! = u := ⟨_, rfl⟩
      obtain ⟨v, hv⟩ : ∃ v, d[a]! = v := ⟨_, rfl⟩
      obtain ⟨a0, a1, a2, a3⟩ := swk_cells S1.out R hs.symm z (by omega) u hu
      obtain ⟨b0, b1, b2, b3⟩ := swk_cells S1.out R hs.symm a (by omega) v hv
      have zb : (z : Int) < (d.size : Int) := by omega
      have zp : (0 : Int) ≤ (z : Int) := by omega
      have ab : (a : Int) < (d.size : Int) := by omega
      have ap : (0 : Int) ≤ (a : Int) := by omega
      have UV : Hid (d[z]! = u ∧ d[a]! = v) := ⟨hu, hv⟩
      clear hu hv
      by_cases hc : cmpO u v < 0
      · go_wp2_with fail
        go_quiet_grown (first | (go_at_call 24; refine Calls.grown_of (order_any _ _ _)))
        clear a0 a1 a2 a3 b0 b1 b2 b3
        go_wp2_with fail
        go_roundw
        case measure => simp [intOf]; omega
        case rel =>
          refine ⟨z + 1, y, by go_num, rfl, by omega, by omega, hyb, S1.out.grown _ _, fun h h1 h2 => ?_, HH⟩
          have hzt : ltOf cmpO d[z]! d[a]! = true := by rw [UV.out.1, UV.out.2]; exact decide_eq_true hc
          by_cases e : h = z
          · rw [e]; exact hzt
          · exact SWO.le_lt HO.out (HS2.out h z h1 (by omega) (by omega)) hzt
      · go_wp2_with fail
        go_quiet_grown (first | (go_at_call 24; refine Calls.grown_of (order_any _ _ _)))
        clear a0 a1 a2 a3 b0 b1 b2 b3
        go_wp2_with fail
        go_roundw
        case measure => simp [intOf]; omega
        case rel =>
          refine ⟨x, z, rfl, rfl, by omega, by omega, by omega, S1.out.grown _ _, HL, fun h h1 h2 => ?_⟩
          have hzt : ltOf cmpO d[z]! d[a]! = false := by rw [UV.out.1, UV.out.2]; exact decide_eq_false (by omega)
          by_cases e : h = z
          · rw [e]; exact hzt
          · exact HO.out.ntrans _ _ _ (HS2.out z h (by omega) (by omega) h2) hzt
    · obtain rfl : x = y := by omega
      have xs1 : ¬ ((x : Int) < (x : Int)) := by omega
      go_wp2_with fail
      go_loopw [13] (fun i wk => ∃ (k : Nat) (dk : Array O), i = .int .i64 k ∧ a ≤ k ∧ k + 1 ≤ x ∧ Hid (dk.size = d.size) ∧ Aside (SWK encO 4 w0 blk off dk wk) ∧
        Hid (∀ t, dk[t]! = if a ≤ t ∧ t < k then d[t + 1]! else if t = k then d[a]! else d[t]!) ∧ Hid (PermIn a b d dk)) (fun i _ => x - (intOf i).toNat)
      case atStart => exact ⟨a, d, rfl, by omega, by omega, rfl, S1, fun t => by rw [if_neg (by omega)]; split <;> first | rfl | (rename_i h; rw [h]), permIn_refl _ _ _⟩
      case round =>
        clear S1
        obtain ⟨k, dk, rfl, hk, hkx, hds, S1, HT, HP⟩ := hrel
        by_cases hk1 : k + 1 < x
        · have hk1z : (k : Int) < (x : Int) - 1 := by omega
          obtain ⟨u, hu⟩ : ∃ u, dk[k]! = u := ⟨_, rfl⟩
          obtain ⟨v, hv⟩ : ∃ v, dk[k + 1]! = v := ⟨_, rfl⟩
          have hdk := hds.out
          have S2 : Aside (SWK encO 4 w0 blk off (swp dk k (k + 1)) ((wr.drew.setCells blk (off + k * 4) (encO v)).setCells blk (off + (k + 1) * 4) (encO u))) := by
            rw [← hu, ← hv]; exact S1.out.swapped R k (k + 1) (by omega) (by omega)
          have hN := S1.out.holds R.hblk R.hH (by omega)
          obtain ⟨⟨a0, a1, a2, a3⟩, f0, f1, f2, f3⟩ := holds4 hN k (by omega) u hu
          obtain ⟨⟨b0, b1, b2, b3⟩, g0, g1, g2, g3⟩ := holds4 hN (k + 1) (by omega) v hv
          have q1 : (0 : Int) ≤ (k : Int) := by omega
          have q2 : (k : Int) < (d.size : Int) := by omega
          have q3 : (0 : Int) ≤ (k : Int) + 1 := by omega
          have q4 : (k : Int) + 1 < (d.size : Int) := by omega
          have q5 : ((k : Int) + 1).toNat = k + 1 := by omega
          have q6 : IntKind.i64.wrap (k : Int) = (k : Int) := by rw [IntKind.wrap_i64]; omega
          clear hdk hN S1 hu hv
          rw [swO] at S2
          go_wp2_with fail
          go_big_region
          go_wp2
          go_roundw
          case measure => simp [intOf]; omega
          case rel =>
            have hds := hds.out
            refine ⟨k + 1, swp dk k (k + 1), by go_num, by omega, by omega, by show _ = _; rw [size_swp]; exact hds, S2, fun t => ?_, permIn_trans _ _ _ _ _ HP.out (swp_permIn _ _ _ _ _ (by omega) (by omega) (by omega) (by omega) (by omega))⟩
            rw [swp_get dk (by omega) (by omega) t]
            by_cases e1 : t = k + 1
            · rw [if_pos e1, HT.out k, if_neg (by omega), if_pos rfl, if_neg (by omega), if_pos e1]
            · rw [if_neg e1]
              by_cases e2 : t = k
              · rw [if_pos e2, HT.out (k + 1), if_neg (by omega), if_neg (by omega), if_pos (by omega), e2]
              · rw [if_neg e2, HT.out t]
                by_cases e3 : a ≤ t ∧ t < k
                · rw [if_pos e3, if_pos (by omega)]
                · rw [if_neg e3, if_neg e2, if_neg (by omega), if_neg e1]
        · obtain rfl : x = k + 1 := by omega
          have hk1z : ¬ ((k : Int) < ((k + 1 : Nat) : Int) - 1) := by omega
          go_wp2_with fail
          go_end0
          refine ⟨rfl, dk, hds.out, HP.out, ins_right (i := k + 1) HO.out HS2.out hx hyb HL.out HH.out (fun t => ?_), S1.out⟩
          rw [HT.out t]
          by_cases e3 : a ≤ t ∧ t < k
          · rw [if_pos e3, if_pos (by omega)]
          · rw [if_neg e3, if_neg (show ¬ (a ≤ t ∧ t + 1 < k + 1) by omega)]
            by_cases e4 : t = k
            · rw [if_pos e4, if_pos (by omega)]
            · rw [if_neg e4, if_neg (by omega)]

set_option maxHeartbeats 2000000 in
set_option maxRecDepth 100000 in
theorem symB_any (hO : SWO (ltOf cmpO)) (blk off cap a m : Nat) (d0 d : Array O) (w0 w : World) (R : RowK encO 4 w0 blk off d0) (hs : d0.size = d.size) (S : SWK encO 4 w0 blk off d w)
    (ham : a + 1 < m) (hb : m + 1 ≤ d.size) (hsz : d.size < 4611686018427387904) (h1 : SortedIn (ltOf cmpO) a m d) :
    Calls Try.prog 43 #[.slice (some ⟨blk, off, none⟩) d.size cap, .int .i64 a, .int .i64 m, .int .i64 ((m : Int) + 1), .func (.func 24) #[] #[]] w (SymPost blk off a (m + 1) w0 d) := by
  have S0 : Aside (SWK encO 4 w0 blk off d w) := S
  have HS1 : Hid (SortedIn (ltOf cmpO) a m d) := h1
  have HO : Hid (SWO (ltOf cmpO)) := hO
  clear S h1 hO
  have t1 : ((m : Int) - (a : Int) == 1) = false := by simp; omega
  have t2 : ((m : Int) + 1 - (m : Int) == 1) = true := by simp; omega
  have mixed : Try.prog.follows .mixedOrders = true := by kernel_rfl
  go_enter Try.func43, Try.ntmps43
  go_wp2
  go_loopw [14, 15] (fun i j wr => ∃ x y : Nat, i = .int .i64 x ∧ j = .int .i64 y ∧ a ≤ x ∧ x ≤ y ∧ y ≤ m ∧ Aside (SWK encO 4 w0 blk off d wr) ∧
    Hid (∀ h, a ≤ h → h < x → ltOf cmpO d[m]! d[h]! = false) ∧ Hid (∀ h, y ≤ h → h < m → ltOf cmpO d[m]! d[h]! = true)) (fun i j _ => (intOf j - intOf i).toNat)
  case atStart => exact ⟨a, m, rfl, rfl, by omega, by omega, by omega, S0, fun h _ _ => by omega, fun h _ _ => by omega⟩
  case round =>
    clear S0
    obtain ⟨x, y, rfl, rfl, hx, hxy, hyb, S1, HL, HH⟩ := hrel
    by_cases hlt : x < y
    · obtain ⟨z, hz, hz1, hz2⟩ : ∃ z : Nat, ((x : Int) + (y : Int)) / 2 = (z : Int) ∧ x ≤ z ∧ z < y := ⟨(x + y) / 2, by omega, by omega, by omega⟩
      obtain ⟨u, hu⟩ : ∃ u, d[m]! = u := ⟨_, rfl⟩
      obtain ⟨v, hv⟩ : ∃ v, d[z]! = v := ⟨_, rfl⟩
      obtain ⟨a0, a1, a2, a3⟩ := swk_cells S1.out R hs.symm m (by omega) u hu
      obtain ⟨b0, b1, b2, b3⟩ := swk_cells S1.out R hs.symm z (by omega) v hv
      have zb : (z : Int) < (d.size : Int) := by omega
      have zp : (0 : Int) ≤ (z : Int) := by omega
      have ab : (m : Int) < (d.size : Int) := by omega
      have ap : (0 : Int) ≤ (m : Int) := by omega
      have UV : Hid (d[m]! = u ∧ d[z]! = v) := ⟨hu, hv⟩
      clear hu hv
      by_cases hc : cmpO u v < 0
      · have hcb : decide (cmpO u v < 0) = true := decide_eq_true hc
        go_wp2_with fail
        go_quiet_grown (first | (go_at_call 24; refine Calls.grown_of (order_any _ _ _)))
        clear a0 a1 a2 a3 b0 b1 b2 b3
        go_wp2_with fail
        go_roundw
        case measure => simp [intOf]; omega
        case rel =>
          refine ⟨x, z, rfl, rfl, by omega, by omega, by omega, S1.out.grown _ _, HL, fun h h1 h2 => ?_⟩
          have hzt : ltOf cmpO d[m]! d[z]! = true := by rw [UV.out.1, UV.out.2]; exact decide_eq_true hc
          by_cases e : h = z
          · rw [e]; exact hzt
          · exact SWO.lt_le HO.out hzt (HS1.out z h (by omega) (by omega) h2)
      · have hcb : decide (cmpO u v < 0) = false := decide_eq_false hc
        go_wp2_with fail
        go_quiet_grown (first | (go_at_call 24; refine Calls.grown_of (order_any _ _ _)))
        clear a0 a1 a2 a3 b0 b1 b2 b3
        go_wp2_with fail
        go_roundw
        case measure => simp [intOf]; omega
        case rel =>
          refine ⟨z + 1, y, by go_num, rfl, by omega, by omega, hyb, S1.out.grown _ _, fun h h1 h2 => ?_, HH⟩
          have hzt : ltOf cmpO d[m]! d[z]! = false := by rw [UV.out.1, UV.out.2]; exact decide_eq_false (by omega)
          by_cases e : h = z
          · rw [e]; exact hzt
          · exact HO.out.ntrans _ _ _ hzt (HS1.out h z h1 (by omega) (by omega))
    · obtain rfl : x = y := by omega
      have xs1 : ¬ ((x : Int) < (x : Int)) := by omega
      go_wp2_with fail
      go_loopw [17] (fun i wk => ∃ (k : Nat) (dk : Array O), i = .int .i64 k ∧ x ≤ k ∧ k ≤ m ∧ Hid (dk.size = d.size) ∧ Aside (SWK encO 4 w0 blk off dk wk) ∧
        Hid (∀ t, dk[t]! = if t = k then d[m]! else if k < t ∧ t ≤ m then d[t - 1]! else d[t]!) ∧ Hid (PermIn a (m + 1) d dk)) (fun i _ => (intOf i).toNat)
      case atStart => exact ⟨m, d, rfl, by omega, by omega, rfl, S1, fun t => by split <;> first | (rename_i h; rw [h]; done) | (rw [if_neg (by omega)]), permIn_refl _ _ _⟩
      case round =>
        clear S1
        obtain ⟨k, dk, rfl, hk, hkx, hds, S1, HT, HP⟩ := hrel
        by_cases hk1 : x < k
        · obtain ⟨k, rfl⟩ : ∃ j, k = j + 1 := ⟨k - 1, by omega⟩
          have hk1z : (x : Int) < (k : Int) + 1 := by omega
          obtain ⟨u, hu⟩ : ∃ u, dk[k + 1]! = u := ⟨_, rfl⟩
          obtain ⟨v, hv⟩ : ∃ v, dk[k]! = v := ⟨_, rfl⟩
          have hdk := hds.out
          have S2 : Aside (SWK encO 4 w0 blk off (swp dk (k + 1) k) ((wr.drew.setCells blk (off + (k + 1) * 4) (encO v)).setCells blk (off + k * 4) (encO u))) := by
            rw [← hu, ← hv]; exact S1.out.swapped R (k + 1) k (by omega) (by omega)
          have hN := S1.out.holds R.hblk R.hH (by omega)
          obtain ⟨⟨a0, a1, a2, a3⟩, f0, f1, f2, f3⟩ := holds4 hN (k + 1) (by omega) u hu
          obtain ⟨⟨b0, b1, b2, b3⟩, g0, g1, g2, g3⟩ := holds4 hN k (by omega) v hv
          have q1 : (0 : Int) ≤ (k : Int) := by omega
          have q2 : (k : Int) < (d.size : Int) := by omega
          have q3 : (0 : Int) ≤ (k : Int) + 1 := by omega
          have q4 : (k : Int) + 1 < (d.size : Int) := by omega
          have q5 : ((k : Int) + 1).toNat = k + 1 := by omega
          have q6 : IntKind.i64.wrap (k : Int) = (k : Int) := by rw [IntKind.wrap_i64]; omega
          clear hdk hN S1 hu hv
          rw [swO] at S2
          go_wp2_with fail
          go_big_region
          go_wp2
          go_roundw
          case measure => simp [intOf]
          case rel =>
            have hds := hds.out
            refine ⟨k, swp dk (k + 1) k, by first | rfl | go_num | (congr 1; omega), by omega, by omega, by show _ = _; rw [size_swp]; exact hds, S2, fun t => ?_, permIn_trans _ _ _ _ _ HP.out (swp_permIn _ _ _ _ _ (by omega) (by omega) (by omega) (by omega) (by omega))⟩
            rw [swp_get dk (by omega) (by omega) t]
            by_cases e1 : t = k
            · rw [if_pos e1, HT.out (k + 1), if_pos rfl, if_pos e1]
            · rw [if_neg e1]
              by_cases e2 : t = k + 1
              · rw [if_pos e2, HT.out k, if_neg (by omega), if_neg (by omega), if_neg e1, if_pos (by omega), e2]; rfl
              · rw [if_neg e2, HT.out t, if_neg e2, if_neg e1]
                by_cases e3 : k + 1 < t ∧ t ≤ m
                · rw [if_pos e3, if_pos (by omega)]
                · rw [if_neg e3, if_neg (by omega)]
        · obtain rfl : x = k := by omega
          have hk1z : ¬ ((x : Int) < (x : Int)) := by omega
          go_wp2_with fail
          go_end0
          exact ⟨rfl, dk, hds.out, HP.out, ins_left (i := x) HO.out HS1.out hx hyb HL.out HH.out HT.out, S1.out⟩

end Go.Proofs.Ytncbofjgcapcjaa
