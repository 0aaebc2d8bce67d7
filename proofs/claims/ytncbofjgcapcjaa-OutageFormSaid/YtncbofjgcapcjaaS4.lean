/- The symmetric merge of two ascending runs of outages (part of the stable sort). -/
import Derived.Test.YtncbofjgcapcjaaS3
import Derived.Deep.DeepCutAuto
import Derived.Deep.CutBlock
namespace Go.Proofs.Ytncbofjgcapcjaa
open Go.RowKit Go.Shelf Go.Lib Go.Sort

set_option maxHeartbeats 4000000 in
set_option maxRecDepth 100000 in
theorem symC_any (hO : SWO (ltOf cmpO)) (blk off cap : Nat) (d0 : Array O) (w0 : World) (R : RowK encO 4 w0 blk off d0) (N : Nat)
    (ih : ∀ (a m b : Nat) (d : Array O) (w : World), b - a < N → d0.size = d.size → SWK encO 4 w0 blk off d w → a < m → m < b → b ≤ d.size → d.size < 4611686018427387904 → SortedIn (ltOf cmpO) a m d → SortedIn (ltOf cmpO) m b d →
      Calls Try.prog 43 #[.slice (some ⟨blk, off, none⟩) d.size cap, .int .i64 a, .int .i64 m, .int .i64 b, .func (.func 24) #[] #[]] w (SymPost blk off a b w0 d))
    (a m b : Nat) (d : Array O) (w : World) (hN : b - a < N + 1) (hs : d0.size = d.size) (S : SWK encO 4 w0 blk off d w) (ham : a + 1 < m) (hmb : m + 1 < b) (hb : b ≤ d.size) (hsz : d.size < 4611686018427387904)
    (h1 : SortedIn (ltOf cmpO) a m d) (h2 : SortedIn (ltOf cmpO) m b d) :
    Calls Try.prog 43 #[.slice (some ⟨blk, off, none⟩) d.size cap, .int .i64 a, .int .i64 m, .int .i64 b, .func (.func 24) #[] #[]] w (SymPost blk off a b w0 d) := by
  have S0 : Aside (SWK encO 4 w0 blk off d w) := S
  have HS1 : Hid (SortedIn (ltOf cmpO) a m d) := h1
  have HS2 : Hid (SortedIn (ltOf cmpO) m b d) := h2
  have HO : Hid (SWO (ltOf cmpO)) := hO
  have IH := Lib.hid ih
  clear S h1 h2 hO ih
  have t1 : ((m : Int) - (a : Int) == 1) = false := by simp; omega
  have t2 : ((b : Int) - (m : Int) == 1) = false := by simp; omega
  have mixed : Try.prog.follows .mixedOrders = true := by kernel_rfl
  obtain ⟨mid, hmid⟩ : ∃ mid : Nat, mid = (a + b) / 2 := ⟨_, rfl⟩
  obtain ⟨lo, hlo⟩ : ∃ lo : Nat, lo = if mid < m then mid + m - b else a := ⟨_, rfl⟩
  obtain ⟨hi, hhi⟩ : ∃ hi : Nat, hi = if mid < m then mid else m := ⟨_, rfl⟩
  have HM : Hid (mid = (a + b) / 2 ∧ (lo = if mid < m then mid + m - b else a) ∧ (hi = if mid < m then mid else m)) := ⟨hmid, hlo, hhi⟩
  have zmid : ((a : Int) + (b : Int)) / 2 = (mid : Int) := by omega
  have bm1 : a < mid := by omega
  have bm2 : mid < b := by omega
  have hbd : a ≤ lo ∧ lo ≤ hi ∧ hi ≤ m ∧ hi ≤ mid ∧ lo + b ≥ mid + m ∧ (∀ c, lo ≤ c → c < hi → c ≤ mid + m - 1 ∧ m ≤ mid + m - 1 - c ∧ mid + m - 1 - c < b) := by
    split at hlo <;> (rename_i hc; first | rw [if_pos hc] at hhi | rw [if_neg hc] at hhi) <;> refine ⟨?_, ?_, ?_, ?_, ?_, fun c h1 h2 => ⟨?_, ?_, ?_⟩⟩ <;> omega
  obtain ⟨bl, blh, bhm, bhmid, _, hpc⟩ := hbd
  have HPC := Lib.hid hpc
  clear hmid hlo hhi hpc
  go_enter Try.func43, Try.ntmps43
  go_upto_if 140 with fail
  go_cut [20, 21] from 25 (fun s r wc => s = .int .i64 lo ∧ r = .int .i64 hi ∧ Aside (SWK encO 4 w0 blk off d wc))
  case first => as_aux_lemma =>
    by_cases hc : mid < m
    · have z1 : (mid : Int) + (m : Int) - (b : Int) = (lo : Int) := by have := HM.out.2.1; rw [if_pos hc] at this; omega
      have Z2 := Lib.hid (show mid = hi by have := HM.out.2.2; rw [if_pos hc] at this; exact this.symm)
      go_wp2_with fail
      go_meet
      case rel => exact ⟨by first | rfl | rw [z1], by rw [Z2.out], S0⟩
    · have Z1 := Lib.hid (show a = lo by have := HM.out.2.1; rw [if_neg hc] at this; exact this.symm)
      have Z2 := Lib.hid (show m = hi by have := HM.out.2.2; rw [if_neg hc] at this; exact this.symm)
      go_wp2_with fail
      go_meet
      case rel => exact ⟨by rw [Z1.out], by rw [Z2.out], S0⟩
  case rest => as_aux_lemma =>
    clear S0
    obtain ⟨rfl, rfl, S0⟩ := hcut
    obtain ⟨P, hP⟩ : ∃ P : Nat, P = mid + m - 1 := ⟨_, rfl⟩
    have zP : (mid : Int) + (m : Int) - 1 = (P : Int) := by omega
    have HP := Lib.hid hP
    clear hP
    go_wp2_with fail
    go_loopw [20, 21] (fun i j wr => ∃ x y : Nat, i = .int .i64 x ∧ j = .int .i64 y ∧ lo ≤ x ∧ x ≤ y ∧ y ≤ hi ∧ Aside (SWK encO 4 w0 blk off d wr) ∧
      Hid (∀ h, lo ≤ h → h < x → ltOf cmpO d[P - h]! d[h]! = false) ∧ Hid (∀ h, y ≤ h → h < hi → ltOf cmpO d[P - h]! d[h]! = true)) (fun i j _ => (intOf j - intOf i).toNat)
    case atStart => exact ⟨lo, hi, rfl, rfl, by omega, by omega, by omega, S0, fun h _ _ => by omega, fun h _ _ => by omega⟩
    case round =>
      clear S0
      obtain ⟨x, y, rfl, rfl, hx, hxy, hyb, S1, HL, HH⟩ := hrel
      by_cases hlt : x < y
      · obtain ⟨z, hz, hz1, hz2⟩ : ∃ z : Nat, ((x : Int) + (y : Int)) / 2 = (z : Int) ∧ x ≤ z ∧ z < y := ⟨(x + y) / 2, by omega, by omega, by omega⟩
        have hzp := HPC.out z (by omega) (by omega)
        rw [← HP.out] at hzp
        obtain ⟨q, hq⟩ : ∃ q : Nat, q = P - z := ⟨_, rfl⟩
        have zq : (P : Int) - (z : Int) = (q : Int) := by omega
        obtain ⟨u, hu⟩ : ∃ u, d[q]! = u := ⟨_, rfl⟩
        obtain ⟨v, hv⟩ : ∃ v, d[z]! = v := ⟨_, rfl⟩
        obtain ⟨a0, a1, a2, a3⟩ := swk_cells S1.out R hs.symm q (by omega) u hu
        obtain ⟨b0, b1, b2, b3⟩ := swk_cells S1.out R hs.symm z (by omega) v hv
        have zb : (z : Int) < (d.size : Int) := by omega
        have zp : (0 : Int) ≤ (z : Int) := by omega
        have ab : (q : Int) < (d.size : Int) := by omega
        have ap : (0 : Int) ≤ (q : Int) := by omega
        have wq : IntKind.i64.wrap (q : Int) = (q : Int) := by rw [IntKind.wrap_i64]; omega
        have UV : Hid (d[P - z]! = u ∧ d[z]! = v) := ⟨by rw [← hq]; exact hu, hv⟩
        clear hu hv hzp hq
        have hmono : ∀ (x y : Nat), lo ≤ x → x ≤ y → y < hi → ltOf cmpO d[P - y]! d[y]! = false → ltOf cmpO d[P - x]! d[x]! = false := fun x y h1 h2 h3 h4 => by
          refine sym_mono HO.out HS1.out HS2.out (lo := lo) (hi := hi) (p := P) bl bhm (fun c h1 h2 => ?_) h1 h2 h3 h4
          have := HPC.out c h1 h2
          rw [← HP.out] at this
          exact this
        have HMO := Lib.hid hmono
        clear hmono
        by_cases hc : cmpO u v < 0
        · have hcb : decide (cmpO u v < 0) = true := decide_eq_true hc
          go_wp2_with fail
          go_quiet_grown (first | (go_at_call 24; refine Calls.grown_of (order_any _ _ _)))
          clear a0 a1 a2 a3 b0 b1 b2 b3
          go_wp2_with fail
          go_roundw
          case measure => simp [intOf]; omega
          case rel =>
            refine ⟨x, z, rfl, rfl, by omega, by omega, by omega, S1.out.grown _ _, HL, fun h h1 h2 => ?_⟩
            have hzt : ltOf cmpO d[P - z]! d[z]! = true := by rw [UV.out.1, UV.out.2]; exact decide_eq_true hc
            cases e : ltOf cmpO d[P - h]! d[h]! with
            | true => rfl
            | false => rw [HMO.out z h (by omega) h1 h2 e] at hzt; cases hzt
        · have hcb : decide (cmpO u v < 0) = false := decide_eq_false hc
          go_wp2_with fail
          go_quiet_grown (first | (go_at_call 24; refine Calls.grown_of (order_any _ _ _)))
          clear a0 a1 a2 a3 b0 b1 b2 b3
          go_wp2_with fail
          go_roundw
          case measure => simp [intOf]; omega
          case rel =>
            refine ⟨z + 1, y, by go_num, rfl, by omega, by omega, hyb, S1.out.grown _ _, fun h h1 h2 => ?_, HH⟩
            have hzt : ltOf cmpO d[P - z]! d[z]! = false := by rw [UV.out.1, UV.out.2]; exact decide_eq_false (by omega)
            exact HMO.out h z h1 (by omega) (by omega) hzt
      · obtain rfl : x = y := by omega
        have xs1 : ¬ ((x : Int) < (x : Int)) := by omega
        have hA : SymAt (ltOf cmpO) d a m b mid lo hi x := ⟨HM.out.1, HM.out.2.1, HM.out.2.2, hx, hyb, fun h h1 h2 => by have := HL.out h h1 h2; rwa [HP.out] at this, fun h h1 h2 => by have := HH.out h h1 h2; rwa [HP.out] at this⟩
        have HA := Lib.hid hA
        have ⟨e1, e2, e3, e4, e5, e6, _, _⟩ := hA.bd (by omega) (by omega)
        clear hA
        obtain ⟨E, hE⟩ : ∃ E : Nat, E = mid + m - x := ⟨_, rfl⟩
        have zE : (mid : Int) + (m : Int) - (x : Int) = (E : Int) := by omega
        have HE := Lib.hid hE
        have e4 : m ≤ E := by omega
        have e5 : mid ≤ E := by omega
        have e6 : E ≤ b := by omega
        clear hE
        obtain ⟨B1, hB1⟩ : ∃ B : Bool, B = (decide (x < m) && decide (m < E)) := ⟨_, rfl⟩
        obtain ⟨B2, hB2⟩ : ∃ B : Bool, B = (decide (a < x) && decide (x < mid)) := ⟨_, rfl⟩
        obtain ⟨B3, hB3⟩ : ∃ B : Bool, B = (decide (mid < E) && decide (E < b)) := ⟨_, rfl⟩
        have HB1 := Lib.hid hB1
        have HB2 := Lib.hid hB2
        have HB3 := Lib.hid hB3
        clear hB1 hB2 hB3
        go_upto_region 39 with fail
        go_cut [185] from 25 (fun s wc => s = .bool B1 ∧ Aside (SWK encO 4 w0 blk off d wc))
        case first => as_aux_lemma =>
          by_cases hc : x < m <;> (go_wp2_with fail; go_meet; exact ⟨by rw [HB1.out]; simp [hc], S1⟩)
        case rest => as_aux_lemma =>
          clear S1
          obtain ⟨rfl, S1⟩ := hcut
          go_upto_if 185 with fail
          go_cut [] from 25 (fun wc => Hid (∃ d1 : Array O, d1.size = d.size ∧ PermIn a b d d1 ∧ (∀ t, d1[t]! = rotOf d x m E t) ∧ SWK encO 4 w0 blk off d1 wc))
          case first => as_aux_lemma =>
            cases B1
            · go_wp2_with fail
              go_meet
              case rel =>
                refine ⟨d, rfl, permIn_refl _ _ _, fun t => ?_, S1.out⟩
                have h := HB1.out
                have : ¬ (x < m ∧ m < E) := by simpa using h.symm
                have e1 : E - m = 0 ∨ m - x = 0 := by omega
                rw [rotOf]
                rcases e1 with e1 | e1
                · rw [e1, if_neg (by omega)]; split <;> simp
                · rw [e1]; split
                  · simp
                  · rw [if_neg (by omega)]
            · have hc : x < m ∧ m < E := by have h := HB1.out.symm; simpa using h
              have hcall := rotate_any blk off cap x m E (.func (.func 24) #[] #[]) d0 d w0 wc R hs S1.out hc.1 hc.2 (by omega) hsz
              have HC := Lib.hid hcall
              clear hcall
              go_wp2_with fail
              refine HC.out.mono ?_
              rintro e w' ⟨rfl, hw'⟩
              have HW := Lib.hid hw'
              clear hw'
              go_wp2_with fail
              go_meet
              case rel =>
                obtain ⟨d1, g1, g2, g3, g4⟩ := HW.out
                exact ⟨d1, g1, permIn_mono _ _ _ _ _ _ (by omega) (by omega) hb g3, g2, g4⟩
          case rest => as_aux_lemma =>
            obtain ⟨d1, g1, g2, g3, g4⟩ := hcut.out
            have hA := HA.out
            have g3' : ∀ t, d1[t]! = rotOf d x m (mid + m - x) t := by rw [← HE.out]; exact g3
            have ⟨p1, p2, p3, p4⟩ := sym_left HS1.out HS2.out e1 e2 e3 (by rw [← HE.out]; exact e6) g3'
            have pc := sym_cross HO.out HS1.out HS2.out hA (by omega) (by omega) g3'
            rw [← HE.out] at p3 p4
            have G := Lib.hid (show d1.size = d.size ∧ PermIn a b d d1 ∧ SortedIn (ltOf cmpO) a x d1 ∧ SortedIn (ltOf cmpO) x mid d1 ∧ SortedIn (ltOf cmpO) mid E d1 ∧ SortedIn (ltOf cmpO) E b d1 ∧ (∀ x y, a ≤ x → x < mid → mid ≤ y → y < b → ltOf cmpO d1[y]! d1[x]! = false) ∧ SWK encO 4 w0 blk off d1 wc from ⟨g1, g2, p1, p2, p3, p4, pc, g4⟩)
            clear g1 g2 g3 g4 hA g3' p1 p2 p3 p4 pc hcut S1
            go_upto_region 41 with fail
            go_cut [199] from 25 (fun s wx => s = .bool B2 ∧ Hid (wx = wc))
            case first => as_aux_lemma =>
              by_cases hc : a < x <;> (go_wp2_with fail; go_meet; exact ⟨by rw [HB2.out]; simp [hc], rfl⟩)
            case rest => as_aux_lemma =>
              obtain ⟨rfl, hwx⟩ := hcut
              obtain rfl := hwx.out
              go_upto_if 199 with fail
              go_cut [] from 25 (fun wc => Hid (∃ d1 : Array O, d1.size = d.size ∧ PermIn a b d d1 ∧ SortedIn (ltOf cmpO) a mid d1 ∧ SortedIn (ltOf cmpO) mid E d1 ∧ SortedIn (ltOf cmpO) E b d1 ∧ (∀ x y, a ≤ x → x < mid → mid ≤ y → y < b → ltOf cmpO d1[y]! d1[x]! = false) ∧ SWK encO 4 w0 blk off d1 wc))
              case first => as_aux_lemma =>
                cases B2
                · go_wp2_with fail
                  go_meet
                  case rel =>
                    obtain ⟨g1, g2, p1, p2, p3, p4, pc, g4⟩ := G.out
                    refine ⟨d1, g1, g2, ?_, p3, p4, pc, g4⟩
                    have h := HB2.out
                    have hn : ¬ (a < x ∧ x < mid) := by simpa using h.symm
                    have e1 : x = a ∨ x = mid := by omega
                    rcases e1 with e1 | e1
                    · rw [← e1]; exact p2
                    · rw [← e1]; exact p1
                · have hc : a < x ∧ x < mid := by have h := HB2.out.symm; simpa using h
                  have hcall := IH.out a x mid d1 wc (by omega) (by rw [G.out.1]; exact hs) G.out.2.2.2.2.2.2.2 hc.1 hc.2 (by rw [G.out.1]; omega) (by rw [G.out.1]; exact hsz) G.out.2.2.1 G.out.2.2.2.1
                  rw [G.out.1] at hcall
                  have HC := Lib.hid hcall
                  clear hcall
                  go_wp2_with fail
                  refine HC.out.mono ?_
                  rintro e w' ⟨rfl, hw'⟩
                  have HW := Lib.hid hw'
                  clear hw'
                  go_wp2_with fail
                  go_meet
                  case rel =>
                    obtain ⟨g1, g2, p1, p2, p3, p4, pc, g4⟩ := G.out
                    obtain ⟨d2, q1, q2, q3, q4⟩ := HW.out
                    exact ⟨d2, by rw [q1, g1], permIn_trans _ _ _ _ _ g2 (permIn_mono _ _ _ _ _ _ (by omega) (by omega) (by rw [g1]; exact hb) q2), q3, sorted_perm_other q2 p3 (by omega), sorted_perm_other q2 p4 (by omega), cross_perm (by rw [g1]; exact hb) (by omega) (by omega) pc (Or.inl q2), q4⟩
              case rest => as_aux_lemma =>
                clear G
                obtain ⟨d2, hG⟩ := hcut.out
                have G := Lib.hid hG
                clear hG hcut
                go_upto_region 43 with fail
                go_cut [213] from 25 (fun s wy => s = .bool B3 ∧ Hid (wy = wc))
                case first => as_aux_lemma =>
                  by_cases hc : mid < E <;> (go_wp2_with fail; go_meet; exact ⟨by rw [HB3.out]; simp [hc], rfl⟩)
                case rest => as_aux_lemma =>
                  obtain ⟨rfl, hwx⟩ := hcut
                  obtain rfl := hwx.out
                  cases B3
                  · go_wp2_with fail
                    go_end0
                    obtain ⟨g1, g2, p1, p3, p4, pc, g4⟩ := G.out
                    refine ⟨rfl, d2, g1, g2, join_sorted p1 ?_ pc, g4⟩
                    have h := HB3.out
                    have hn : ¬ (mid < E ∧ E < b) := by simpa using h.symm
                    have e1 : E = mid ∨ E = b := by omega
                    rcases e1 with e1 | e1
                    · rw [← e1]; exact p4
                    · rw [← e1]; exact p3
                  · have hc : mid < E ∧ E < b := by have h := HB3.out.symm; simpa using h
                    have hcall := IH.out mid E b d2 wc (by omega) (by rw [G.out.1]; exact hs) G.out.2.2.2.2.2.2 hc.1 hc.2 (by rw [G.out.1]; omega) (by rw [G.out.1]; exact hsz) G.out.2.2.2.1 G.out.2.2.2.2.1
                    rw [G.out.1] at hcall
                    have HC := Lib.hid hcall
                    clear hcall
                    go_wp2_with fail
                    refine HC.out.mono ?_
                    rintro e w' ⟨rfl, hw'⟩
                    have HW := Lib.hid hw'
                    clear hw'
                    go_wp2_with fail
                    go_end0
                    obtain ⟨g1, g2, p1, p3, p4, pc, g4⟩ := G.out
                    obtain ⟨d3, q1, q2, q3, q4⟩ := HW.out
                    exact ⟨rfl, d3, by rw [q1, g1], permIn_trans _ _ _ _ _ g2 (permIn_mono _ _ _ _ _ _ (by omega) (by omega) (by rw [g1]; exact hb) q2), join_sorted (sorted_perm_other q2 p1 (by omega)) q3 (cross_perm (by rw [g1]; exact hb) (by omega) (by omega) pc (Or.inr q2)), q4⟩

theorem symMerge_any (hO : SWO (ltOf cmpO)) (blk off cap : Nat) (d0 : Array O) (w0 : World) (R : RowK encO 4 w0 blk off d0) (N : Nat) :
    ∀ (a m b : Nat) (d : Array O) (w : World), b - a < N → d0.size = d.size → SWK encO 4 w0 blk off d w → a < m → m < b → b ≤ d.size → d.size < 4611686018427387904 → SortedIn (ltOf cmpO) a m d → SortedIn (ltOf cmpO) m b d →
      Calls Try.prog 43 #[.slice (some ⟨blk, off, none⟩) d.size cap, .int .i64 a, .int .i64 m, .int .i64 b, .func (.func 24) #[] #[]] w (SymPost blk off a b w0 d) := by
  induction N with
  | zero => intro a m b d w h; omega
  | succ N ih =>
    intro a m b d w hN hs S ham hmb hb hsz h1 h2
    by_cases c1 : m = a + 1
    · have := symA_any hO blk off cap a b d0 d w0 w R hs S (by omega) hb hsz (by rw [← c1]; exact h2)
      rw [show ((a : Int) + 1) = ((m : Nat) : Int) by omega] at this
      exact this
    · by_cases c2 : b = m + 1
      · have := symB_any hO blk off cap a m d0 d w0 w R hs S (by omega) (by omega) hsz h1
        rw [show ((m : Int) + 1) = ((b : Nat) : Int) by omega, ← c2] at this
        exact this
      · exact symC_any hO blk off cap d0 w0 R N ih a m b d w hN hs S (by omega) (by omega) hb hsz h1 h2
end Go.Proofs.Ytncbofjgcapcjaa
