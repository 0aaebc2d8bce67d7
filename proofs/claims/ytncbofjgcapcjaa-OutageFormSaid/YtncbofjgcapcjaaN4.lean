/- outage.Normal, as it is computed. -/
import Derived.Test.YtncbofjgcapcjaaN3
namespace Go.Proofs.Ytncbofjgcapcjaa
open Go.RowKit Go.Shelf Go.Lib Go.Sort

theorem normS_len (d : List O) : (normS d).length ≤ d.length := by
  have H : ∀ (d s : List O), (d.foldl (fun out x => if x.t < x.f then out else mergeN out x) s).length ≤ s.length + d.length := by
    intro d
    induction d with
    | nil => intro s; simp
    | cons x d ih =>
      intro s
      rw [List.foldl_cons]
      refine Nat.le_trans (ih _) ?_
      split
      · simp
      · have := mergeN_len s x; simp; omega
  simpa [normS] using H d []
theorem normS_snoc (d : List O) (k : Nat) (h : k < d.length) : normS (d.take (k + 1)) = if (d.getD k default).t < (d.getD k default).f then normS (d.take k) else mergeN (normS (d.take k)) (d.getD k default) := by
  rw [List.take_succ_eq_append_getElem h, normS, List.foldl_append]
  have e : d.getD k default = d[k] := by simp [h]
  rw [e]; rfl

set_option maxHeartbeats 4000000 in
set_option maxRecDepth 100000 in
theorem outNormal_any (hO : SWO (ltOf cmpO)) (A : Option Addr) (cap : Nat) (d : List O) (w : World) (hR : RdO w A d) (hlen : d.length ≤ 100000000) :
    Calls Try.prog 10 #[.slice A d.length cap] w fun e w' => ∃ v s, e = .returned v ∧ s.Perm d ∧ SortedL s ∧ OwnO w' w.heap.size v (normS s) ∧ Below w.heap.size w w' := by
  have HC := Lib.hid (clone22_any A cap d w hR (by omega))
  have HO := Lib.hid hO
  clear hR hO
  go_enter Try.func10, Try.ntmps10
  go_wp2_with fail
  refine HC.out.mono ?_
  rintro e w1 ⟨v1, rfl, o1, b1⟩
  have HS := Lib.hid (sort22_any HO.out w.heap.size v1 d w1 o1 hlen b1.size)
  have B1 := Lib.hid b1
  clear HC HO o1 b1
  go_wp2_with fail
  refine HS.out.mono ?_
  rintro e wm ⟨rfl, S, hp, hsort, o2, b2⟩
  have hsl : S.length = d.length := hp.length_eq
  have bm := B1.out.trans b2
  have HP : Hid (S.Perm d ∧ SortedL S) := ⟨hp, hsort⟩
  obtain ⟨A3, c3, rfl, hcap, hnil, hmx⟩ := o2.slice
  have HO2 := Lib.hid o2
  have BM := Lib.hid bm
  clear HS B1 o2 b2 bm hp hsort
  go_wp2_with fail
  go_loopw [2, 14] (fun s i w2 => ∃ k : Nat, k ≤ S.length ∧ i = .int .i64 k ∧ OwnO w2 wm.heap.size s (normS (S.take k)) ∧ Below wm.heap.size wm w2) (fun _ i _ => S.length - (intOf i).toNat)
  case atStart => exact ⟨0, Nat.zero_le _, rfl, OwnO.nil _ _, Below.refl _ _⟩
  case round =>
    obtain ⟨k, hk, rfl, hU, hB2⟩ := hrel
    have hul := normS_len (S.take k)
    rw [List.length_take] at hul
    by_cases hlt2 : k < S.length
    · obtain ⟨g, rfl⟩ : ∃ g, A3 = some ⟨g, 0, none⟩ := by
        rcases HO2.out.shape with ⟨e, e2⟩ | ⟨g, _, _, e, _⟩
        · rw [e2] at hlt2; exact absurd hlt2 (by simp)
        · exact ⟨g, by injection e⟩
      have hx := (HO2.out.cells k hlt2).1.keep hB2
      have hns := normS_snoc S k hlt2
      generalize S.getD k default = x at hx hns
      generalize normS (S.take k) = U at hU hul hns
      have k0 : (0 : Int) ≤ (k : Int) := by omega
      have kn : (k : Int) < (S.length : Int) := by omega
      have HNS := Lib.hid hns
      obtain ⟨A7, c7, rfl, hcap7, hnil7, hmx7⟩ := hU.slice
      have hws := hB2.size
      have hfin : ∀ (w3 w6 : World) (v6 : Value), Below wr.heap.size wr w3 → OwnO w6 wm.heap.size v6 (U ++ [x]) → w3.grownBy w6 (Value.ownBlock (.slice A7 U.length c7)) → ¬ x.t < x.f → mergeN U x = U ++ [x] →
          OwnO w6 wm.heap.size v6 (normS (S.take (k + 1))) ∧ Below wm.heap.size wm w6 := fun w3 w6 v6 h1 h2 h3 hq h4 =>
        ⟨by rw [HNS.out, if_neg hq, h4]; exact h2, (hB2.trans (h1.mono hws)).grown h3 (by have := h1.size; omega) (fun k e => (hU.own k e).1)⟩
      have HFIN := Lib.hid hfin
      have HB2 := Lib.hid hB2
      have HU := Lib.hid hU
      obtain ⟨c0, c1, c2, c3⟩ := hx
      clear hfin hns hB2 hU hnil7
      go_upto_region 6 with fail
      have d0 : (wr.alloc (.cells #[.int .u8 x.k, .int .i64 x.wh, .int .i64 x.f, .int .i64 x.t] 27)).cell? ⟨wr.heap.size, 0, none⟩ = some (.int .u8 x.k) := by simp [go_sem]
      have d1 : (wr.alloc (.cells #[.int .u8 x.k, .int .i64 x.wh, .int .i64 x.f, .int .i64 x.t] 27)).cell? ⟨wr.heap.size, 1, none⟩ = some (.int .i64 x.wh) := by simp [go_sem]
      have d2 : (wr.alloc (.cells #[.int .u8 x.k, .int .i64 x.wh, .int .i64 x.f, .int .i64 x.t] 27)).cell? ⟨wr.heap.size, 2, none⟩ = some (.int .i64 x.f) := by simp [go_sem]
      have d3 : (wr.alloc (.cells #[.int .u8 x.k, .int .i64 x.wh, .int .i64 x.f, .int .i64 x.t] 27)).cell? ⟨wr.heap.size, 3, none⟩ = some (.int .i64 x.t) := by simp [go_sem]
      have bW : Below wr.heap.size wr (wr.alloc (.cells #[.int .u8 x.k, .int .i64 x.wh, .int .i64 x.f, .int .i64 x.t] 27)) := (Below.refl _ _).alloc (Nat.le_refl _) _
      generalize (wr.alloc (.cells #[.int .u8 x.k, .int .i64 x.wh, .int .i64 x.f, .int .i64 x.t] 27)) = W at d0 d1 d2 d3 bW ⊢
      clear c0 c1 c2 c3
      have HU2 := Lib.hid (HU.out.keepB bW)
      have hsW := bW.size
      have BW := Lib.hid bW
      clear bW
      by_cases htf : x.t < x.f
      · go_wp2_with fail
        go_roundw
        case rel => exact ⟨k + 1, by omega, by go_num, by rw [HNS.out, if_pos htf]; exact HU2.out, HB2.out.trans (BW.out.mono hws)⟩
        case measure => simp [intOf]; omega
      · have htb : decide (x.t < x.f) = false := decide_eq_false htf
        have HTF := Lib.hid htf
        clear htf
        by_cases hq0 : U.length = 0
        · obtain rfl := List.eq_nil_of_length_eq_zero hq0
          go_wp2_with (refine list_appendO rfl (.tmp 76) (.tmp 78) rfl wm.heap.size _ _ 1 1 [] [x] (by rfl) (by rfl) (HU2.out.keepB ((Below.refl _ _).alloc (Nat.le_refl _) _)) (RdO.new _ x) rfl (fun h => by cases h) (by simp) (by first | (simp; done) | (simp; omega)) ?_; intro v6 w6 o6 g6; have O6 := Lib.hid o6; have G6 := Lib.hid g6; clear o6 g6)
          go_roundw
          case rel =>
            have hh := HFIN.out _ _ _ (BW.out.alloc (by omega) _) O6.out G6.out HTF.out (by simp [mergeN])
            first | exact ⟨k + 1, by omega, by go_num, hh.1, hh.2⟩ | ((repeat apply Exists.intro); refine ⟨⟨k + 1, by omega, ?_, hh.1, hh.2⟩, rfl⟩; go_num)
          case measure => simp [intOf]; omega
        · obtain ⟨q, hq⟩ : ∃ q, U.length = q + 1 := ⟨U.length - 1, by omega⟩
          obtain ⟨g7, rfl⟩ : ∃ g, A7 = some ⟨g, 0, none⟩ := by
            rcases HU.out.shape with ⟨e, e2⟩ | ⟨g, _, _, e, _⟩
            · rw [e2] at hq; exact absurd hq (by simp)
            · exact ⟨g, by injection e⟩
          have qt : ((U.length : Int) - 1).toNat = q := by omega
          have qw : IntKind.i64.wrap ((U.length : Int) - 1) = (U.length : Int) - 1 := by rw [IntKind.wrap_i64]; omega
          have q00 : (0 : Int) ≤ (U.length : Int) - 1 := by omega
          have qlt : (U.length : Int) - 1 < (U.length : Int) := by omega
          have qpos : decide ((0 : Int) < (U.length : Int)) = true := by simp; omega
          have qpos2 : decide (0 < U.length) = true := by simp; omega
          have qpos3 : (0 : Int) < (U.length : Int) := by omega
          have qpos4 : 0 < U.length := by omega
          have qpos5 : (1 : Int) ≤ (U.length : Int) := by omega
          have hy := (HU2.out.cells q (by omega)).1
          have fz := (HU2.out.cells q (by omega)).2.2.2.2
          have my := merge_yes U x q hq
          have mn := merge_no U x q hq
          have hset := HU2.out.setT q (by omega)
          have hob := HU.out.own
          generalize U.getD q default = y at hy my mn hset
          obtain ⟨b0, b1, b2, b3⟩ := hy
          have MY := Lib.hid my
          have MN := Lib.hid mn
          have HSET := Lib.hid hset
          have HOB := Lib.hid hob
          have HQ := Lib.hid hq
          clear my mn hset hob hq
          by_cases h1 : y.k = x.k
          · have t1 : (y.k == x.k) = true := by simp [h1]
            by_cases h2 : y.wh = x.wh
            · have t2 : (y.wh == x.wh) = true := by simp [h2]
              by_cases h3 : x.f ≤ y.t
              · have t3 : decide (x.f ≤ y.t) = true := by simp [h3]
                have HT : Hid (touch y x = true) := by show _ = _; simp [touch, h1, h2, h3]
                clear h1 h2
                go_wp2_with fail
                go_quiet (fail)
                have HST := Lib.hid (HSET.out (max y.t x.t))
                go_wp2_with fail
                go_big_region
                go_wp2_with fail
                go_roundw
                case rel =>
                  have hh : OwnO (((W.drewN nq).setCell ⟨g7, q * 4 + 3, none⟩ (.int .i64 (max y.t x.t))).drew) wm.heap.size (.slice (some ⟨g7, 0, none⟩) U.length c7) (normS (S.take (k + 1))) ∧ Below wm.heap.size wm (((W.drewN nq).setCell ⟨g7, q * 4 + 3, none⟩ (.int .i64 (max y.t x.t))).drew) := by
                    refine ⟨?_, ?_⟩
                    · rw [HNS.out, if_neg (by have := HTF.out; omega), MY.out HT.out]; exact (HST.out.keepB (pw_below_drewN (Below.refl _ _) (nq + 1)))
                    · exact ((HB2.out.trans ((pw_below_drewN BW.out nq).mono hws)).setCell (by have := HOB.out g7 rfl; exact this.1) _).drew
                  first | exact ⟨k + 1, by omega, by go_num, hh.1, hh.2⟩ | ((repeat apply Exists.intro); refine ⟨⟨k + 1, by omega, ?_, hh.1, hh.2⟩, rfl⟩; go_num)
                case measure => simp [intOf]; omega
              · have t3 : decide (x.f ≤ y.t) = false := by simp; omega
                by_cases h4 : (wrap64 (x.f - 1) == y.t) = true
                · skip
                  have HT : Hid (touch y x = true) := by show _ = _; simp [touch, h1, h2, h3, h4]
                  clear h1 h2 h3
                  go_wp2_with fail
                  go_quiet (fail)
                  have HST := Lib.hid (HSET.out (max y.t x.t))
                  go_wp2_with fail
                  go_big_region
                  go_wp2_with fail
                  go_roundw
                  case rel =>
                    have hh : OwnO (((W.drewN nq).setCell ⟨g7, q * 4 + 3, none⟩ (.int .i64 (max y.t x.t))).drew) wm.heap.size (.slice (some ⟨g7, 0, none⟩) U.length c7) (normS (S.take (k + 1))) ∧ Below wm.heap.size wm (((W.drewN nq).setCell ⟨g7, q * 4 + 3, none⟩ (.int .i64 (max y.t x.t))).drew) := by
                      refine ⟨?_, ?_⟩
                      · rw [HNS.out, if_neg (by have := HTF.out; omega), MY.out HT.out]; exact (HST.out.keepB (pw_below_drewN (Below.refl _ _) (nq + 1)))
                      · exact ((HB2.out.trans ((pw_below_drewN BW.out nq).mono hws)).setCell (by have := HOB.out g7 rfl; exact this.1) _).drew
                    first | exact ⟨k + 1, by omega, by go_num, hh.1, hh.2⟩ | ((repeat apply Exists.intro); refine ⟨⟨k + 1, by omega, ?_, hh.1, hh.2⟩, rfl⟩; go_num)
                  case measure => simp [intOf]; omega
                · have h5 : (wrap64 (x.f - 1) == y.t) = false := by simpa using h4
                  skip
                  have HT : Hid (touch y x = false) := by show _ = _; simp [touch, h1, h2, h3, h5]
                  clear h1 h2 h3 h4
                  go_wp2_with fail
                  go_quiet (fail)
                  go_wp2_with (refine list_appendO rfl (.tmp 76) (.tmp 78) rfl wm.heap.size _ _ 1 1 U [x] (by rfl) (by rfl) (HU2.out.keepB ((pw_below_drewN (Below.refl _ _) _).alloc (Nat.le_refl _) _)) (RdO.new _ x) rfl (fun h => by cases h) (by simp; omega) (by first | (simp; done) | (simp; omega)) ?_; intro v6 w6 o6 g6; have O6 := Lib.hid o6; have G6 := Lib.hid g6; clear o6 g6)
                  go_roundw
                  case rel =>
                    have hh := HFIN.out _ _ _ ((pw_below_drewN BW.out _).alloc (by first | (simp; done) | (simp; omega)) _) O6.out G6.out HTF.out (MN.out HT.out)
                    first | exact ⟨k + 1, by omega, by go_num, hh.1, hh.2⟩ | ((repeat apply Exists.intro); refine ⟨⟨k + 1, by omega, ?_, hh.1, hh.2⟩, rfl⟩; go_num)
                  case measure => simp [intOf]; omega
            · have t2 : (y.wh == x.wh) = false := by simp [h2]
              have HT : Hid (touch y x = false) := by show _ = _; simp [touch, h1, h2]
              clear h1 h2
              go_wp2_with fail
              go_quiet (fail)
              go_wp2_with (refine list_appendO rfl (.tmp 76) (.tmp 78) rfl wm.heap.size _ _ 1 1 U [x] (by rfl) (by rfl) (HU2.out.keepB ((pw_below_drewN (Below.refl _ _) _).alloc (Nat.le_refl _) _)) (RdO.new _ x) rfl (fun h => by cases h) (by simp; omega) (by first | (simp; done) | (simp; omega)) ?_; intro v6 w6 o6 g6; have O6 := Lib.hid o6; have G6 := Lib.hid g6; clear o6 g6)
              go_roundw
              case rel =>
                have hh := HFIN.out _ _ _ ((pw_below_drewN BW.out _).alloc (by first | (simp; done) | (simp; omega)) _) O6.out G6.out HTF.out (MN.out HT.out)
                first | exact ⟨k + 1, by omega, by go_num, hh.1, hh.2⟩ | ((repeat apply Exists.intro); refine ⟨⟨k + 1, by omega, ?_, hh.1, hh.2⟩, rfl⟩; go_num)
              case measure => simp [intOf]; omega
          · have t1 : (y.k == x.k) = false := by simp [h1]
            have HT : Hid (touch y x = false) := by show _ = _; simp [touch, h1]
            clear h1
            go_wp2_with fail
            go_quiet (fail)
            go_wp2_with (refine list_appendO rfl (.tmp 76) (.tmp 78) rfl wm.heap.size _ _ 1 1 U [x] (by rfl) (by rfl) (HU2.out.keepB ((pw_below_drewN (Below.refl _ _) _).alloc (Nat.le_refl _) _)) (RdO.new _ x) rfl (fun h => by cases h) (by simp; omega) (by first | (simp; done) | (simp; omega)) ?_; intro v6 w6 o6 g6; have O6 := Lib.hid o6; have G6 := Lib.hid g6; clear o6 g6)
            go_roundw
            case rel =>
              have hh := HFIN.out _ _ _ ((pw_below_drewN BW.out _).alloc (by first | (simp; done) | (simp; omega)) _) O6.out G6.out HTF.out (MN.out HT.out)
              first | exact ⟨k + 1, by omega, by go_num, hh.1, hh.2⟩ | ((repeat apply Exists.intro); refine ⟨⟨k + 1, by omega, ?_, hh.1, hh.2⟩, rfl⟩; go_num)
            case measure => simp [intOf]; omega
    · obtain rfl : k = S.length := by omega
      rw [List.take_length] at hU
      have HU := Lib.hid hU
      clear hU
      have kd : decide ((S.length : Int) < (S.length : Int)) = false := by simp
      go_wp2_with fail
      go_ret
      exact ⟨_, S, rfl, HP.out.1, HP.out.2, HU.out.base_le BM.out.size, BM.out.trans (hB2.mono BM.out.size)⟩
end Go.Proofs.Ytncbofjgcapcjaa
