/- OutageUnion, walked. -/
import Derived.Test.YtncbofjgcapcjaaA3
namespace Go.Proofs.Ytncbofjgcapcjaa
open Go.RowKit Go.Shelf Go.Lib Go.Sort

theorem setK_asc (k : Nat) (hr : Int) (d : List O) : (setK k hr d).Pairwise (· < ·) := by
  unfold setK; split
  · exact setF_asc _ _ _
  · split
    · exact nowF_asc _ _
    · exact setF_asc _ _ _
theorem setK_union (k : Nat) (hr : Int) (d e : List O) (x : Int) : x ∈ setK k hr (d ++ e) ↔ x ∈ setK k hr d ∨ x ∈ setK k hr e := by
  unfold setK; split
  · rw [setF_mem, setF_mem, setF_mem, cov_append]
  · split
    · rw [nowF_mem, nowF_mem, nowF_mem, cov_append, cov_append]
      constructor
      · rintro ((h | h) | (h | h))
        · exact .inl (.inl h)
        · exact .inr (.inl h)
        · exact .inl (.inr h)
        · exact .inr (.inr h)
      · rintro ((h | h) | (h | h))
        · exact .inl (.inl h)
        · exact .inr (.inl h)
        · exact .inl (.inr h)
        · exact .inr (.inr h)
    · rw [setF_mem, setF_mem, setF_mem, cov_append]
theorem setK_comm (k : Nat) (hr : Int) (d e : List O) : setK k hr (d ++ e) = setK k hr (e ++ d) :=
  eq_of_mem _ _ (setK_asc _ _ _) (setK_asc _ _ _) fun x => by rw [setK_union, setK_union, or_comm]
theorem setK_le (k : Nat) (hr : Int) (d : List O) : (setK k hr d).length ≤ 2 * d.length := by
  unfold setK; split
  · have := setF_le 1 hr d; omega
  · split
    · exact nowF_le hr d
    · have := setF_le 3 hr d; omega
theorem ints_as (v1 v2 : Value) (b1 b2 : Nat) (d e : List Int) (w : World) (o1 : OwnI w b1 v1 d) (o2 : OwnI w b2 v2 e) (hde : d = e) (hm : d.length ≤ 1000000000000) :
    Calls Try.prog 18 #[v1, v2] w fun r w' => r = .returned (.bool true) ∧ Below w.heap.size w w' := by
  subst hde
  obtain ⟨A, cap, rfl⟩ := o1.slice
  obtain ⟨B, cb, rfl⟩ := o2.slice
  have := Ints_any A B cap cb d d w o1.rd o2.rd (by omega)
  simpa using this
theorem getD_in {d : List Int} {k : Nat} (hk : k < d.length) : d.getD k 0 ∈ d := by
  have : d.getD k 0 = d[k] := by simp [List.getD_eq_getElem?_getD, hk]
  rw [this]; exact List.getElem_mem _

set_option maxHeartbeats 8000000 in
set_option maxRecDepth 100000 in
theorem law5_any (A1 A2 : Option Addr) (c1 c2 : Nat) (d e : List O) (hr : Int) (w : World) (h1 : RdO w A1 d) (h2 : RdO w A2 e) (n1 : A1 = none → c1 = 0) (n2 : A2 = none → c2 = 0) :
    Calls Try.prog 5 #[.slice A1 d.length c1, .slice A2 e.length c2, .int .i64 hr] w fun r w' => r = .returned (.bool true) ∧ Below w.heap.size w w' := by
  have R1 := Lib.hid h1
  have R2 := Lib.hid h2
  have N1 := Lib.hid n1
  have N2 := Lib.hid n2
  clear h1 h2 n1 n2
  by_cases hl : 100 < d.length
  · have l1 : decide ((100 : Int) < (d.length : Int)) = true := by simp; omega
    have l2 : decide (100 < d.length) = true := by simp; omega
    go_enter Try.func5, Try.ntmps5
    go_wp2_with fail
    refine (awake_any _).mono ?_
    rintro r w1 ⟨rfl, b1⟩
    go_wp2_with fail
    go_ret
    exact ⟨rfl, b1⟩
  · have l1 : decide ((100 : Int) < (d.length : Int)) = false := by simp; omega
    have l2 : decide (100 < d.length) = false := by simp; omega
    by_cases hm : 100 < e.length
    · have m1 : decide ((100 : Int) < (e.length : Int)) = true := by simp; omega
      have m2 : decide (100 < e.length) = true := by simp; omega
      go_enter Try.func5, Try.ntmps5
      go_wp2_with fail
      refine (awake_any _).mono ?_
      rintro r w1 ⟨rfl, b1⟩
      go_wp2_with fail
      go_ret
      exact ⟨rfl, b1⟩
    · have m1 : decide ((100 : Int) < (e.length : Int)) = false := by simp; omega
      have m2 : decide (100 < e.length) = false := by simp; omega
      go_enter Try.func5, Try.ntmps5
      go_wp2_with fail
      refine (awake_any _).mono ?_
      rintro r w1 ⟨rfl, b1⟩
      have H2 := Lib.hid (own_any A1 c1 d w1 (R1.out.keep b1) N1.out (by omega))
      have B1 := Lib.hid b1
      clear b1
      go_wp2_with fail
      refine H2.out.mono ?_
      rintro r w2 ⟨v2, rfl, o2, b2⟩
      have b2' := B1.out.trans (b2.mono B1.out.size)
      have B2 := Lib.hid b2'
      have O2 := Lib.hid o2
      have hs1 := B1.out.size
      have hs2 := b2.size
      have R2' := Lib.hid (R2.out.keep b2')
      clear b2' o2 b2 B1 H2
      go_wp2_with (first | (refine list_appendO rfl (.tmp 31) (.tmp 32) rfl w1.heap.size _ A2 e.length c2 d e (by rfl) (by rfl) O2.out R2'.out rfl N2.out (by omega) hs2 ?_; intro v3 w3 o3 g3; have O3 := Lib.hid o3; have G3 := Lib.hid g3; clear o3 g3) | fail)
      have b3 := B2.out.grown G3.out (by omega) (fun k e => by have := (O2.out.own k e).1; omega)
      have hs3 := G3.out.size
      have hv3 : Hid (∀ r, v3.ownBlock = some r → r < w3.heap.size) := fun r h => (O3.out.own r h).2
      have B3 := Lib.hid b3
      have H4 := Lib.hid (own_any A2 c2 e w3 (R2.out.keep b3) N2.out (by omega))
      clear b3 R2' G3 B2 O2
      refine H4.out.mono ?_
      rintro r w4 ⟨v4, rfl, o4, b4⟩
      have b4' := B3.out.trans (b4.mono B3.out.size)
      have B4 := Lib.hid b4'
      have O4 := Lib.hid o4
      have O3' := Lib.hid (O3.out.keepB b4)
      have hs4 := b4.size
      have R1' := Lib.hid (R1.out.keep b4')
      clear b4' o4 b4 B3 H4 O3
      go_wp2_with (first | (refine list_appendO rfl (.tmp 35) (.tmp 36) rfl w3.heap.size _ A1 d.length c1 e d (by rfl) (by rfl) O4.out R1'.out rfl N1.out (by omega) hs4 ?_; intro v5 w5 o5 g5; have O5 := Lib.hid o5; have G5 := Lib.hid g5; clear o5 g5) | fail)
      have b5 := B4.out.grown G5.out (by omega) (fun k q => by have := (O4.out.own k q).1; omega)
      have hs5 := G5.out.size
      have B5 := Lib.hid b5
      have O35 := O3'.out.keep G5.out (fun r hr q => by have := hv3.out r hr; have := (O4.out.own r q).1; omega)
      have O55 := O5.out
      have U1 : ∀ k x, x ∈ setK k hr (d ++ e) ↔ x ∈ setK k hr d ∨ x ∈ setK k hr e := fun k x => setK_union k hr d e x
      have U2 : ∀ k, setK k hr (d ++ e) = setK k hr (e ++ d) := fun k => setK_comm k hr d e
      have hll : (d ++ e).length ≤ 200 := by simp; omega
      have hml : (e ++ d).length ≤ 200 := by simp; omega
      generalize d ++ e = lm at O35 U1 U2 hll
      generalize e ++ d = ml at O55 U2 hml
      have UN := Lib.hid U1
      have UC := Lib.hid U2
      obtain ⟨A3, cc3, rfl, _⟩ := O35.slice
      obtain ⟨A5, cc5, rfl, _⟩ := O55.slice
      have P3 := Lib.hid O35
      have P5 := Lib.hid O55
      clear R1' G5 B4 O4 O3' hv3 O5 b5 O35 O55 U1 U2
      go_wp2_with fail
      go_loopw [9] (fun i wr => ∃ k : Nat, k ≤ 3 ∧ i = .int .i64 k ∧ Hid (Below w5.heap.size w5 wr)) (fun i _ => 3 - (intOf i).toNat)
      case atStart => exact ⟨0, by omega, rfl, Below.refl _ _⟩
      case round =>
        obtain ⟨k, hk, rfl, HB⟩ := hrel
        have hsz := HB.out.size
        by_cases hlt : k < 3
        · have kn : (k : Int) < 3 := by omega
          have k0 : (0 : Int) ≤ (k : Int) := by omega
          have S1 := Lib.hid (set17_any k hlt A1 c1 d hr wr (R1.out.keep (B5.out.trans (HB.out.mono B5.out.size))) (by omega))
          go_wp2_with fail
          refine S1.out.mono ?_
          rintro r x1 ⟨a1, rfl, oa1, ba1⟩
          have BB1 := Lib.hid (HB.out.trans (ba1.mono hsz))
          have I1 := Lib.hid oa1
          have S2 := Lib.hid (set17_any k hlt A2 c2 e hr x1 (R2.out.keep (B5.out.trans (BB1.out.mono B5.out.size))) (by omega))
          clear oa1 ba1 S1
          go_wp2_with fail
          refine S2.out.mono ?_
          rintro r x2 ⟨a2, rfl, oa2, ba2⟩
          have BB2 := Lib.hid (BB1.out.trans (ba2.mono BB1.out.size))
          have I2 := Lib.hid oa2
          have I12 := Lib.hid (I1.out.keepB ba2)
          have S3 := Lib.hid (set17_any k hlt A3 cc3 lm hr x2 (P3.out.keepB BB2.out).rd (by omega))
          clear oa2 ba2 S2 I1 BB1
          go_wp2_with fail
          refine S3.out.mono ?_
          rintro r x3 ⟨a3, rfl, oa3, ba3⟩
          have BB3 := Lib.hid (BB2.out.trans (ba3.mono BB2.out.size))
          have I3 := Lib.hid oa3
          have I13 := Lib.hid (I12.out.keepB ba3)
          have I23 := Lib.hid (I2.out.keepB ba3)
          have S4 := Lib.hid (set17_any k hlt A5 cc5 ml hr x3 (P5.out.keepB BB3.out).rd (by omega))
          clear oa3 ba3 S3 I12 I2 BB2
          go_wp2_with fail
          refine S4.out.mono ?_
          rintro r x4 ⟨a4, rfl, oa4, ba4⟩
          have BB4 := Lib.hid (BB3.out.trans (ba4.mono BB3.out.size))
          have I14 := Lib.hid (I13.out.keepB ba4)
          have I24 := Lib.hid (I23.out.keepB ba4)
          have I34 := Lib.hid (I3.out.keepB ba4)
          have q3 := setK_le k hr lm
          have q4 := setK_le k hr ml
          have S5 := Lib.hid (ints_as a3 a4 _ _ _ _ x4 I34.out oa4 (UC.out k) (by omega))
          clear oa4 ba4 S4 I13 I23 I3 BB3 q4
          go_wp2_with fail
          refine S5.out.mono ?_
          rintro r x5 ⟨rfl, ba5⟩
          have BB5 := Lib.hid (BB4.out.trans (ba5.mono BB4.out.size))
          have J1 := I14.out.keepB ba5
          have J2 := I24.out.keepB ba5
          have J3 := I34.out.keepB ba5
          have q1 := setK_le k hr d
          have q2 := setK_le k hr e
          have U := UN.out k
          clear ba5 S5 I14 I24 I34 BB4
          generalize setK k hr d = a at J1 q1 U
          generalize setK k hr e = b at J2 q2 U
          generalize setK k hr lm = x at J3 q3 U
          obtain ⟨D1, e1, rfl⟩ := J1.slice
          obtain ⟨D2, e2, rfl⟩ := J2.slice
          obtain ⟨D3, e3, rfl⟩ := J3.slice
          have K1 := Lib.hid J1
          have K2 := Lib.hid J2
          have K3 := Lib.hid J3
          have UU := Lib.hid U
          clear J1 J2 J3 U
          go_wp2_with fail
          go_loopw [14] (fun i wz => ∃ j : Nat, j ≤ x.length ∧ i = .int .i64 j ∧ wz = x5) (fun i _ => x.length - (intOf i).toNat)
          case atStart => exact ⟨0, Nat.zero_le _, rfl, by first | trivial | rfl⟩
          case round =>
            obtain ⟨j, hj, rfl, rfl⟩ := hrel
            by_cases hlj : j < x.length
            · have j0 : (0 : Int) ≤ (j : Int) := by omega
              have jn : (j : Int) < (x.length : Int) := by omega
              obtain ⟨bb, oo, rfl, hx⟩ := rdI_get K3.out.rd j hlj
              have hin := (UU.out _).1 (getD_in hlj)
              generalize x.getD j 0 = z at hx hin
              cases ha : hasB a z
              · have HA := Lib.hid ha
                have hb : hasB b z = true := by
                  rcases hin with h | h
                  · rw [(hasB_iff a z).2 h] at ha; cases ha
                  · exact (hasB_iff b z).2 h
                have HBz := Lib.hid hb
                clear ha hb hin
                go_wp2_with fail
                refine (has_as _ _ a z _ K1.out (by omega) false HA.out).mono ?_
                rintro r w6 ⟨rfl, rfl⟩
                go_wp2_with fail
                refine (has_as _ _ b z _ K2.out (by omega) true HBz.out).mono ?_
                rintro r w6 ⟨rfl, rfl⟩
                go_wp2_with fail
                go_roundw
                case rel => exact ⟨j + 1, by omega, by go_num, by first | trivial | rfl⟩
                case measure => simp [intOf]; omega
              · have HA := Lib.hid ha
                clear ha hin
                go_wp2_with fail
                refine (has_as _ _ a z _ K1.out (by omega) true HA.out).mono ?_
                rintro r w6 ⟨rfl, rfl⟩
                go_wp2_with fail
                go_roundw
                case rel => exact ⟨j + 1, by omega, by go_num, by first | trivial | rfl⟩
                case measure => simp [intOf]; omega
            · obtain rfl : j = x.length := by omega
              have kd : decide ((x.length : Int) < (x.length : Int)) = false := by simp
              go_wp2_with fail
              go_loopw [15] (fun i wz => ∃ j : Nat, j ≤ a.length ∧ i = .int .i64 j ∧ wz = wr) (fun i _ => a.length - (intOf i).toNat)
              case atStart => exact ⟨0, Nat.zero_le _, rfl, by first | trivial | rfl⟩
              case round =>
                obtain ⟨j, hj, rfl, rfl⟩ := hrel
                by_cases hlj : j < a.length
                · have j0 : (0 : Int) ≤ (j : Int) := by omega
                  have jn : (j : Int) < (a.length : Int) := by omega
                  obtain ⟨bb, oo, rfl, hx⟩ := rdI_get K1.out.rd j hlj
                  have hin := (UU.out _).2 (.inl (getD_in hlj))
                  generalize a.getD j 0 = z at hx hin
                  have HZ := Lib.hid ((hasB_iff x z).2 hin)
                  clear hin
                  go_wp2_with fail
                  refine (has_as _ _ x z _ K3.out (by omega) true HZ.out).mono ?_
                  rintro r w6 ⟨rfl, rfl⟩
                  go_wp2_with fail
                  go_roundw
                  case rel => exact ⟨j + 1, by omega, by go_num, by first | trivial | rfl⟩
                  case measure => simp [intOf]; omega
                · obtain rfl : j = a.length := by omega
                  have kd : decide ((a.length : Int) < (a.length : Int)) = false := by simp
                  go_wp2_with fail
                  go_loopw [16] (fun i wz => ∃ j : Nat, j ≤ b.length ∧ i = .int .i64 j ∧ wz = wr) (fun i _ => b.length - (intOf i).toNat)
                  case atStart => exact ⟨0, Nat.zero_le _, rfl, by first | trivial | rfl⟩
                  case round =>
                    obtain ⟨j, hj, rfl, rfl⟩ := hrel
                    by_cases hlj : j < b.length
                    · have j0 : (0 : Int) ≤ (j : Int) := by omega
                      have jn : (j : Int) < (b.length : Int) := by omega
                      obtain ⟨bb, oo, rfl, hx⟩ := rdI_get K2.out.rd j hlj
                      have hin := (UU.out _).2 (.inr (getD_in hlj))
                      generalize b.getD j 0 = z at hx hin
                      have HZ := Lib.hid ((hasB_iff x z).2 hin)
                      clear hin
                      go_wp2_with fail
                      refine (has_as _ _ x z _ K3.out (by omega) true HZ.out).mono ?_
                      rintro r w6 ⟨rfl, rfl⟩
                      go_wp2_with fail
                      go_roundw
                      case rel => exact ⟨j + 1, by omega, by go_num, by first | trivial | rfl⟩
                      case measure => simp [intOf]; omega
                    · obtain rfl : j = b.length := by omega
                      have kd : decide ((b.length : Int) < (b.length : Int)) = false := by simp
                      go_wp2_with fail
                      go_roundw
                      case rel => exact ⟨k + 1, by omega, by go_num, BB5⟩
                      case measure => simp [intOf]; omega
        · obtain rfl : k = 3 := by omega
          go_wp2_with fail
          go_ret
          exact ⟨rfl, B5.out.trans (HB.out.mono B5.out.size)⟩
end Go.Proofs.Ytncbofjgcapcjaa
