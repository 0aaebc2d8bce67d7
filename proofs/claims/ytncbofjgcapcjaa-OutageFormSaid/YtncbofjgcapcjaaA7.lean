/- OutageValid, walked. -/
import Derived.Test.YtncbofjgcapcjaaA4
import Derived.Test.YtncbofjgcapcjaaA5
import Derived.Test.YtncbofjgcapcjaaL3
namespace Go.Proofs.Ytncbofjgcapcjaa
open Go.RowKit Go.Shelf Go.Lib Go.Sort

theorem rd_dropG {w : World} {b o : Nat} {d : List O} (h : RdO w (some ⟨b, o, none⟩) d) (k : Nat) : RdO w (some ⟨b, o + k * 4, none⟩) (d.drop k) := fun hl => by
  have hkl : k < d.length := by simp at hl; omega
  obtain ⟨b', o', e, hi⟩ := h (by omega)
  cases e
  refine ⟨b, o + k * 4, rfl, fun i hi' => ?_⟩
  have hi2 : k + i < d.length := by simp at hi'; omega
  have := hi (k + i) hi2
  rw [show o + k * 4 + i * 4 = o + (k + i) * 4 by omega]
  simpa [List.getD_eq_getElem?_getD, List.getElem?_drop] using this
theorem check_own (v : Value) (base : Nat) (d : List O) (a b c i e : Int) (w : World) (o : OwnO w base v d) (h : checkF d a b c = (i, e)) :
    Calls Try.prog 20 #[v, .int .i64 a, .int .i64 b, .int .i64 c] w fun r w' => r = .returned (.tuple #[.int .i64 i, .int .i64 e]) ∧ Below w.heap.size w w' := by
  obtain ⟨A, cap, rfl, _⟩ := o.slice
  exact check_as A cap d.length d a b c i e w o.rd rfl h

set_option maxHeartbeats 8000000 in
set_option maxRecDepth 100000 in
theorem law7_any (A : Option Addr) (cap : Nat) (d : List O) (a b c hr : Int) (w : World) (hR : RdO w A d) (hcap : d.length ≤ cap) (hn : A = none → cap = 0) (hg : ∀ x ∈ d, rng x) :
    Calls Try.prog 7 #[.slice A d.length cap, .int .i64 a, .int .i64 b, .int .i64 c, .int .i64 hr] w fun r w' => r = .returned (.bool true) ∧ Below w.heap.size w w' := by
  have HR := Lib.hid hR
  have HG := Lib.hid hg
  clear hR hg
  by_cases hl : 100 < d.length
  · have l1 : decide ((100 : Int) < (d.length : Int)) = true := by simp; omega
    have l2 : decide (100 < d.length) = true := by simp; omega
    go_enter Try.func7, Try.ntmps7
    go_wp2_with fail
    refine (awake_any _).mono ?_
    rintro r w1 ⟨rfl, b1⟩
    go_wp2_with fail
    go_ret
    exact ⟨rfl, b1⟩
  · have l1 : decide ((100 : Int) < (d.length : Int)) = false := by simp; omega
    have l2 : decide (100 < d.length) = false := by simp; omega
    rcases checkF_cases d a b c with ⟨h16, hc⟩ | ⟨h16, hall, hc⟩ | ⟨k, z, hk, h16, hc, hz, hc1, hc2⟩
    · have s1 : decide ((16 : Int) < (d.length : Int)) = true := by simp; omega
      have s2 : decide (16 < d.length) = true := by simp; omega
      have HC := Lib.hid hc
      clear hc
      go_enter Try.func7, Try.ntmps7
      go_wp2_with fail
      refine (awake_any _).mono ?_
      rintro r w1 ⟨rfl, b1⟩
      go_wp2_with fail
      refine (check_as A cap d.length d a b c 0 5 w1 (HR.out.keep b1) rfl HC.out).mono ?_
      rintro r w2 ⟨rfl, b2⟩
      go_wp2_with fail
      go_ret
      exact ⟨rfl, b1.trans (b2.mono b1.size)⟩
    · have HC := Lib.hid hc
      have HA := Lib.hid hall
      have f1 : ∀ x ∈ nowF hr d, 0 ≤ x ∧ x < a ∧ 0 ≤ hr ∧ hr < c := fun x hx => nowF_ok hall x hx
      have f2 : ∀ x ∈ setF 3 hr d, 0 ≤ x ∧ x < b ∧ 0 ≤ hr ∧ hr < c := fun x hx => setF3_ok hall x hx
      have f3 : ∀ x ∈ setF 1 hr d, 0 ≤ hr ∧ hr < c := fun x hx => setF1_ok hall x hx
      have q1 := nowF_le hr d
      have q2 := setF_le 3 hr d
      have q3 := setF_le 1 hr d
      have F1 := Lib.hid f1
      have F2 := Lib.hid f2
      have F3 := Lib.hid f3
      have NC := Lib.hid (checkF_ok (NF d) a b c (by have := NF_len d; omega) (NF_chk HG.out a b c hall))
      have DC := Lib.hid (checkF_ok (d.drop (d.length / 2)) a b c (by simp; omega) (fun x hx => hall x (List.mem_of_mem_drop hx)))
      clear hc hall f1 f2 f3
      go_enter Try.func7, Try.ntmps7
      go_wp2_with fail
      refine (awake_any _).mono ?_
      rintro r w1 ⟨rfl, b1⟩
      go_wp2_with fail
      refine (check_as A cap d.length d a b c 0 0 w1 (HR.out.keep b1) rfl HC.out).mono ?_
      rintro r w2 ⟨rfl, b2⟩
      have b2' := b1.trans (b2.mono b1.size)
      have H3 := Lib.hid (ahead_any A cap d hr w2 (HR.out.keep b2') (by omega))
      have B2 := Lib.hid b2'
      clear b1 b2 b2'
      go_wp2_with fail
      refine H3.out.mono ?_
      rintro r w3 ⟨v3, rfl, o3, b3⟩
      have b3' := B2.out.trans (b3.mono B2.out.size)
      have H4 := Lib.hid (now_any A cap d hr w3 (HR.out.keep b3') (by omega))
      have B3 := Lib.hid b3'
      have O3 := Lib.hid o3
      clear o3 b3 b3' H3 B2
      go_wp2_with fail
      refine H4.out.mono ?_
      rintro r w4 ⟨v4, rfl, o4, b4⟩
      have b4' := B3.out.trans (b4.mono B3.out.size)
      have H5 := Lib.hid (trips_any A cap d hr w4 (HR.out.keep b4') (by omega))
      have B4 := Lib.hid b4'
      have O4 := Lib.hid o4
      have O34 := Lib.hid (O3.out.keepB b4)
      clear o4 b4 b4' H4 B3 O3
      go_wp2_with fail
      refine H5.out.mono ?_
      rintro r w5 ⟨v5, rfl, o5, b5⟩
      have b5' := B4.out.trans (b5.mono B4.out.size)
      have B5 := Lib.hid b5'
      have O35 := O34.out.keepB b5
      have O45 := O4.out.keepB b5
      have f1 := F1.out
      have f2 := F2.out
      have f3 := F3.out
      clear b5 b5' H5 B4 O34 O4 F1 F2 F3
      generalize setF 1 hr d = s1 at O35 f3 q3
      generalize nowF hr d = s2 at O45 f1 q1
      generalize setF 3 hr d = s3 at o5 f2 q2
      obtain ⟨A3, c3, rfl⟩ := O35.slice
      obtain ⟨A4, c4, rfl⟩ := O45.slice
      obtain ⟨A5, c5, rfl⟩ := o5.slice
      have F1 := Lib.hid f1
      have F2 := Lib.hid f2
      have F3 := Lib.hid f3
      have P4 := Lib.hid O45
      have P5 := Lib.hid o5
      clear O35 O45 o5 f1 f2 f3
      go_wp2_with fail
      go_loopw [20] (fun i wz => ∃ j : Nat, j ≤ s2.length ∧ i = .int .i64 j ∧ wz = w5) (fun i _ => s2.length - (intOf i).toNat)
      case atStart => exact ⟨0, Nat.zero_le _, rfl, by first | trivial | rfl⟩
      case round =>
        obtain ⟨j, hj, rfl, rfl⟩ := hrel
        by_cases hlj : j < s2.length
        · have j0 : (0 : Int) ≤ (j : Int) := by omega
          have jn : (j : Int) < (s2.length : Int) := by omega
          obtain ⟨bb, oo, rfl, hx⟩ := rdI_get P4.out.rd j hlj
          have hin := F1.out _ (getD_in hlj)
          generalize s2.getD j 0 = z at hx hin
          have z1 : decide (z < 0) = false := by simp; omega
          have z2 : decide (a ≤ z) = false := by simp; omega
          clear hin
          go_wp2_with fail
          go_roundw
          case rel => exact ⟨j + 1, by omega, by go_num, by first | trivial | rfl⟩
          case measure => simp [intOf]; omega
        · obtain rfl : j = s2.length := by omega
          have kd : decide ((s2.length : Int) < (s2.length : Int)) = false := by simp
          go_wp2_with fail
          go_loopw [21] (fun i wz => ∃ j : Nat, j ≤ s3.length ∧ i = .int .i64 j ∧ wz = wr) (fun i _ => s3.length - (intOf i).toNat)
          case atStart => exact ⟨0, Nat.zero_le _, rfl, by first | trivial | rfl⟩
          case round =>
            obtain ⟨j, hj, rfl, rfl⟩ := hrel
            by_cases hlj : j < s3.length
            · have j0 : (0 : Int) ≤ (j : Int) := by omega
              have jn : (j : Int) < (s3.length : Int) := by omega
              obtain ⟨bb, oo, rfl, hx⟩ := rdI_get P5.out.rd j hlj
              have hin := F2.out _ (getD_in hlj)
              generalize s3.getD j 0 = z at hx hin
              have z1 : decide (z < 0) = false := by simp; omega
              have z2 : decide (b ≤ z) = false := by simp; omega
              clear hin
              go_wp2_with fail
              go_roundw
              case rel => exact ⟨j + 1, by omega, by go_num, by first | trivial | rfl⟩
              case measure => simp [intOf]; omega
            · obtain rfl : j = s3.length := by omega
              have kd : decide ((s3.length : Int) < (s3.length : Int)) = false := by simp
              have H6 := Lib.hid (Normal_any A cap d wr (HR.out.keep B5.out) (by omega) HG.out)
              go_wp2_with fail
              refine H6.out.mono ?_
              rintro r w6 ⟨v6, rfl, o6, b6⟩
              have b6' := B5.out.trans (b6.mono B5.out.size)
              have H7 := Lib.hid (check_own v6 _ _ a b c 0 0 w6 o6 NC.out)
              have B6 := Lib.hid b6'
              clear b6 b6' o6 H6
              go_wp2_with fail
              refine H7.out.mono ?_
              rintro r w7 ⟨rfl, b7⟩
              have B7 := Lib.hid (B6.out.trans (b7.mono B6.out.size))
              clear b7 H7 B6
              have hs7 := B7.out.size
              by_cases hd0 : d = []
              · subst hd0
                cases A with
                | none =>
                  obtain rfl := hn rfl
                  go_wp2_with fail
                  refine (check_as _ _ _ ([] : List O) a b c 0 0 _ (fun h => by simp at h) (by simp) DC.out).mono ?_
                  rintro r w8 ⟨rfl, b8⟩
                  have B8 := Lib.hid (B7.out.trans (b8.mono B7.out.size))
                  clear b8
                  by_cases hin : 0 ≤ hr ∧ hr < c
                  · have t1 : decide (0 ≤ hr) = true := by simp; omega
                    have t2 : decide (hr < c) = true := by simp; omega
                    go_wp2_with fail
                    go_ret
                    exact ⟨rfl, B8.out⟩
                  · obtain rfl := empty_of (fun x hx => (F1.out x hx).2.2) hin
                    obtain rfl := empty_of (fun x hx => (F2.out x hx).2.2) hin
                    obtain rfl := empty_of (fun x hx => F3.out x hx) hin
                    by_cases h0 : 0 ≤ hr
                    · have t1 : decide (0 ≤ hr) = true := by simp; omega
                      have t2 : decide (hr < c) = false := by simp; omega
                      clear hin
                      go_wp2_with fail
                      go_ret
                      exact ⟨rfl, B8.out⟩
                    · have t1 : decide (0 ≤ hr) = false := by simp; omega
                      clear hin
                      go_wp2_with fail
                      go_ret
                      exact ⟨rfl, B8.out⟩
                | some aa =>
                  go_wp2_with fail
                  refine (check_as _ _ _ ([] : List O) a b c 0 0 _ (fun h => by simp at h) (by simp) DC.out).mono ?_
                  rintro r w8 ⟨rfl, b8⟩
                  have B8 := Lib.hid (B7.out.trans (b8.mono B7.out.size))
                  clear b8
                  by_cases hin : 0 ≤ hr ∧ hr < c
                  · have t1 : decide (0 ≤ hr) = true := by simp; omega
                    have t2 : decide (hr < c) = true := by simp; omega
                    go_wp2_with fail
                    go_ret
                    exact ⟨rfl, B8.out⟩
                  · obtain rfl := empty_of (fun x hx => (F1.out x hx).2.2) hin
                    obtain rfl := empty_of (fun x hx => (F2.out x hx).2.2) hin
                    obtain rfl := empty_of (fun x hx => F3.out x hx) hin
                    by_cases h0 : 0 ≤ hr
                    · have t1 : decide (0 ≤ hr) = true := by simp; omega
                      have t2 : decide (hr < c) = false := by simp; omega
                      clear hin
                      go_wp2_with fail
                      go_ret
                      exact ⟨rfl, B8.out⟩
                    · have t1 : decide (0 ≤ hr) = false := by simp; omega
                      clear hin
                      go_wp2_with fail
                      go_ret
                      exact ⟨rfl, B8.out⟩
              · have hp : 0 < d.length := List.length_pos_iff.2 hd0
                obtain ⟨bb, oo, rfl, _⟩ := HR.out hp
                have RD7 := Lib.hid (rd_dropG (HR.out.keep B7.out) (d.length / 2))
                have h2 : Int.tdiv (d.length : Int) 2 = ((d.length / 2 : Nat) : Int) := by rw [Int.tdiv_eq_ediv_of_nonneg (by omega)]; omega
                have h3 : ¬ cap = d.length / 2 := by omega
                have h4 : (0 : Int) ≤ ((d.length / 2 : Nat) : Int) := by omega
                have h5 : ((d.length / 2 : Nat) : Int) ≤ (d.length : Int) := by omega
                clear hn hd0
                go_wp2_with fail
                refine (check_as _ _ _ (d.drop (d.length / 2)) a b c 0 0 _ RD7.out (by simp) DC.out).mono ?_
                rintro r w8 ⟨rfl, b8⟩
                have B8 := Lib.hid (B7.out.trans (b8.mono B7.out.size))
                clear b8
                by_cases hin : 0 ≤ hr ∧ hr < c
                · have t1 : decide (0 ≤ hr) = true := by simp; omega
                  have t2 : decide (hr < c) = true := by simp; omega
                  go_wp2_with fail
                  go_ret
                  exact ⟨rfl, B8.out⟩
                · obtain rfl := empty_of (fun x hx => (F1.out x hx).2.2) hin
                  obtain rfl := empty_of (fun x hx => (F2.out x hx).2.2) hin
                  obtain rfl := empty_of (fun x hx => F3.out x hx) hin
                  by_cases h0 : 0 ≤ hr
                  · have t1 : decide (0 ≤ hr) = true := by simp; omega
                    have t2 : decide (hr < c) = false := by simp; omega
                    clear hin
                    go_wp2_with fail
                    go_ret
                    exact ⟨rfl, B8.out⟩
                  · have t1 : decide (0 ≤ hr) = false := by simp; omega
                    clear hin
                    go_wp2_with fail
                    go_ret
                    exact ⟨rfl, B8.out⟩
    · obtain ⟨bb, oo, rfl, _⟩ := HR.out (by omega)
      have RT := Lib.hid (fun w' (h : Below w.heap.size w w') => rd_take (HR.out.keep h) k)
      have RK := Lib.hid (fun w' (h : Below w.heap.size w w') => rd_take (rd_dropG (HR.out.keep h) k) 1)
      have HC := Lib.hid hc
      have C1 := Lib.hid hc1
      have C2 := Lib.hid hc2
      have i0 : decide ((k : Int) < 0) = false := by first | (simp; done) | (simp; omega)
      have i1 : decide ((d.length : Int) ≤ (k : Int)) = false := by simp; omega
      have i2 : decide (d.length ≤ k) = false := by simp; omega
      have i3 : (0 : Int) ≤ (k : Int) := by omega
      have i4 : (k : Int) ≤ (cap : Int) := by omega
      have i5 : (k : Int) + 1 ≤ (cap : Int) := by omega
      have i6 : (k : Int) ≤ (k : Int) + 1 := by omega
      have i7 : ¬ cap = k := by omega
      have z1 : (z != 0) = true := by rcases hz with rfl | rfl <;> rfl
      have z2 : (z == 5) = false := by rcases hz with rfl | rfl <;> rfl
      have z3 : (z == z) = true := by simp
      have hlt1 : (d.take k).length = k := by simp; omega
      have hlt2 : ((d.drop k).take 1).length = 1 := by simp; omega
      clear hc hc1 hc2 hz
      go_enter Try.func7, Try.ntmps7
      go_wp2_with fail
      refine (awake_any _).mono ?_
      rintro r w1 ⟨rfl, b1⟩
      go_wp2_with fail
      refine (check_as _ cap d.length d a b c k z w1 (HR.out.keep b1) rfl HC.out).mono ?_
      rintro r w2 ⟨rfl, b2⟩
      have b2' := b1.trans (b2.mono b1.size)
      have B2 := Lib.hid b2'
      clear b1 b2 b2'
      go_wp2_with fail
      refine (check_as _ _ _ (d.take k) a b c 0 0 w2 (RT.out _ B2.out) hlt1 C1.out).mono ?_
      rintro r w3 ⟨rfl, b3⟩
      have B3 := Lib.hid (B2.out.trans (b3.mono B2.out.size))
      clear b3 B2
      go_wp2_with fail
      refine (check_as _ _ _ ((d.drop k).take 1) a b c 0 z w3 (RK.out _ B3.out) hlt2 C2.out).mono ?_
      rintro r w4 ⟨rfl, b4⟩
      have B4 := Lib.hid (B3.out.trans (b4.mono B3.out.size))
      clear b4 B3
      go_wp2_with fail
      go_ret
      exact ⟨rfl, B4.out⟩
end Go.Proofs.Ytncbofjgcapcjaa
