/- The chapter's examples. -/
import Derived.Test.YtncbofjgcapcjaaA1
namespace Go.Proofs.Ytncbofjgcapcjaa
open Go.RowKit Go.Shelf Go.Lib Go.Sort

theorem aT3 : setF 1 1 T3 = [2] := eq_of_mem _ _ (setF_asc _ _ _) (by simp) fun x => by
  rw [setF_mem]; simp [cov, T3]; omega
theorem nT3 : nowF 1 T3 = [1, 2] := eq_of_mem _ _ (nowF_asc _ _) (by simp) fun x => by
  rw [nowF_mem]; simp [cov, T3]; omega
theorem tT3 : setF 3 3 T3 = [0] := eq_of_mem _ _ (setF_asc _ _ _) (by simp) fun x => by
  rw [setF_mem]; simp [cov, T3]; omega
def T2 : List O := [⟨1, 2, 0, 1⟩, ⟨1, 2, 2, 5⟩]
def T1 : List O := [⟨1, 2, 0, 5⟩]
theorem rT2 : ∀ x ∈ T2, rng x := by intro x hx; simp [T2] at hx; rcases hx with rfl | rfl <;> (unfold rng; simp)
theorem nT2 : NF T2 = T1 := nf_unique _ _ (NF_spec rT2).1 ⟨by simp [T1, good, rng], by simp [T1]⟩ fun k w u => by
  rw [(NF_spec rT2).2]; simp [cov, T1, T2]; omega
theorem cT3 : checkF T3 3 1 6 = (0, 0) := by decide
theorem cT3' : checkF T3 3 1 5 = (0, 1) := by decide

theorem rdI_of {w : World} {b : Nat} {d : List Int} (h : ∀ i, i < d.length → w.cell? ⟨b, i, none⟩ = some (.int .i64 (d.getD i 0))) : RdI w (some ⟨b, 0, none⟩) d := fun _ => ⟨b, 0, rfl, fun i hi => by rw [Nat.zero_add]; exact h i hi⟩
theorem check_as (A : Option Addr) (cap n : Nat) (d : List O) (a b c i e : Int) (w : World) (hd : RdO w A d) (hn : d.length = n) (h : checkF d a b c = (i, e)) :
    Calls Try.prog 20 #[.slice A n cap, .int .i64 a, .int .i64 b, .int .i64 c] w fun r w' => r = .returned (.tuple #[.int .i64 i, .int .i64 e]) ∧ Below w.heap.size w w' := by
  subst hn
  have := Check_any A cap d a b c w hd
  rw [h] at this
  exact this
theorem ints_same (v : Value) (base : Nat) (d e : List Int) (B : Option Addr) (n cb : Nat) (w : World) (ho : OwnI w base v d) (he : RdI w B e) (hn : e.length = n) (hde : d = e) (hm : n ≤ 1000000000000) :
    Calls Try.prog 18 #[v, .slice B n cb] w fun r w' => r = .returned (.bool true) ∧ Below w.heap.size w w' := by
  subst hde; subst hn
  obtain ⟨A, cap, rfl⟩ := ho.slice
  have := Ints_any A B cap cb d d w ho.rd he (by omega)
  simpa using this

set_option maxHeartbeats 4000000 in
set_option maxRecDepth 100000 in
theorem awake_any (w : World) : Calls Try.prog 8 #[] w fun e w' => e = .returned (.bool true) ∧ Below w.heap.size w w' := by
  go_enter Try.func8, Try.ntmps8
  go_wp2_with fail
  refine (three_any _).mono ?_
  rintro e w1 ⟨g1, rfl, r1, B1⟩
  have R1 := Lib.hid r1
  clear r1
  go_wp2_with fail
  refine (check_as _ _ 3 T3 3 1 6 0 0 _ R1.out rfl cT3).mono ?_
  rintro e w2 ⟨rfl, b2⟩
  have B2 := B1.trans (b2.mono B1.size)
  clear B1 b2
  go_wp2_with fail
  refine (three_any _).mono ?_
  rintro e w3 ⟨g3, rfl, r3, b3⟩
  have B3 := B2.trans (b3.mono B2.size)
  have R3 := Lib.hid r3
  clear r3 B2 b3 R1
  go_wp2_with fail
  refine (check_as _ _ 3 T3 3 1 5 0 1 _ R3.out rfl cT3').mono ?_
  rintro e w4 ⟨rfl, b4⟩
  have B4 := B3.trans (b4.mono B3.size)
  clear B3 b4 R3
  go_wp2_with fail
  have r5 : RdO (w4.alloc (Obj.cells #[Value.int IntKind.u8 1, Value.int IntKind.i64 2, Value.int IntKind.i64 0, Value.int IntKind.i64 1, Value.int IntKind.u8 1, Value.int IntKind.i64 2, Value.int IntKind.i64 2, Value.int IntKind.i64 5] 27)) (some ⟨w4.heap.size, 0, none⟩) T2 := fun _ => by
    refine ⟨_, 0, rfl, fun i hi => ?_⟩
    have h : i = 0 ∨ i = 1 := by simp [T2] at hi; omega
    rcases h with rfl | rfl <;> simp [cellO, T2, go_sem]
  have B5 := B4.alloc B4.size (Obj.cells #[Value.int IntKind.u8 1, Value.int IntKind.i64 2, Value.int IntKind.i64 0, Value.int IntKind.i64 1, Value.int IntKind.u8 1, Value.int IntKind.i64 2, Value.int IntKind.i64 2, Value.int IntKind.i64 5] 27)
  refine (Normal_any _ 2 T2 _ r5 (by simp [T2]) rT2).mono ?_
  rintro e w6 ⟨v6, rfl, o6, b6⟩
  rw [nT2] at o6
  have B6 := B5.trans (b6.mono B5.size)
  have O6 := Lib.hid o6
  clear B4 r5 B5 b6 o6
  go_wp2_with fail
  refine (three_any _).mono ?_
  rintro e w7 ⟨g7, rfl, r7, b7⟩
  have B7 := B6.trans (b7.mono B6.size)
  have H7 := Lib.hid (ahead_any (some ⟨g7, 0, none⟩) 3 T3 1 w7 r7 (by simp [T3]))
  have O7 := Lib.hid (O6.out.keepB b7)
  clear r7 B6 b7 O6
  go_wp2_with fail
  refine H7.out.mono ?_
  rintro e w8 ⟨v8, rfl, o8, b8⟩
  rw [aT3] at o8
  have B8 := B7.trans (b8.mono B7.size)
  have O8 := Lib.hid (O7.out.keepB b8)
  have I8 := Lib.hid o8
  clear o8 B7 b8 O7 H7
  go_wp2_with fail
  have b9 : Below w8.heap.size w8 (w8.alloc (Obj.cells #[Value.int IntKind.i64 2] 3)) := (Below.refl _ _).alloc (Nat.le_refl _) _
  have i9 := I8.out.keepB b9
  have r9 : RdI (w8.alloc (Obj.cells #[Value.int IntKind.i64 2] 3)) (some ⟨w8.heap.size, 0, none⟩) [2] := rdI_of fun i hi => by
    obtain rfl : i = 0 := by simpa using hi
    simp [go_sem]
  refine (ints_same _ _ [2] [2] _ 1 1 _ i9 r9 rfl rfl (by omega)).mono ?_
  rintro e w10 ⟨rfl, b10⟩
  have b11 := b9.trans (b10.mono b9.size)
  have B10 := B8.trans (b11.mono B8.size)
  have O10 := Lib.hid (O8.out.keepB b11)
  clear B8 b9 i9 r9 b10 b11 O8 I8
  go_wp2_with fail
  refine (three_any _).mono ?_
  rintro e w11 ⟨g11, rfl, r11, b11⟩
  have B11 := B10.trans (b11.mono B10.size)
  have H11 := Lib.hid (now_any (some ⟨g11, 0, none⟩) 3 T3 1 w11 r11 (by simp [T3]))
  have O11 := Lib.hid (O10.out.keepB b11)
  clear r11 B10 b11 O10
  go_wp2_with fail
  refine H11.out.mono ?_
  rintro e w12 ⟨v12, rfl, o12, b12⟩
  rw [nT3] at o12
  have B12 := B11.trans (b12.mono B11.size)
  have O12 := Lib.hid (O11.out.keepB b12)
  have I12 := Lib.hid o12
  clear o12 B11 b12 O11 H11
  go_wp2_with fail
  have b13 : Below w12.heap.size w12 (w12.alloc (Obj.cells #[Value.int IntKind.i64 1, Value.int IntKind.i64 2] 3)) := (Below.refl _ _).alloc (Nat.le_refl _) _
  have i13 := I12.out.keepB b13
  have r13 : RdI (w12.alloc (Obj.cells #[Value.int IntKind.i64 1, Value.int IntKind.i64 2] 3)) (some ⟨w12.heap.size, 0, none⟩) [1, 2] := rdI_of fun i hi => by
    have h : i = 0 ∨ i = 1 := by simp at hi; omega
    rcases h with rfl | rfl <;> simp [go_sem]
  refine (ints_same _ _ [1, 2] [1, 2] _ 2 2 _ i13 r13 rfl rfl (by omega)).mono ?_
  rintro e w14 ⟨rfl, b14⟩
  have b15 := b13.trans (b14.mono b13.size)
  have B14 := B12.trans (b15.mono B12.size)
  have O14 := Lib.hid (O12.out.keepB b15)
  clear B12 b13 i13 r13 b14 b15 O12 I12
  go_wp2_with fail
  refine (three_any _).mono ?_
  rintro e w15 ⟨g15, rfl, r15, b15⟩
  have B15 := B14.trans (b15.mono B14.size)
  have H15 := Lib.hid (trips_any (some ⟨g15, 0, none⟩) 3 T3 3 w15 r15 (by simp [T3]))
  have O15 := Lib.hid (O14.out.keepB b15)
  clear r15 B14 b15 O14
  go_wp2_with fail
  refine H15.out.mono ?_
  rintro e w16 ⟨v16, rfl, o16, b16⟩
  rw [tT3] at o16
  have B16 := B15.trans (b16.mono B15.size)
  have O16 := Lib.hid (O15.out.keepB b16)
  have I16 := Lib.hid o16
  clear o16 B15 b16 O15 H15
  go_wp2_with fail
  have b17 : Below w16.heap.size w16 (w16.alloc (Obj.cells #[Value.int IntKind.i64 0] 3)) := (Below.refl _ _).alloc (Nat.le_refl _) _
  have i17 := I16.out.keepB b17
  have r17 : RdI (w16.alloc (Obj.cells #[Value.int IntKind.i64 0] 3)) (some ⟨w16.heap.size, 0, none⟩) [0] := rdI_of fun i hi => by
    obtain rfl : i = 0 := by simpa using hi
    simp [go_sem]
  refine (ints_same _ _ [0] [0] _ 1 1 _ i17 r17 rfl rfl (by omega)).mono ?_
  rintro e w18 ⟨rfl, b18⟩
  have b19 := b17.trans (b18.mono b17.size)
  have B18 := B16.trans (b19.mono B16.size)
  have O18 := Lib.hid (O16.out.keepB b19)
  clear B16 b17 i17 r17 b18 b19 O16 I16
  go_wp2_with fail
  refine (three_any _).mono ?_
  rintro e w19 ⟨g19, rfl, r19, b19⟩
  have B19 := B18.trans (b19.mono B18.size)
  have O19 := Lib.hid (O18.out.keepB b19)
  have R19 := Lib.hid (rd_take r19 1)
  clear r19 B18 b19 O18
  obtain ⟨A6, c6, rfl, hc6, hn6, hm6⟩ := O19.out.slice
  go_wp2_with fail
  refine (Same_any _ _ _ _ T1 1 _ O19.out.rd R19.out rfl (by omega)).mono ?_
  rintro e w20 ⟨rfl, b20⟩
  have B20 := B19.trans (b20.mono B19.size)
  go_wp2_with fail
  go_ret
  exact ⟨rfl, B20⟩
end Go.Proofs.Ytncbofjgcapcjaa
