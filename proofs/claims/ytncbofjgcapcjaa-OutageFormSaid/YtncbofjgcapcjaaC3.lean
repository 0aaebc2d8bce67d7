/- The line sets of an hour: a day ahead, in real time, and the units that trip. -/
import Derived.Test.YtncbofjgcapcjaaC2
import Derived.Test.YtncbofjgcapcjaaF3
import Derived.Laws.AppendOwnNone
namespace Go.Proofs.Ytncbofjgcapcjaa
open Go.RowKit Go.Shelf Go.Lib Go.Sort

set_option maxHeartbeats 800000 in
theorem ahead_any (A : Option Addr) (cap : Nat) (d : List O) (hr : Int) (w : World) (hR : RdO w A d) (hlen : d.length ≤ 1000000000000) :
    Calls Try.prog 13 #[.slice A d.length cap, .int .i64 hr] w fun e w' => ∃ v, e = .returned v ∧ OwnI w' w.heap.size v (setF 1 hr d) ∧ Below w.heap.size w w' := by
  have H := Lib.hid (set_any A cap d 1 hr w hR hlen)
  clear hR
  go_enter Try.func13, Try.ntmps13
  go_wp2_with fail
  refine H.out.mono ?_
  rintro e w' ⟨v, rfl, ho, hb⟩
  have HO := Lib.hid ho
  clear ho
  go_wp2_with fail
  go_ret
  exact ⟨v, rfl, HO.out, hb⟩

set_option maxHeartbeats 800000 in
theorem trips_any (A : Option Addr) (cap : Nat) (d : List O) (hr : Int) (w : World) (hR : RdO w A d) (hlen : d.length ≤ 1000000000000) :
    Calls Try.prog 19 #[.slice A d.length cap, .int .i64 hr] w fun e w' => ∃ v, e = .returned v ∧ OwnI w' w.heap.size v (setF 3 hr d) ∧ Below w.heap.size w w' := by
  have H := Lib.hid (set_any A cap d 3 hr w hR hlen)
  clear hR
  go_enter Try.func19, Try.ntmps19
  go_wp2_with fail
  refine H.out.mono ?_
  rintro e w' ⟨v, rfl, ho, hb⟩
  have HO := Lib.hid ho
  clear ho
  go_wp2_with fail
  go_ret
  exact ⟨v, rfl, HO.out, hb⟩

theorem clone_own (v : Value) (base : Nat) (zs : List Int) (w : World) (h : OwnI w base v zs) (hl : zs.length ≤ 1000000000000) :
    Calls Try.prog 39 #[v] w fun e w' => ∃ v', e = .returned v' ∧ OwnI w' w.heap.size v' zs ∧ Below w.heap.size w w' := by
  rcases h.shape with ⟨e, e2⟩ | ⟨g, cap, cur, e, hb, hg, h1, h2, h3, h4, h5⟩
  · subst e; subst e2
    refine (Try.slices_Clone_int_nil 0 0 w).mono ?_
    rintro e w' ⟨rfl, rfl⟩
    exact ⟨_, rfl, World.ownsRow_nil _ _ _ _, Below.refl _ _⟩
  · subst e
    have hH := holds_of_blockI hg h4
    refine (Try.slices_Clone_int g 0 zs.length cap zs w (Nat.le_refl _) (by omega) (fun j hj => ?_)).mono ?_
    · have := (hH j (by simpa using hj)).1
      simpa [hj] using this
    · rintro e w' ⟨v', rfl, ho, _, hb'⟩
      refine ⟨v', rfl, ?_, hb'⟩
      rw [List.take_length] at ho
      exact ho

/-- append(v, b...) where both are the call's own. -/
theorem append_own {Q : Exit → Act → World → Prop} {w : World} {ops : Array Oper} {rest : List Oper} {o : Oper} {a : Act} (hgd : o.guard = none) (s x : Operand)
    (ho : o.op = .call { callee := .builtin .append, args := #[s, x], argTypes := #[29, 29] }) (base base' : Nat) (v b : Value) (xs ys : List Int) (hs : a.eval s = v) (hx : a.eval x = b)
    (hv : OwnI w base v xs) (hb : OwnI w base' b ys) (hl : xs.length + ys.length ≤ 1000000000000) (hbase : base ≤ w.heap.size)
    (h : ∀ v' w', OwnI w' base v' (xs ++ ys) → w.grownBy w' v.ownBlock → wpList Try.prog ops Q rest (a.put o.dst v') w') : wpList Try.prog ops Q (o :: rest) a w := by
  obtain ⟨i0, hi, hz0, hz1, hz2⟩ := info_parts info3
  rcases hb.shape with ⟨e, e2⟩ | ⟨g, cap, cur, e, hb2, hg, h1, h2, h3, h4, h5⟩
  · subst e; subst e2
    refine wpList_append_own_none hgd s x 29 ho base 3 i0 1 Try.underlying29 hi v _ _ hs hv hx (h v w (by simpa using hv) ⟨rfl, rfl, rfl, Nat.le_refl _, fun _ _ _ => rfl⟩)
  · subst e
    have hH := holds_of_blockI hg h4
    refine wpList_append_own _ hgd s x 29 ho base 3 i0 (.int .i64 0) 1 8 Try.underlying29 hi hz0 hz1 hz2 rfl (by decide) v _ _ hs hv ⟨g, 0, none⟩ ys.length cap (ys.map (Value.int .i64)) hx (by simp) (fun j u hu => ?_) (by simp [Value.oneCell']) (by unfold maxLen; omega) (by omega) hbase (fun v' w' h1 h2 _ => h v' w' ?_ h2)
    · have hj : j < ys.length := by have := (List.getElem?_eq_some_iff.1 hu).1; simpa using this
      have := (hH j (by simpa using hj)).1
      rw [List.getElem?_eq_getElem (by simpa using hj)] at hu
      simp at hu
      rw [Addr.add_lit, this, ← hu]
      simp [hj]
    · rw [OwnI, List.length_append, List.map_append]; exact h1

def nowF (hr : Int) (d : List O) : List Int := Lib.compact (sortI (setF 1 hr d ++ setF 2 hr d))

/-- What 'append, sort, compact' makes of two lists. -/
def unionF (x y : List Int) : List Int := Lib.compact (sortI (x ++ y))

set_option maxHeartbeats 1600000 in
theorem union_any (v1 v2 : Value) (b1 b2 : Nat) (x y : List Int) (w : World) (h1 : OwnI w b1 v1 x) (h2 : OwnI w b2 v2 y) (hl : x.length + y.length ≤ 1000000000000) :
    Calls Try.prog 28 #[v1, v2] w fun e w' => ∃ v c, e = .returned (.tuple #[v, .int .i64 c]) ∧ (c = 0 → OwnI w' w.heap.size v (unionF x y)) ∧ Below w.heap.size w w' := by
  have H1 := Lib.hid h1
  have H2 := Lib.hid h2
  have r1 : ∀ w', w = w' → Calls Try.prog 38 #[v1] w' fun r w'' => r = .returned (.bool (risesB (-1) x)) ∧ w' = w'' := fun w' e => by
    subst e
    obtain ⟨A, c, e⟩ := h1.slice
    rw [e] at h1 ⊢
    exact netRises_any A c x w h1.rd (by omega)
  have r2 : ∀ w', w = w' → Calls Try.prog 38 #[v2] w' fun r w'' => r = .returned (.bool (risesB (-1) y)) ∧ w' = w'' := fun w' e => by
    subst e
    obtain ⟨A, c, e⟩ := h2.slice
    rw [e] at h2 ⊢
    exact netRises_any A c y w h2.rd (by omega)
  have R1 := Lib.hid r1
  have R2 := Lib.hid r2
  clear h1 h2 r1 r2
  by_cases c1 : risesB (-1) x = true ∧ risesB (-1) y = true
  · have C := Lib.hid c1
    clear c1
    go_enter Try.func28, Try.ntmps28
    go_wp2_with fail
    refine (R1.out _ rfl).mono ?_
    rw [C.out.1]
    rintro e w' ⟨rfl, rfl⟩
    go_wp2_with fail
    refine (R2.out _ rfl).mono ?_
    rw [C.out.2]
    rintro e w' ⟨rfl, rfl⟩
    go_wp2_with fail
    refine (clone_own v1 b1 x w H1.out (by omega)).mono ?_
    rintro e w1 ⟨v3, rfl, o3, hb3⟩
    have H2' := Lib.hid (H2.out.keepB hb3)
    have H3 := Lib.hid o3
    have HB3 := Lib.hid hb3
    have hsz := hb3.size
    clear o3 hb3
    go_wp2_with (refine append_own rfl _ _ rfl w.heap.size b2 v3 v2 x y rfl rfl H3.out H2'.out hl hsz ?_; intro v4 w2 o4 g4)
    have H4 := Lib.hid o4
    have G4 := Lib.hid g4
    clear o4 g4
    go_wp2_with fail
    refine (sort_own w.heap.size v4 _ w2 H4.out (by simp; omega)).mono ?_
    rintro e w3 ⟨rfl, o5, g5⟩
    have H5 := Lib.hid o5
    have G5 := Lib.hid g5
    clear o5 g5
    go_wp2_with fail
    refine (compact_own w.heap.size v4 _ w3 H5.out).mono ?_
    rintro e w4 ⟨v6, rfl, o6, g6, _⟩
    have H6 := Lib.hid o6
    have G6 := Lib.hid g6
    clear o6 g6
    go_wp2_with fail
    go_ret2
    refine ⟨v6, 0, rfl, fun _ => H6.out, ?_⟩
    have s1 := G4.out.size
    have s2 := G5.out.size
    exact ((HB3.out.grown G4.out hsz (fun k e => (H3.out.own k e).1)).grown G5.out (by omega) (fun k e => (H4.out.own k e).1)).grown G6.out (by omega) (fun k e => (H5.out.own k e).1)
  · by_cases c2 : risesB (-1) x = true
    · have c3 : risesB (-1) y = false := by cases h : risesB (-1) y with | false => rfl | true => exact absurd ⟨c2, h⟩ c1
      have C := Lib.hid (And.intro c2 c3)
      clear c1 c2 c3
      go_enter Try.func28, Try.ntmps28
      go_wp2_with fail
      refine (R1.out _ rfl).mono ?_
      rw [C.out.1]
      rintro e w' ⟨rfl, rfl⟩
      go_wp2_with fail
      refine (R2.out _ rfl).mono ?_
      rw [C.out.2]
      rintro e w' ⟨rfl, rfl⟩
      go_wp2_with fail
      go_ret2
      exact ⟨_, 1, rfl, fun h => (by cases h), Below.refl _ _⟩
    · have c3 : risesB (-1) x = false := by simpa using c2
      have C := Lib.hid c3
      clear c1 c2 c3
      go_enter Try.func28, Try.ntmps28
      go_wp2_with fail
      refine (R1.out _ rfl).mono ?_
      rw [C.out]
      rintro e w' ⟨rfl, rfl⟩
      go_wp2_with fail
      go_ret2
      exact ⟨_, 1, rfl, fun h => (by cases h), Below.refl _ _⟩

theorem setF_len (kd hr : Int) (d : List O) : (setF kd hr d).length ≤ d.length := by
  have h1 : (Lib.compact (sortI (coll kd hr d))).length ≤ (sortI (coll kd hr d)).length := by
    have := List.length_filter_le (keeps (sortI (coll kd hr d)).toArray) (List.range (sortI (coll kd hr d)).length)
    simpa [Lib.compact, compactUpTo] using this
  rw [sortI_len] at h1
  exact Nat.le_trans h1 (coll_len _ _ _)

set_option maxHeartbeats 1600000 in
theorem now_any (A : Option Addr) (cap : Nat) (d : List O) (hr : Int) (w : World) (hR : RdO w A d) (hlen : d.length ≤ 100000000000) :
    Calls Try.prog 14 #[.slice A d.length cap, .int .i64 hr] w fun e w' => ∃ v, e = .returned v ∧ OwnI w' w.heap.size v (nowF hr d) ∧ Below w.heap.size w w' := by
  have HS1 := Lib.hid (set_any A cap d 1 hr w hR (by omega))
  have HR := Lib.hid hR
  have L1 := setF_len 1 hr d
  have L2 := setF_len 2 hr d
  clear hR
  go_enter Try.func14, Try.ntmps14
  go_wp2_with fail
  refine HS1.out.mono ?_
  rintro e w1 ⟨v1, rfl, o1, b1⟩
  have HS2 := Lib.hid (set_any A cap d 2 hr w1 (HR.out.keep b1) (by omega))
  have O1 := Lib.hid o1
  have B1 := Lib.hid b1
  clear o1 b1
  go_wp2_with fail
  refine HS2.out.mono ?_
  rintro e w2 ⟨v2, rfl, o2, b2⟩
  have O1' := Lib.hid (O1.out.keepB b2)
  have O2 := Lib.hid o2
  have B2 := Lib.hid (below_of B1.out b2)
  clear o2 b2
  go_wp2_with fail
  refine (union_any v1 v2 _ _ _ _ w2 O1'.out O2.out (by omega)).mono ?_
  rintro e w3 ⟨v3, c, rfl, o3, b3⟩
  have O3 := Lib.hid o3
  have B3 := Lib.hid (below_of B2.out b3)
  have O1'' := Lib.hid (O1'.out.keepB b3)
  have O2'' := Lib.hid (O2.out.keepB b3)
  have S2 := B2.out.size
  have S3 := B3.out.size
  clear o3 b3
  by_cases hc : c = 0
  · have hc1 : (c == 0) = true := by simp [hc]
    have HC := Lib.hid hc
    clear hc
    go_wp2_with fail
    go_ret
    exact ⟨v3, rfl, (O3.out HC.out).base_le S2, B3.out⟩
  · have hc1 : (c == 0) = false := by simp [hc]
    clear hc
    go_wp2_with (refine append_own rfl _ _ rfl w.heap.size _ v1 v2 _ _ rfl rfl O1''.out O2''.out (by omega) S3 ?_; intro v4 w4 o4 g4)
    have H4 := Lib.hid o4
    have G4 := Lib.hid g4
    clear o4 g4
    go_wp2_with fail
    refine (sort_own w.heap.size v4 _ w4 H4.out (by simp; omega)).mono ?_
    rintro e w5 ⟨rfl, o5, g5⟩
    have H5 := Lib.hid o5
    have G5 := Lib.hid g5
    clear o5 g5
    go_wp2_with fail
    refine (compact_own w.heap.size v4 _ w5 H5.out).mono ?_
    rintro e w6 ⟨v6, rfl, o6, g6, _⟩
    have H6 := Lib.hid o6
    have G6 := Lib.hid g6
    clear o6 g6
    go_wp2_with fail
    go_ret
    refine ⟨v6, rfl, H6.out, ?_⟩
    have s1 := G4.out.size
    have s2 := G5.out.size
    exact ((B3.out.grown G4.out S3 (fun k e => (O1''.out.own k e).1)).grown G5.out (by omega) (fun k e => (H4.out.own k e).1)).grown G6.out (by omega) (fun k e => (H5.out.own k e).1)
end Go.Proofs.Ytncbofjgcapcjaa
