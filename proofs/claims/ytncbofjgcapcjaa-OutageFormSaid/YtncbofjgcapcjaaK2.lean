/- Slices of outages that the call owns: what they read as, and what an append makes of them. -/
import Derived.Test.YtncbofjgcapcjaaS5
import Derived.Test.YtncbofjgcapcjaaC3
import Derived.Deep.RegionLaw
namespace Go.Proofs.Ytncbofjgcapcjaa
open Go.RowKit Go.Shelf Go.Lib Go.Sort

def flat (d : List O) : List Value := d.flatMap encO
theorem flat_len (d : List O) : (flat d).length = d.length * 4 := by
  induction d with
  | nil => rfl
  | cons x d ih => rw [flat, List.flatMap_cons, List.length_append, ← flat, ih, lenO]; simp; omega
theorem flat_app (d e : List O) : flat (d ++ e) = flat d ++ flat e := by simp [flat]
theorem flat_get (d : List O) : ∀ (i r : Nat), r < 4 → i < d.length → (flat d)[i * 4 + r]? = (encO (d.getD i default))[r]? := by
  induction d with
  | nil => intro i r _ h; simp at h
  | cons x d ih =>
    intro i r hr hi
    rw [flat, List.flatMap_cons, ← flat]
    cases i with
    | zero => rw [List.getElem?_append_left (by rw [lenO]; omega)]; simp
    | succ i =>
      rw [List.getElem?_append_right (by rw [lenO]; omega), lenO, show (i + 1) * 4 + r - 4 = i * 4 + r by omega, ih i r hr (by simpa using hi)]
      simp
theorem flat_cell (d : List O) (j : Nat) (u : Value) (h : (flat d)[j]? = some u) : ∃ i r, j = i * 4 + r ∧ r < 4 ∧ i < d.length ∧ (encO (d.getD i default))[r]? = some u := by
  have hj : j < d.length * 4 := by have := (List.getElem?_eq_some_iff.1 h).1; rwa [flat_len] at this
  refine ⟨j / 4, j % 4, by omega, Nat.mod_lt _ (by omega), by omega, ?_⟩
  rw [← flat_get d _ _ (Nat.mod_lt _ (by omega)) (by omega), show j / 4 * 4 + j % 4 = j by omega]
  exact h
theorem cellO_of {w : World} {b o : Nat} {x : O} (h : ∀ r u, (encO x)[r]? = some u → w.cell? ⟨b, o + r, none⟩ = some u) : cellO w b o x := ⟨h 0 _ rfl, h 1 _ rfl, h 2 _ rfl, h 3 _ rfl⟩
theorem cellO.get {w : World} {b o : Nat} {x : O} (h : cellO w b o x) (r : Nat) (u : Value) (hu : (encO x)[r]? = some u) : w.cell? ⟨b, o + r, none⟩ = some u := by
  have hr : r < 4 := by have := (List.getElem?_eq_some_iff.1 hu).1; rwa [lenO] at this
  have : r = 0 ∨ r = 1 ∨ r = 2 ∨ r = 3 := by omega
  rcases this with rfl | rfl | rfl | rfl <;> (simp [encO] at hu; subst hu)
  · exact h.1
  · exact h.2.1
  · exact h.2.2.1
  · exact h.2.2.2
theorem encO_cell (x : O) : ∀ u ∈ encO x, u.oneCell' = true := by
  intro u hu; simp [encO] at hu; rcases hu with rfl | rfl | rfl | rfl <;> rfl

def OwnO (w : World) (base : Nat) (v : Value) (d : List O) : Prop := w.ownsRow base 27 4 v d.length (flat d)
theorem OwnO.shape {w : World} {base : Nat} {v : Value} {d : List O} (h : OwnO w base v d) :
    (v = .slice none 0 0 ∧ d = []) ∨ ∃ g cap cur, v = .slice (some ⟨g, 0, none⟩) d.length cap ∧ base ≤ g ∧ w.heap[g]? = some (.cells cur 27 (0, 0)) ∧ d.length ≤ cap ∧ cap ≤ maxLen ∧ cur.size = cap * 4 ∧ cur.toList.take (d.length * 4) = flat d ∧ g < w.heap.size := by
  rcases h.2 with ⟨e, h0⟩ | ⟨g, cap, cur, e, hb, hg, h1, h2, h3, h4⟩
  · exact .inl ⟨e, List.eq_nil_of_length_eq_zero h0⟩
  · exact .inr ⟨g, cap, cur, e, hb, hg, h1, h2, h3, h4, (Array.getElem?_eq_some_iff.1 hg).1⟩
theorem OwnO.nil (w : World) (base : Nat) : OwnO w base (.slice none 0 0) [] := World.ownsRow_nil _ _ _ _
theorem OwnO.slice {w : World} {base : Nat} {v : Value} {zs : List O} (h : OwnO w base v zs) : ∃ A cap, v = .slice A zs.length cap ∧ zs.length ≤ cap ∧ (A = none → cap = 0) ∧ cap ≤ maxLen := by
  rcases h.shape with ⟨e, e2⟩ | ⟨g, cap, cur, e, _, _, h1, h2, _⟩
  · exact ⟨none, 0, by rw [e, e2]; rfl, by rw [e2]; simp, fun _ => rfl, by unfold maxLen; omega⟩
  · exact ⟨_, cap, e, h1, fun h => (by cases h), h2⟩
theorem OwnO.cells {w : World} {base g n cap : Nat} {d : List O} (h : OwnO w base (.slice (some ⟨g, 0, none⟩) n cap) d) (i : Nat) (hi : i < d.length) :
    cellO w g (i * 4) (d.getD i default) ∧ (w.frozen? ⟨g, i * 4, none⟩ = false ∧ w.frozen? ⟨g, i * 4 + 1, none⟩ = false ∧ w.frozen? ⟨g, i * 4 + 2, none⟩ = false ∧ w.frozen? ⟨g, i * 4 + 3, none⟩ = false) := by
  rcases h.shape with ⟨e, _⟩ | ⟨g', cap', cur, e, _, hg, h1, h2, h3, h4, _⟩
  · cases e
  · cases e
    refine ⟨cellO_of fun r u hu => ?_, by simp [World.frozen?, hg], by simp [World.frozen?, hg], by simp [World.frozen?, hg], by simp [World.frozen?, hg]⟩
    have hr : r < 4 := by have := (List.getElem?_eq_some_iff.1 hu).1; rwa [lenO] at this
    have e1 := flat_get d i r hr hi
    rw [← h4, List.getElem?_take, if_pos (by omega), Array.getElem?_toList, hu] at e1
    simp only [World.cell?, hg]
    simpa using e1
theorem OwnO.rd {w : World} {base n cap : Nat} {A : Option Addr} {d : List O} (h : OwnO w base (.slice A n cap) d) : RdO w A d := fun hl => by
  rcases h.shape with ⟨_, e2⟩ | ⟨g, cap', cur, e, _⟩
  · rw [e2] at hl; exact absurd hl (by simp)
  · have e1 : A = some ⟨g, 0, none⟩ := by injection e
    subst e1
    exact ⟨g, 0, rfl, fun i hi => by rw [Nat.zero_add]; exact (h.cells i hi).1⟩
theorem OwnO.own {w : World} {base : Nat} {v : Value} {zs : List O} (h : OwnO w base v zs) (r : Nat) (hr : v.ownBlock = some r) : base ≤ r ∧ r < w.heap.size := by
  rcases h.shape with ⟨e, _⟩ | ⟨g, cap', cur, e, hb, _, _, _, _, _, hg⟩
  · rw [e] at hr; cases hr
  · rw [e] at hr; cases hr; exact ⟨hb, hg⟩
theorem OwnO.keep {w w' : World} {base : Nat} {v : Value} {zs : List O} (h : OwnO w base v zs) {row : Option Nat} (hg : w.grownBy w' row) (hne : ∀ r, v.ownBlock = some r → row ≠ some r) : OwnO w' base v zs :=
  World.ownsRow.kept h hg (by cases e : v.ownBlock with | none => exact .inl rfl | some r => exact .inr (fun e2 => hne r e e2.symm))
theorem OwnO.keepB {w w' : World} {base : Nat} {v : Value} {zs : List O} (h : OwnO w base v zs) (hB : Below w.heap.size w w') : OwnO w' base v zs :=
  h.keep (row := none) ⟨hB.os, hB.tape, hB.output, hB.size, fun i hi _ => hB.block i hi⟩ (fun r _ e => by cases e)
theorem OwnO.base_le {w : World} {base base' : Nat} {v : Value} {zs : List O} (h : OwnO w base v zs) (hb : base' ≤ base) : OwnO w base' v zs := own_base h hb

/-- The last hour of one element, written. -/
theorem OwnO.setT {w : World} {base g n cap : Nat} {d : List O} (h : OwnO w base (.slice (some ⟨g, 0, none⟩) n cap) d) (i : Nat) (hi : i < d.length) (z : Int) :
    OwnO (w.setCell ⟨g, i * 4 + 3, none⟩ (.int .i64 z)) base (.slice (some ⟨g, 0, none⟩) n cap) (d.set i { d.getD i default with t := z }) := by
  rcases h.shape with ⟨e, _⟩ | ⟨g', cap', cur, e, hb, hg, h1, h2, h3, h4, h5⟩
  · cases e
  · have e' := e
    cases e
    refine ⟨by rw [flat_len], .inr ⟨g, cap, cur.setIfInBounds (i * 4 + 3) (.int .i64 z), by simp, hb, ?_, by simpa using h1, h2, by simpa using h3, ?_⟩⟩
    · simp [World.setCell, Array.getElem?_modify, hg]
    · apply List.ext_getElem?
      intro j
      have hsz : i * 4 + 3 < cur.size := by omega
      rw [List.getElem?_take]
      by_cases hj : j < d.length * 4
      · rw [if_pos (by simpa using hj), Array.getElem?_toList, Array.getElem?_setIfInBounds]
        have hq := flat_get (d.set i { d.getD i default with t := z }) (j / 4) (j % 4) (Nat.mod_lt _ (by omega)) (by simp; omega)
        rw [show j / 4 * 4 + j % 4 = j by omega] at hq
        rw [hq]
        have hp := flat_get d (j / 4) (j % 4) (Nat.mod_lt _ (by omega)) (by omega)
        rw [show j / 4 * 4 + j % 4 = j by omega, ← h4, List.getElem?_take, if_pos hj, Array.getElem?_toList] at hp
        by_cases e3 : i * 4 + 3 = j
        · rw [if_pos e3, if_pos hsz]
          have e4 : j / 4 = i := by omega
          have e5 : j % 4 = 3 := by omega
          rw [e4, e5]
          simp [hi, encO]
        · rw [if_neg e3, hp]
          by_cases e4 : j / 4 = i
          · have e5 : j % 4 = 0 ∨ j % 4 = 1 ∨ j % 4 = 2 := by omega
            rw [e4]
            rcases e5 with e5 | e5 | e5 <;> (rw [e5]; simp [hi, encO])
          · simp [List.getElem?_set, Ne.symm e4]
      · rw [if_neg (by simpa using hj), List.getElem?_eq_none (by rw [flat_len]; simp; omega)]

theorem info27 : (Try.prog.info? 27).map (fun i => (i.zero, i.size, i.bytes)) = some (some (.agg #[.int .u8 0, .int .i64 0, .int .i64 0, .int .i64 0]), 4, 32) := by kernel_rfl

theorem RdO.news {w : World} {b o : Nat} {ys : List O} (h : RdO w (some ⟨b, o, none⟩) ys) : ∀ j u, (flat ys)[j]? = some u → w.cell? ((⟨b, o, none⟩ : Addr).add j) = some u := fun j u hu => by
  obtain ⟨i, r, rfl, hr, hi, he⟩ := flat_cell ys j u hu
  obtain ⟨b', o', e, hc⟩ := h (by omega)
  cases e
  rw [Addr.add_lit]
  have := (hc i hi).get r u he
  rwa [Nat.add_assoc] at this
theorem flat_one (d : List O) : ∀ u ∈ flat d, u.oneCell' = true := by
  intro u hu
  simp only [flat, List.mem_flatMap] at hu
  obtain ⟨x, _, hx⟩ := hu
  exact encO_cell x u hx

/-- What 'append' comes to: the old row written on, or a new one. -/
theorem run_appendO {w : World} (ty : TypeId) (base : Nat) (v : Value) (A : Option Addr) (m c : Nat) (xs ys : List O) (hv : OwnO w base v xs) (hy : RdO w A ys) (hm : ys.length = m) (hA : A = none → c = 0) (hl : xs.length + ys.length ≤ 1000000000000) (hbase : base ≤ w.heap.size) :
    ∃ v' w', (Builtin.append_ #[22, 22] ty #[v, .slice A m c]).run Try.prog w = .ok v' w' ∧ OwnO w' base v' (xs ++ ys) ∧ w.grownBy w' v.ownBlock := by
  obtain ⟨i0, hi, hz0, hz1, hz2⟩ := info_parts info27
  cases A with
  | none =>
    have h0 : ys = [] := by
      cases ys with
      | nil => rfl
      | cons y ys => obtain ⟨b, o, e, _⟩ := hy (by simp); cases e
    subst h0
    have hm0 : m = 0 := by simpa using hm.symm
    subst hm0
    rw [hA rfl]
    exact ⟨v, w, run_append_owned_none w base 22 ty 27 i0 4 Try.underlying22 hi v _ _ hv, by simpa using hv, rfl, rfl, rfl, Nat.le_refl _, fun _ _ _ => rfl⟩
  | some a =>
    by_cases h0 : ys = []
    · subst h0
      have hm0 : m = 0 := by simpa using hm.symm
      subst hm0
      obtain ⟨v', w', h1, h2, h3, _⟩ := run_append_own (P := Try.prog) w base 22 ty 27 i0 _ 4 32 Try.underlying22 hi hz0 hz1 hz2 rfl (by decide) v _ _ hv a 0 c [] rfl (fun j u hu => by simp at hu) (by simp) (by unfold maxLen; omega) (by omega) hbase
      exact ⟨v', w', h1, by simpa [OwnO] using h2, h3⟩
    · obtain ⟨b, o, e, _⟩ := hy (List.length_pos_iff.2 h0)
      cases e
      obtain ⟨v', w', h1, h2, h3, _⟩ := run_append_own (P := Try.prog) w base 22 ty 27 i0 _ 4 32 Try.underlying22 hi hz0 hz1 hz2 rfl (by decide) v _ _ hv ⟨b, o, none⟩ m c (flat ys) (by rw [flat_len, hm]) (RdO.news hy) (flat_one ys) (by unfold maxLen; omega) (by omega) hbase
      exact ⟨v', w', h1, by rw [OwnO, List.length_append, flat_app, hm]; exact h2, h3⟩

/-- The same at an operation of a region. -/
theorem wp_appendO {w : World} {o : Oper} {a : Act} {K : Act → World → Prop} {Q : Exit → Act → World → Prop} (s x : Operand) (ho : o.op = .call { callee := .builtin .append, args := #[s, x], argTypes := #[22, 22] })
    (base : Nat) (v : Value) (A : Option Addr) (m c : Nat) (xs ys : List O) (hs : a.eval s = v) (hx : a.eval x = .slice A m c) (hv : OwnO w base v xs) (hy : RdO w A ys) (hm : ys.length = m) (hA : A = none → c = 0) (hl : xs.length + ys.length ≤ 1000000000000) (hbase : base ≤ w.heap.size)
    (h : ∀ v' w', OwnO w' base v' (xs ++ ys) → w.grownBy w' v.ownBlock → K (a.put o.dst v') w') : o.wp Try.prog a w K Q := by
  obtain ⟨v', w', hr, h2, h3⟩ := run_appendO o.type base v A m c xs ys hv hy hm hA hl hbase
  unfold Oper.wp execOp
  simp only [ho, resolve, invoke, builtin, Sem.run_bind, Sem.run_pure, Result.andThen_ok, List.map_toArray, List.map_cons, List.map_nil, hs, hx, hr]
  exact h v' w' h2 h3
theorem list_appendO {w : World} {ops : Array Oper} {rest : List Oper} {o : Oper} {a : Act} {Q : Exit → Act → World → Prop} (hgd : o.guard = none) (s x : Operand) (ho : o.op = .call { callee := .builtin .append, args := #[s, x], argTypes := #[22, 22] })
    (base : Nat) (v : Value) (A : Option Addr) (m c : Nat) (xs ys : List O) (hs : a.eval s = v) (hx : a.eval x = .slice A m c) (hv : OwnO w base v xs) (hy : RdO w A ys) (hm : ys.length = m) (hA : A = none → c = 0) (hl : xs.length + ys.length ≤ 1000000000000) (hbase : base ≤ w.heap.size)
    (h : ∀ v' w', OwnO w' base v' (xs ++ ys) → w.grownBy w' v.ownBlock → wpList Try.prog ops Q rest (a.put o.dst v') w') : wpList Try.prog ops Q (o :: rest) a w :=
  wpList_plain hgd fun _ hK => wp_appendO s x ho base v A m c xs ys hs hx hv hy hm hA hl hbase fun v' w' h2 h3 => hK _ _ (h v' w' h2 h3)
theorem step_appendO {w : World} {ops : Array Oper} {o : Oper} {a : Act} {K : Act → World → Prop} {Q : Exit → Act → World → Prop} {E : Prop} (hgd : o.guard = none) (s x : Operand) (ho : o.op = .call { callee := .builtin .append, args := #[s, x], argTypes := #[22, 22] })
    (base : Nat) (v : Value) (A : Option Addr) (m c : Nat) (xs ys : List O) (hs : a.eval s = v) (hx : a.eval x = .slice A m c) (hv : OwnO w base v xs) (hy : RdO w A ys) (hm : ys.length = m) (hA : A = none → c = 0) (hl : xs.length + ys.length ≤ 1000000000000) (hbase : base ≤ w.heap.size)
    (h : ∀ v' w', OwnO w' base v' (xs ++ ys) → w.grownBy w' v.ownBlock → K (a.put o.dst v') w') : if Region.wanted o (yielded ops a.tmps) = true then Oper.wp Try.prog o a w K Q else E := by
  have hw : Region.wanted o (yielded ops a.tmps) = true := by simp [Region.wanted, hgd]
  rw [if_pos hw]
  exact wp_appendO s x ho base v A m c xs ys hs hx hv hy hm hA hl hbase h
end Go.Proofs.Ytncbofjgcapcjaa
