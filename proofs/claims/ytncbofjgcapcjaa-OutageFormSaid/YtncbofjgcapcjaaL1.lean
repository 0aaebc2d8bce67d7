/- Plain laws: the order of outages, line sets, normal forms. No program in sight. -/
import Derived.Test.YtncbofjgcapcjaaN4
namespace Go.Proofs.Ytncbofjgcapcjaa
open Go.RowKit Go.Shelf Go.Lib Go.Sort

theorem cmpI_lt (a b : Int) : cmpI a b = if a < b then -1 else if b < a then 1 else 0 := rfl
theorem lt_less (x y : O) : ltOf cmpO x y = less x y := by
  unfold ltOf cmpO less
  by_cases h1 : x.k = y.k
  · by_cases h2 : x.wh = y.wh
    · simp only [h1, h2, orI, cmpI, if_true, Int.lt_irrefl, if_false]
      by_cases h3 : x.f < y.f
      · simp [h3]
      · by_cases h4 : y.f < x.f <;> simp [h3, h4]
    · simp only [h1, if_true, if_neg h2, orI, cmpI, Int.lt_irrefl, if_false]
      by_cases h3 : x.wh < y.wh
      · simp [h3]
      · have h4 : y.wh < x.wh := by omega
        simp [h3, h4]
  · simp only [if_neg h1, orI, cmpI]
    by_cases h3 : x.k < y.k
    · simp [h3]
    · have h4 : y.k < x.k := by omega
      simp [h3, h4]

/-- x is not behind y. -/
def le (x y : O) : Prop := x.k < y.k ∨ (x.k = y.k ∧ (x.wh < y.wh ∨ (x.wh = y.wh ∧ x.f ≤ y.f)))
theorem less_iff (x y : O) : less x y = true ↔ (x.k < y.k ∨ (x.k = y.k ∧ (x.wh < y.wh ∨ (x.wh = y.wh ∧ x.f < y.f)))) := by
  unfold less
  by_cases h1 : x.k = y.k
  · by_cases h2 : x.wh = y.wh
    · simp [h1, h2]
    · simp [h1, h2]
  · simp [h1]
theorem less_false (x y : O) : less x y = false ↔ le y x := by
  rw [← Bool.not_eq_true, less_iff]; unfold le; omega
theorem swo : SWO (ltOf cmpO) where
  irrefl x := by rw [lt_less, less_false]; unfold le; omega
  trans x y z h1 h2 := by rw [lt_less, less_iff] at *; omega
  ntrans x y z h1 h2 := by rw [lt_less, less_false] at *; unfold le at *; omega
theorem sortedL_le {s : List O} (h : SortedL s) : s.Pairwise le := h.imp fun {x y} h => by rwa [lt_less, less_false] at h

/-! ### Strictly ascending lists -/
theorem eq_of_mem : ∀ (a b : List Int), a.Pairwise (· < ·) → b.Pairwise (· < ·) → (∀ x, x ∈ a ↔ x ∈ b) → a = b
  | [], [], _, _, _ => rfl
  | [], y :: b, _, _, h => by have := (h y).2 (by simp); simp at this
  | x :: a, [], _, _, h => by have := (h x).1 (by simp); simp at this
  | x :: a, y :: b, ha, hb, h => by
    rw [List.pairwise_cons] at ha hb
    have e : x = y := by
      have h1 := (h x).1 (by simp)
      have h2 := (h y).2 (by simp)
      rw [List.mem_cons] at h1 h2
      rcases h1 with h1 | h1
      · exact h1
      · rcases h2 with h2 | h2
        · exact h2.symm
        · have := ha.1 _ h2; have := hb.1 _ h1; omega
    subst e
    rw [eq_of_mem a b ha.2 hb.2 fun z => ?_]
    constructor
    · intro hz
      have := (h z).1 (List.mem_cons_of_mem _ hz)
      rw [List.mem_cons] at this
      rcases this with rfl | this
      · have := ha.1 _ hz; omega
      · exact this
    · intro hz
      have := (h z).2 (List.mem_cons_of_mem _ hz)
      rw [List.mem_cons] at this
      rcases this with rfl | this
      · have := hb.1 _ hz; omega
      · exact this

theorem compactUpTo_spec (d : Array Int) (hs : ∀ i j, i < j → j < d.size → d[i]! ≤ d[j]!) : ∀ m, m ≤ d.size →
    (compactUpTo d m).Pairwise (· < ·) ∧ ∀ x, x ∈ compactUpTo d m ↔ ∃ j, j < m ∧ d[j]! = x
  | 0, _ => by simp [compactUpTo]
  | m + 1, hm => by
    obtain ⟨h1, h2⟩ := compactUpTo_spec d hs m (by omega)
    rw [compactUpTo_succ]
    by_cases hk : keeps d m = true
    · rw [if_pos hk]
      refine ⟨?_, fun x => ?_⟩
      · rw [List.pairwise_append]
        refine ⟨h1, by simp, fun a ha b hb => ?_⟩
        obtain rfl : b = d[m]! := by simpa using hb
        obtain ⟨j, hj, rfl⟩ := (h2 a).1 ha
        have hne : d[m]! ≠ d[m - 1]! := by
          have : m = 0 ∨ d[m]! ≠ d[m - 1]! := by simpa [keeps] using hk
          omega
        have a1 := hs (m - 1) m (by omega) (by omega)
        have a2 : d[j]! ≤ d[m - 1]! := by
          by_cases e : j = m - 1
          · rw [e]; exact Int.le_refl _
          · exact hs j (m - 1) (by omega) (by omega)
        omega
      · rw [List.mem_append, h2]
        constructor
        · rintro (⟨j, hj, e⟩ | e)
          · exact ⟨j, by omega, e⟩
          · exact ⟨m, by omega, by simpa using (List.mem_singleton.1 e).symm⟩
        · rintro ⟨j, hj, e⟩
          by_cases e1 : j = m
          · subst e1; exact .inr (by simp [e])
          · exact .inl ⟨j, by omega, e⟩
    · rw [if_neg hk, List.append_nil]
      refine ⟨h1, fun x => ?_⟩
      rw [h2]
      have hm' : 0 < m ∧ d[m]! = d[m - 1]! := by
        have : ¬ (m = 0 ∨ d[m]! ≠ d[m - 1]!) := by simpa [keeps] using hk
        omega
      constructor
      · rintro ⟨j, hj, e⟩; exact ⟨j, by omega, e⟩
      · rintro ⟨j, hj, e⟩
        by_cases e1 : j = m
        · subst e1; exact ⟨j - 1, by omega, by rw [← e, hm'.2]⟩
        · exact ⟨j, by omega, e⟩

theorem compact_spec (zs : List Int) (h : zs.Pairwise (· ≤ ·)) : (Lib.compact zs).Pairwise (· < ·) ∧ ∀ x, x ∈ Lib.compact zs ↔ x ∈ zs := by
  have H := compactUpTo_spec zs.toArray (fun i j hij hj => by
    rw [List.pairwise_iff_getElem] at h
    have hj' : j < zs.length := by simpa using hj
    have := h i j (by omega) hj' hij
    rw [getElem!_pos zs.toArray i (by simp; omega), getElem!_pos zs.toArray j (by simpa using hj')]
    simpa using this) zs.length (by simp)
  refine ⟨H.1, fun x => ?_⟩
  rw [Lib.compact, H.2, List.mem_iff_getElem]
  constructor
  · rintro ⟨j, hj, e⟩
    rw [getElem!_pos zs.toArray j (by simpa using hj)] at e
    exact ⟨j, hj, by simpa using e⟩
  · rintro ⟨j, hj, e⟩
    refine ⟨j, hj, ?_⟩
    rw [getElem!_pos zs.toArray j (by simpa using hj)]
    simpa using e

theorem sortI_spec (zs : List Int) : (sortI zs).Pairwise (· ≤ ·) ∧ ∀ x, x ∈ sortI zs ↔ x ∈ zs := by
  refine ⟨?_, fun x => by simp [sortI]⟩
  have := List.pairwise_mergeSort (le := fun x y : Int => decide (x ≤ y)) (fun a b c h1 h2 => by simp at *; omega) (fun a b => by simp; omega) zs
  exact this.imp fun h => by simpa using h

/-- The hours in which a line of a kind is out of service, by a list. -/
def cov (d : List O) (k w h : Int) : Prop := ∃ o ∈ d, o.k = k ∧ o.wh = w ∧ o.f ≤ h ∧ h ≤ o.t
theorem setF_asc (kd hr : Int) (d : List O) : (setF kd hr d).Pairwise (· < ·) := (compact_spec _ (sortI_spec _).1).1
theorem setF_mem (kd hr : Int) (d : List O) (x : Int) : x ∈ setF kd hr d ↔ cov d kd x hr := by
  rw [setF, (compact_spec _ (sortI_spec _).1).2, (sortI_spec _).2, coll, List.mem_map]
  constructor
  · rintro ⟨o, ho, rfl⟩
    rw [List.mem_filter] at ho
    have := ho.2
    simp [hit] at this
    exact ⟨o, ho.1, this.1, rfl, this.2.1, this.2.2⟩
  · rintro ⟨o, ho, h1, h2, h3, h4⟩
    exact ⟨o, List.mem_filter.2 ⟨ho, by simp [hit, h1, h3, h4]⟩, h2⟩
theorem nowF_asc (hr : Int) (d : List O) : (nowF hr d).Pairwise (· < ·) := (compact_spec _ (sortI_spec _).1).1
theorem nowF_mem (hr : Int) (d : List O) (x : Int) : x ∈ nowF hr d ↔ cov d 1 x hr ∨ cov d 2 x hr := by
  rw [nowF, (compact_spec _ (sortI_spec _).1).2, (sortI_spec _).2, List.mem_append, setF_mem, setF_mem]
theorem setF_cov (kd hr : Int) (d e : List O) (h : ∀ k w h, cov d k w h ↔ cov e k w h) : setF kd hr d = setF kd hr e := eq_of_mem _ _ (setF_asc _ _ _) (setF_asc _ _ _) fun x => by rw [setF_mem, setF_mem, h]
theorem nowF_cov (hr : Int) (d e : List O) (h : ∀ k w h, cov d k w h ↔ cov e k w h) : nowF hr d = nowF hr e := eq_of_mem _ _ (nowF_asc _ _) (nowF_asc _ _) fun x => by rw [nowF_mem, nowF_mem, h, h]
theorem asc_get {l : List Int} (h : l.Pairwise (· < ·)) (k : Nat) (hk : k + 1 < l.length) : l.getD k 0 < l.getD (k + 1) 0 := by
  rw [List.pairwise_iff_getElem] at h
  have := h k (k + 1) (by omega) hk (by omega)
  have e1 : l.getD k 0 = l[k] := by simp [List.getD_eq_getElem?_getD, show k < l.length by omega]
  have e2 : l.getD (k + 1) 0 = l[k + 1] := by simp [List.getD_eq_getElem?_getD, hk]
  rw [e1, e2]; exact this
theorem hasB_iff (d : List Int) (n : Int) : hasB d n = true ↔ n ∈ d := by simp [hasB]
end Go.Proofs.Ytncbofjgcapcjaa
