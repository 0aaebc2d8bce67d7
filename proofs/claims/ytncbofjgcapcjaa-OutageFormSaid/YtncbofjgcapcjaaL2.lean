/- Plain laws: normal forms. -/
import Derived.Test.YtncbofjgcapcjaaL1
namespace Go.Proofs.Ytncbofjgcapcjaa
open Go.RowKit Go.Shelf Go.Lib Go.Sort

/-- The numbers of an outage are int64s. -/
def rng (x : O) : Prop := -9223372036854775808 ≤ x.f ∧ x.f ≤ 9223372036854775807 ∧ -9223372036854775808 ≤ x.t ∧ x.t ≤ 9223372036854775807
def good (x : O) : Prop := rng x ∧ x.f ≤ x.t
/-- a ends well before b. -/
def sep (a b : O) : Prop := a.k < b.k ∨ (a.k = b.k ∧ (a.wh < b.wh ∨ (a.wh = b.wh ∧ a.t + 1 < b.f)))
structure NFm (d : List O) : Prop where
  good : ∀ x ∈ d, good x
  sep : d.Pairwise sep

theorem touch_iff {x y : O} (hx : good x) (hy : good y) : touch x y = true ↔ (x.k = y.k ∧ x.wh = y.wh ∧ y.f ≤ x.t + 1) := by
  unfold touch
  unfold good rng at hx hy
  by_cases h1 : x.k = y.k
  · by_cases h2 : x.wh = y.wh
    · by_cases h3 : y.f ≤ x.t
      · simp [h1, h2, h3]; omega
      · simp only [h1, h2, h3, if_true, if_false, beq_iff_eq, true_and]
        have e : wrap64 (y.f - 1) = y.f - 1 := by unfold wrap64; omega
        rw [e]; omega
    · simp [h1, h2]
  · simp [h1]

theorem cov_nil (k w h : Int) : ¬ cov [] k w h := by rintro ⟨_, h, _⟩; cases h
theorem cov_cons (x : O) (d : List O) (k w h : Int) : cov (x :: d) k w h ↔ (x.k = k ∧ x.wh = w ∧ x.f ≤ h ∧ h ≤ x.t) ∨ cov d k w h := by
  constructor
  · rintro ⟨o, ho, h⟩
    rcases List.mem_cons.1 ho with rfl | ho
    · exact .inl h
    · exact .inr ⟨o, ho, h⟩
  · rintro (h | ⟨o, ho, h⟩)
    · exact ⟨x, by simp, h⟩
    · exact ⟨o, List.mem_cons_of_mem _ ho, h⟩
theorem cov_append (d e : List O) (k w h : Int) : cov (d ++ e) k w h ↔ cov d k w h ∨ cov e k w h := by
  constructor
  · rintro ⟨o, ho, h⟩
    rcases List.mem_append.1 ho with ho | ho
    · exact .inl ⟨o, ho, h⟩
    · exact .inr ⟨o, ho, h⟩
  · rintro (⟨o, ho, h⟩ | ⟨o, ho, h⟩)
    · exact ⟨o, List.mem_append_left _ ho, h⟩
    · exact ⟨o, List.mem_append_right _ ho, h⟩
theorem cov_mem {d e : List O} (h : ∀ o, o ∈ d ↔ o ∈ e) (k w u : Int) : cov d k w u ↔ cov e k w u :=
  ⟨fun ⟨o, ho, q⟩ => ⟨o, (h o).1 ho, q⟩, fun ⟨o, ho, q⟩ => ⟨o, (h o).2 ho, q⟩⟩

theorem mergeN_last (out : List O) (l x : O) : mergeN (out ++ [l]) x = if touch l x = true then out ++ [{ l with t := max l.t x.t }] else out ++ [l] ++ [x] := by
  unfold mergeN
  have e : (out ++ [l]).getD ((out ++ [l]).length - 1) default = l := by simp
  rw [e]
  by_cases h : touch l x = true
  · rw [if_pos ⟨by simp, h⟩, if_pos h]; simp
  · rw [if_neg (fun q => h q.2), if_neg h]

theorem normFold : ∀ (s out : List O), s.Pairwise le → (∀ y ∈ out, ∀ x ∈ s, le y x) → (∀ x ∈ s, good x) → NFm out →
    NFm (s.foldl mergeN out) ∧ ∀ k w h, cov (s.foldl mergeN out) k w h ↔ cov out k w h ∨ cov s k w h
  | [], out, _, _, _, ho => ⟨ho, fun k w h => by simp [cov_nil]⟩
  | x :: s, out, hs, hos, hg, ho => by
    rw [List.foldl_cons]
    rw [List.pairwise_cons] at hs
    have gx := hg x (by simp)
    suffices H : NFm (mergeN out x) ∧ (∀ y ∈ mergeN out x, ∀ z ∈ s, le y z) ∧ ∀ k w h, cov (mergeN out x) k w h ↔ cov out k w h ∨ (x.k = k ∧ x.wh = w ∧ x.f ≤ h ∧ h ≤ x.t) by
      obtain ⟨h1, h2, h3⟩ := H
      obtain ⟨h4, h5⟩ := normFold s _ hs.2 h2 (fun z hz => hg z (List.mem_cons_of_mem _ hz)) h1
      exact ⟨h4, fun k w h => by rw [h5, h3, cov_cons, or_assoc]⟩
    have hxs : ∀ z ∈ s, le x z := hs.1
    rcases List.eq_nil_or_concat out with rfl | ⟨out', l, rfl⟩
    · have e : mergeN [] x = [x] := by simp [mergeN]
      rw [e]
      refine ⟨⟨by simpa using gx, by simp⟩, by simpa using hxs, fun k w h => ?_⟩
      rw [cov_cons]; simp [cov_nil]
    · rw [List.concat_eq_append] at *
      have gl := ho.good l (by simp)
      have hlx : le l x := hos l (by simp) x (by simp)
      have hsep := ho.sep
      rw [List.pairwise_append] at hsep
      rw [mergeN_last]
      by_cases ht : touch l x = true
      · rw [if_pos ht]
        have T := (touch_iff gl gx).1 ht
        refine ⟨⟨?_, ?_⟩, ?_, ?_⟩
        · intro z hz
          rcases List.mem_append.1 hz with hz | hz
          · exact ho.good z (List.mem_append_left _ hz)
          · obtain rfl := List.mem_singleton.1 hz
            unfold good rng at *
            show (_ ∧ _ ∧ _ ∧ _) ∧ _
            dsimp only
            omega
        · rw [List.pairwise_append]
          refine ⟨hsep.1, by simp, fun a ha b hb => ?_⟩
          obtain rfl := List.mem_singleton.1 hb
          exact hsep.2.2 a ha l (by simp)
        · intro y hy z hz
          rcases List.mem_append.1 hy with hy | hy
          · exact hos y (List.mem_append_left _ hy) z (List.mem_cons_of_mem _ hz)
          · obtain rfl := List.mem_singleton.1 hy
            exact hos l (by simp) z (List.mem_cons_of_mem _ hz)
        · intro k w h
          rw [cov_append, cov_append, cov_cons, cov_cons, or_assoc]
          simp only [cov_nil, or_false]
          refine or_congr Iff.rfl ?_
          unfold good rng le at *
          omega
      · rw [if_neg ht]
        have T : ¬ (l.k = x.k ∧ l.wh = x.wh ∧ x.f ≤ l.t + 1) := fun h => ht ((touch_iff gl gx).2 h)
        have slx : sep l x := by unfold sep le at *; omega
        refine ⟨⟨?_, ?_⟩, ?_, ?_⟩
        · intro z hz
          rcases List.mem_append.1 hz with hz | hz
          · exact ho.good z hz
          · obtain rfl := List.mem_singleton.1 hz
            exact gx
        · rw [List.pairwise_append]
          refine ⟨ho.sep, by simp, fun a ha b hb => ?_⟩
          obtain rfl := List.mem_singleton.1 hb
          rcases List.mem_append.1 ha with ha | ha
          · have s1 := hsep.2.2 a ha l (by simp)
            unfold sep good rng at *
            omega
          · obtain rfl := List.mem_singleton.1 ha
            exact slx
        · intro y hy z hz
          rcases List.mem_append.1 hy with hy | hy
          · exact hos y hy z (List.mem_cons_of_mem _ hz)
          · obtain rfl := List.mem_singleton.1 hy
            exact hxs z hz
        · intro k w h
          rw [cov_append, cov_cons]
          simp only [cov_nil, or_false]

theorem normL_spec {s : List O} (hs : s.Pairwise le) (hg : ∀ x ∈ s, good x) : NFm (normL s) ∧ ∀ k w h, cov (normL s) k w h ↔ cov s k w h := by
  have := normFold s [] hs (by simp) hg ⟨by simp, by simp⟩
  exact ⟨this.1, fun k w h => by rw [normL, this.2]; simp [cov_nil]⟩

/-! ### One normal form to a coverage -/
theorem nf_head {a : O} {A : List O} (h : NFm (a :: A)) (k w u : Int) (hc : cov (a :: A) k w u) : a.k < k ∨ (a.k = k ∧ (a.wh < w ∨ (a.wh = w ∧ a.f ≤ u))) := by
  obtain ⟨o, ho, h1, h2, h3, h4⟩ := hc
  have ga := h.good a (by simp)
  rcases List.mem_cons.1 ho with rfl | ho
  · omega
  · have s1 := (List.pairwise_cons.1 h.sep).1 o ho
    have go := h.good o (List.mem_cons_of_mem _ ho)
    unfold sep good rng at *
    omega
theorem nf_tail {a : O} {A : List O} (h : NFm (a :: A)) : NFm A := ⟨fun x hx => h.good x (List.mem_cons_of_mem _ hx), (List.pairwise_cons.1 h.sep).2⟩
theorem nf_after {a : O} {A : List O} (h : NFm (a :: A)) (k w u : Int) : cov A k w u ↔ cov (a :: A) k w u ∧ ¬ (a.k = k ∧ a.wh = w ∧ a.f ≤ u ∧ u ≤ a.t) := by
  rw [cov_cons]
  constructor
  · intro hc
    refine ⟨.inr hc, ?_⟩
    obtain ⟨o, ho, h1, h2, h3, h4⟩ := hc
    have s1 := (List.pairwise_cons.1 h.sep).1 o ho
    unfold sep at s1
    omega
  · rintro ⟨h1 | h1, h2⟩
    · exact absurd h1 h2
    · exact h1
theorem nf_unique : ∀ (A B : List O), NFm A → NFm B → (∀ k w u, cov A k w u ↔ cov B k w u) → A = B
  | [], [], _, _, _ => rfl
  | [], b :: B, _, hB, h => by
    have gb := hB.good b (by simp)
    exact absurd ((h b.k b.wh b.f).2 ⟨b, by simp, rfl, rfl, Int.le_refl _, gb.2⟩) (cov_nil _ _ _)
  | a :: A, [], hA, _, h => by
    have ga := hA.good a (by simp)
    exact absurd ((h a.k a.wh a.f).1 ⟨a, by simp, rfl, rfl, Int.le_refl _, ga.2⟩) (cov_nil _ _ _)
  | a :: A, b :: B, hA, hB, h => by
    have ga := hA.good a (by simp)
    have gb := hB.good b (by simp)
    have h1 := nf_head hB _ _ _ ((h a.k a.wh a.f).1 ⟨a, by simp, rfl, rfl, Int.le_refl _, ga.2⟩)
    have h2 := nf_head hA _ _ _ ((h b.k b.wh b.f).2 ⟨b, by simp, rfl, rfl, Int.le_refl _, gb.2⟩)
    have key : a.k = b.k ∧ a.wh = b.wh ∧ a.f = b.f := by omega
    have tt : ∀ (a b : O) (A B : List O), NFm (a :: A) → NFm (b :: B) → (∀ k w u, cov (a :: A) k w u ↔ cov (b :: B) k w u) → a.k = b.k ∧ a.wh = b.wh ∧ a.f = b.f → b.t ≤ a.t := by
      intro a b A B hA hB h key
      have ga := hA.good a (by simp)
      by_cases hlt : a.t < b.t
      · exfalso
        have c := (h b.k b.wh (a.t + 1)).2 ⟨b, by simp, rfl, rfl, by unfold good at *; omega, by omega⟩
        obtain ⟨o, ho, q1, q2, q3, q4⟩ := c
        rcases List.mem_cons.1 ho with rfl | ho
        · omega
        · have s1 := (List.pairwise_cons.1 hA.sep).1 o ho
          unfold sep at s1
          omega
      · omega
    have t1 := tt a b A B hA hB h key
    have t2 := tt b a B A hB hA (fun k w u => (h k w u).symm) ⟨key.1.symm, key.2.1.symm, key.2.2.symm⟩
    have e : a = b := by
      cases a; cases b
      simp only [O.mk.injEq]
      dsimp only at *
      omega
    subst e
    rw [nf_unique A B (nf_tail hA) (nf_tail hB) fun k w u => by rw [nf_after hA, nf_after hB, h]]

/-! ### The sorted insertion -/
theorem takeWhile_prefix_all {α : Type} (p : α → Bool) (s : List α) : ∀ x ∈ s.take (s.takeWhile p).length, p x = true := by
  induction s with
  | nil => simp
  | cons a s ih =>
    intro x hx
    rw [List.takeWhile_cons] at hx
    by_cases h : p a = true
    · rw [if_pos h] at hx
      simp only [List.length_cons, List.take_succ_cons, List.mem_cons] at hx
      rcases hx with rfl | hx
      · exact h
      · exact ih x hx
    · rw [if_neg h] at hx; simp at hx
theorem drop_takeWhile_head {α : Type} (p : α → Bool) (s : List α) (y : α) (r : List α) (h : s.drop (s.takeWhile p).length = y :: r) : p y = false := by
  induction s with
  | nil => simp at h
  | cons a s ih =>
    rw [List.takeWhile_cons] at h
    by_cases hp : p a = true
    · rw [if_pos hp] at h
      exact ih (by simpa using h)
    · rw [if_neg hp] at h
      simp at h
      rw [← h.1]; simpa using hp
theorem insN_sorted (x : O) (s : List O) (h : s.Pairwise le) : (insN x s).Pairwise le := by
  have hp := h
  rw [← List.take_append_drop (posN x s) s, List.pairwise_append] at hp
  have low : ∀ y ∈ s.take (posN x s), le y x := fun y hy => by
    have := takeWhile_prefix_all _ s y hy
    rw [Bool.not_eq_true', less_false] at this
    exact this
  have high : ∀ y ∈ s.drop (posN x s), le x y := by
    cases hd : s.drop (posN x s) with
    | nil => simp
    | cons y0 r =>
      have h0 := drop_takeWhile_head _ s y0 r hd
      have h1 : less x y0 = true := by simpa using h0
      rw [less_iff] at h1
      have hr := hp.2.1
      rw [hd, List.pairwise_cons] at hr
      intro y hy
      rcases List.mem_cons.1 hy with rfl | hy
      · unfold le; omega
      · have := hr.1 y hy
        unfold le at *; omega
  unfold insN
  rw [List.pairwise_append]
  refine ⟨hp.1, List.pairwise_cons.2 ⟨high, hp.2.1⟩, fun a ha b hb => ?_⟩
  rcases List.mem_cons.1 hb with rfl | hb
  · exact low a ha
  · exact hp.2.2 a ha b hb
theorem insN_mem (x : O) (s : List O) (y : O) : y ∈ insN x s ↔ y = x ∨ y ∈ s := by
  unfold insN
  rw [List.mem_append, List.mem_cons]
  conv => rhs; rw [← List.take_append_drop (posN x s) s, List.mem_append]
  constructor
  · rintro (h | h | h)
    · exact .inr (.inl h)
    · exact .inl h
    · exact .inr (.inr h)
  · rintro (h | h | h)
    · exact .inr (.inl h)
    · exact .inl h
    · exact .inr (.inr h)
theorem insAll_spec (d : List O) : (insAll d).Pairwise le ∧ ∀ y, y ∈ insAll d ↔ y ∈ d ∧ ¬ y.t < y.f := by
  have H : ∀ (d s : List O), s.Pairwise le → (d.foldl (fun s x => if x.t < x.f then s else insN x s) s).Pairwise le ∧ ∀ y, y ∈ d.foldl (fun s x => if x.t < x.f then s else insN x s) s ↔ y ∈ s ∨ (y ∈ d ∧ ¬ y.t < y.f) := by
    intro d
    induction d with
    | nil => intro s hs; exact ⟨hs, by simp⟩
    | cons x d ih =>
      intro s hs
      rw [List.foldl_cons]
      by_cases hx : x.t < x.f
      · rw [if_pos hx]
        obtain ⟨h1, h2⟩ := ih s hs
        refine ⟨h1, fun y => ?_⟩
        rw [h2, List.mem_cons]
        constructor
        · rintro (h | h)
          · exact .inl h
          · exact .inr ⟨.inr h.1, h.2⟩
        · rintro (h | ⟨rfl | h, h'⟩)
          · exact .inl h
          · exact absurd hx h'
          · exact .inr ⟨h, h'⟩
      · rw [if_neg hx]
        obtain ⟨h1, h2⟩ := ih _ (insN_sorted x s hs)
        refine ⟨h1, fun y => ?_⟩
        rw [h2, insN_mem, List.mem_cons]
        constructor
        · rintro ((rfl | h) | h)
          · exact .inr ⟨.inl rfl, hx⟩
          · exact .inl h
          · exact .inr ⟨.inr h.1, h.2⟩
        · rintro (h | ⟨rfl | h, h'⟩)
          · exact .inl (.inr h)
          · exact .inl (.inl rfl)
          · exact .inr ⟨h, h'⟩
  have := H d [] List.Pairwise.nil
  exact ⟨this.1, fun y => by rw [insAll, this.2]; simp⟩

/-- The normal form of a list. -/
def NF (d : List O) : List O := normL (insAll d)
theorem cov_valid (d e : List O) (h : ∀ y, y ∈ e ↔ y ∈ d ∧ ¬ y.t < y.f) (k w u : Int) : cov e k w u ↔ cov d k w u := by
  constructor
  · rintro ⟨o, ho, q⟩; exact ⟨o, ((h o).1 ho).1, q⟩
  · rintro ⟨o, ho, q⟩; exact ⟨o, (h o).2 ⟨ho, by omega⟩, q⟩
theorem NF_spec {d : List O} (hr : ∀ x ∈ d, rng x) : NFm (NF d) ∧ ∀ k w h, cov (NF d) k w h ↔ cov d k w h := by
  obtain ⟨h1, h2⟩ := insAll_spec d
  obtain ⟨h3, h4⟩ := normL_spec h1 fun x hx => ⟨hr x ((h2 x).1 hx).1, by have := ((h2 x).1 hx).2; omega⟩
  exact ⟨h3, fun k w h => by rw [NF, h4, cov_valid d _ h2]⟩
theorem normS_filter (s : List O) : normS s = normL (s.filter fun x => decide (x.f ≤ x.t)) := by
  have H : ∀ (s out : List O), s.foldl (fun out x => if x.t < x.f then out else mergeN out x) out = (s.filter fun x => decide (x.f ≤ x.t)).foldl mergeN out := by
    intro s
    induction s with
    | nil => intro out; rfl
    | cons x s ih =>
      intro out
      rw [List.foldl_cons, List.filter_cons]
      by_cases h : x.t < x.f
      · rw [if_pos h, if_neg (by simp; omega), ih]
      · rw [if_neg h, if_pos (by simp; omega), List.foldl_cons, ih]
  exact H s []
theorem normS_NF {s d : List O} (hp : s.Perm d) (hs : SortedL s) (hr : ∀ x ∈ d, rng x) : normS s = NF d := by
  rw [normS_filter]
  have hm : ∀ y, y ∈ (s.filter fun x => decide (x.f ≤ x.t)) ↔ y ∈ d ∧ ¬ y.t < y.f := fun y => by
    rw [List.mem_filter, hp.mem_iff]; simp
  obtain ⟨h3, h4⟩ := normL_spec ((sortedL_le hs).filter _) fun x hx => ⟨hr x ((hm x).1 hx).1, by have := ((hm x).1 hx).2; omega⟩
  obtain ⟨h5, h6⟩ := NF_spec hr
  exact nf_unique _ _ h3 h5 fun k w u => by rw [h4, h6, cov_valid d _ hm]
theorem NF_rng {d : List O} (hr : ∀ x ∈ d, rng x) : ∀ x ∈ NF d, rng x := fun x hx => ((NF_spec hr).1.good x hx).1
theorem NF_cov {d e : List O} (hd : ∀ x ∈ d, rng x) (he : ∀ x ∈ e, rng x) (h : ∀ k w u, cov d k w u ↔ cov e k w u) : NF d = NF e :=
  nf_unique _ _ (NF_spec hd).1 (NF_spec he).1 fun k w u => by rw [(NF_spec hd).2, (NF_spec he).2, h]
theorem NF_len (d : List O) : (NF d).length ≤ d.length := Nat.le_trans (normL_len _) (insAll_len d)
end Go.Proofs.Ytncbofjgcapcjaa
