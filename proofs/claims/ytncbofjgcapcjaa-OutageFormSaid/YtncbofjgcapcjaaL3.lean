/- Plain laws: checks and normal forms. -/
import Derived.Test.YtncbofjgcapcjaaL2
namespace Go.Proofs.Ytncbofjgcapcjaa
open Go.RowKit Go.Shelf Go.Lib Go.Sort

theorem chk_or (x : O) (a b c : Int) : chk x a b c = 0 ∨ chk x a b c = 1 ∨ chk x a b c = 12 := by
  unfold chk
  split
  · split
    · exact .inr (.inl rfl)
    · exact .inl rfl
  · split
    · split
      · exact .inr (.inl rfl)
      · exact .inl rfl
    · exact .inr (.inr rfl)
theorem chkFrom_ok (a b c : Int) : ∀ (d : List O) (i : Int), (∀ x ∈ d, chk x a b c = 0) → chkFrom a b c i d = (0, 0)
  | [], _, _ => rfl
  | x :: r, i, h => by
    rw [chkFrom, if_pos (h x (by simp))]
    exact chkFrom_ok a b c r (i + 1) fun y hy => h y (List.mem_cons_of_mem _ hy)
theorem chkFrom_cases (a b c : Int) : ∀ (d : List O) (i : Int), (∀ x ∈ d, chk x a b c = 0) ∨
    ∃ (k : Nat) (x : O), k < d.length ∧ d[k]? = some x ∧ chk x a b c ≠ 0 ∧ (∀ y ∈ d.take k, chk y a b c = 0) ∧ chkFrom a b c i d = (i + k, chk x a b c)
  | [], _ => .inl (by simp)
  | x :: r, i => by
    by_cases hx : chk x a b c = 0
    · rcases chkFrom_cases a b c r (i + 1) with h | ⟨k, y, hk, hy, h1, h2, h3⟩
      · exact .inl (by intro z hz; rcases List.mem_cons.1 hz with rfl | hz; exact hx; exact h z hz)
      · refine .inr ⟨k + 1, y, by simpa using hk, by simpa using hy, h1, ?_, ?_⟩
        · intro z hz
          rw [List.take_succ_cons] at hz
          rcases List.mem_cons.1 hz with rfl | hz
          · exact hx
          · exact h2 z hz
        · rw [chkFrom, if_pos hx, h3]
          simp; omega
    · exact .inr ⟨0, x, by simp, by simp, hx, by simp, by rw [chkFrom, if_neg hx]; simp⟩
theorem checkF_cases (d : List O) (a b c : Int) : (16 < d.length ∧ checkF d a b c = (0, 5)) ∨ (d.length ≤ 16 ∧ (∀ x ∈ d, chk x a b c = 0) ∧ checkF d a b c = (0, 0)) ∨
    ∃ (k : Nat) (z : Int), k < d.length ∧ d.length ≤ 16 ∧ checkF d a b c = ((k : Int), z) ∧ (z = 1 ∨ z = 12) ∧ checkF (d.take k) a b c = (0, 0) ∧ checkF ((d.drop k).take 1) a b c = (0, z) := by
  by_cases h16 : 16 < d.length
  · exact .inl ⟨h16, by rw [checkF, if_pos h16]⟩
  · rcases chkFrom_cases a b c d 0 with h | ⟨k, x, hk, hx, h1, h2, h3⟩
    · exact .inr (.inl ⟨by omega, h, by rw [checkF, if_neg h16]; exact chkFrom_ok a b c d 0 h⟩)
    · refine .inr (.inr ⟨k, chk x a b c, hk, by omega, by rw [checkF, if_neg h16, h3]; simp, by have := chk_or x a b c; omega, ?_, ?_⟩)
      · rw [checkF, if_neg (by rw [List.length_take]; omega)]
        exact chkFrom_ok a b c _ 0 h2
      · have e : (d.drop k).take 1 = [x] := by
          have hx' : d[k] = x := by rw [List.getElem?_eq_getElem hk] at hx; injection hx
          rw [List.drop_eq_getElem_cons hk, hx']; rfl
        rw [e, checkF, if_neg (by simp)]
        rw [chkFrom, if_neg h1]
theorem checkF_ok (d : List O) (a b c : Int) (hl : d.length ≤ 16) (h : ∀ x ∈ d, chk x a b c = 0) : checkF d a b c = (0, 0) := by
  rw [checkF, if_neg (by omega)]; exact chkFrom_ok a b c d 0 h
theorem chk_iff (x : O) (a b c : Int) : chk x a b c = 0 ↔ (((x.k = 1 ∨ x.k = 2) ∧ x.wh < a) ∨ (x.k = 3 ∧ x.wh < b)) ∧ 0 ≤ x.wh ∧ 0 ≤ x.f ∧ x.f ≤ x.t ∧ x.t < c := by
  have hb : ∀ l h : Int, bad x l h = false ↔ 0 ≤ x.wh ∧ x.wh < l ∧ 0 ≤ x.f ∧ x.f ≤ x.t ∧ x.t < h := fun l h => by
    unfold bad; simp only [Bool.or_eq_false_iff, decide_eq_false_iff_not]; omega
  unfold chk
  by_cases h1 : x.k = 1 ∨ x.k = 2
  · rw [if_pos h1]
    cases e : bad x a c
    · rw [hb] at e; simp; omega
    · have : ¬ bad x a c = false := by rw [e]; simp
      rw [hb] at this
      simp; omega
  · rw [if_neg h1]
    by_cases h3 : x.k = 3
    · rw [if_pos h3]
      cases e : bad x b c
      · rw [hb] at e; simp; omega
      · have : ¬ bad x b c = false := by rw [e]; simp
        rw [hb] at this
        simp; omega
    · rw [if_neg h3]
      constructor
      · intro h; omega
      · rintro ⟨h | h, _⟩ <;> omega
theorem NF_chk {d : List O} (hr : ∀ x ∈ d, rng x) (a b c : Int) (h : ∀ x ∈ d, chk x a b c = 0) : ∀ x ∈ NF d, chk x a b c = 0 := fun x hx => by
  obtain ⟨hn, hc⟩ := NF_spec hr
  have gx := hn.good x hx
  obtain ⟨o, ho, e1, e2, e3, e4⟩ := (hc x.k x.wh x.f).1 ⟨x, hx, rfl, rfl, Int.le_refl _, gx.2⟩
  obtain ⟨o', ho', f1, f2, f3, f4⟩ := (hc x.k x.wh x.t).1 ⟨x, hx, rfl, rfl, gx.2, Int.le_refl _⟩
  have c1 := (chk_iff o a b c).1 (h o ho)
  have c2 := (chk_iff o' a b c).1 (h o' ho')
  have := gx.2
  rw [chk_iff]
  omega
theorem nowF_ok {d : List O} {a b c hr : Int} (h : ∀ x ∈ d, chk x a b c = 0) (x : Int) (hx : x ∈ nowF hr d) : 0 ≤ x ∧ x < a ∧ 0 ≤ hr ∧ hr < c := by
  rw [nowF_mem] at hx
  rcases hx with ⟨o, ho, e1, e2, e3, e4⟩ | ⟨o, ho, e1, e2, e3, e4⟩ <;>
  · have := (chk_iff o a b c).1 (h o ho)
    omega
theorem setF1_ok {d : List O} {a b c hr : Int} (h : ∀ x ∈ d, chk x a b c = 0) (x : Int) (hx : x ∈ setF 1 hr d) : 0 ≤ hr ∧ hr < c := by
  rw [setF_mem] at hx
  obtain ⟨o, ho, e1, e2, e3, e4⟩ := hx
  have := (chk_iff o a b c).1 (h o ho)
  omega
theorem setF3_ok {d : List O} {a b c hr : Int} (h : ∀ x ∈ d, chk x a b c = 0) (x : Int) (hx : x ∈ setF 3 hr d) : 0 ≤ x ∧ x < b ∧ 0 ≤ hr ∧ hr < c := by
  rw [setF_mem] at hx
  obtain ⟨o, ho, e1, e2, e3, e4⟩ := hx
  have := (chk_iff o a b c).1 (h o ho)
  omega
theorem empty_of {l : List Int} {p : Prop} (h : ∀ x ∈ l, p) (hp : ¬ p) : l = [] := by
  cases l with
  | nil => rfl
  | cons x r => exact absurd (h x (by simp)) hp

/-- What OutageForm asks of neighbours. -/
theorem nf_pair {d : List O} (h : NFm d) (i : Nat) (hi : i + 1 < d.length) : sep (d.getD i default) (d.getD (i + 1) default) := by
  have := List.pairwise_iff_getElem.1 h.sep i (i + 1) (by omega) hi (by omega)
  have e1 : d.getD i default = d[i] := by simp [List.getD_eq_getElem?_getD, show i < d.length by omega]
  have e2 : d.getD (i + 1) default = d[i + 1] := by simp [List.getD_eq_getElem?_getD, hi]
  rw [e1, e2]; exact this
end Go.Proofs.Ytncbofjgcapcjaa
