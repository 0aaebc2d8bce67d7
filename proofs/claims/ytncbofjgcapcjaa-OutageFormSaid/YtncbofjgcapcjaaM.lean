/- Why a symmetric merge sorts: the plain facts, of arrays alone. -/
import Derived.Sort.LotA
namespace Go.Proofs.Ytncbofjgcapcjaa
open Go.Sort
section
variable {α : Type} [Inhabited α] {lt : α → α → Bool}

omit [Inhabited α] in
theorem SWO.le_lt (h : SWO lt) {x y z : α} (h1 : lt y x = false) (h2 : lt y z = true) : lt x z = true := by
  cases e : lt x z with
  | true => rfl
  | false => rw [h.ntrans y x z h1 e] at h2; cases h2
omit [Inhabited α] in
theorem SWO.lt_le (h : SWO lt) {x y z : α} (h1 : lt x y = true) (h2 : lt z y = false) : lt x z = true := by
  cases e : lt x z with
  | true => rfl
  | false => rw [h.ntrans x z y e h2] at h1; cases h1

theorem sorted_mono {a b a' b' : Nat} {d : Array α} (h : SortedIn lt a b d) (ha : a ≤ a') (hb : b' ≤ b) : SortedIn lt a' b' d := fun i j h1 h2 h3 => h i j (by omega) h2 (by omega)
theorem sorted_one {a : Nat} {d : Array α} : SortedIn lt a (a + 1) d := fun i j h1 h2 h3 => by omega
theorem sorted_le (hS : SWO lt) {a b : Nat} {d : Array α} (h : SortedIn lt a b d) {i j : Nat} (h1 : a ≤ i) (h2 : i ≤ j) (h3 : j < b) : lt d[j]! d[i]! = false := by
  by_cases e : i = j
  · subst e; exact hS.irrefl _
  · exact h i j h1 (by omega) h3

/-- One element, put into the ascending run behind it. -/
theorem ins_right (hS : SWO lt) {a b i : Nat} {d e : Array α} (hs : SortedIn lt (a + 1) b d) (hi : a + 1 ≤ i) (hib : i ≤ b) (hlo : ∀ h, a + 1 ≤ h → h < i → lt d[h]! d[a]! = true) (hhi : ∀ h, i ≤ h → h < b → lt d[h]! d[a]! = false)
    (he : ∀ t, e[t]! = if a ≤ t ∧ t + 1 < i then d[t + 1]! else if t + 1 = i then d[a]! else d[t]!) : SortedIn lt a b e := by
  intro x y hx hxy hy
  rw [he x, he y]
  by_cases h1 : y + 1 < i
  · rw [if_pos (show a ≤ y ∧ y + 1 < i by omega), if_pos (by omega)]
    exact hs _ _ (by omega) (by omega) (by omega)
  · rw [if_neg (show ¬ (a ≤ y ∧ y + 1 < i) by omega)]
    by_cases h2 : y + 1 = i
    · rw [if_pos h2, if_pos (by omega)]
      exact hS.asymmA (hlo _ (by omega) (by omega))
    · rw [if_neg h2]
      by_cases h3 : x + 1 < i
      · rw [if_pos (show a ≤ x ∧ x + 1 < i by omega)]
        exact hs _ _ (by omega) (by omega) (by omega)
      · rw [if_neg (show ¬ (a ≤ x ∧ x + 1 < i) by omega)]
        by_cases h4 : x + 1 = i
        · rw [if_pos h4]
          exact hhi _ (by omega) (by omega)
        · rw [if_neg h4]
          exact hs _ _ (by omega) (by omega) (by omega)

/-- One element, put into the ascending run ahead of it. -/
theorem ins_left (hS : SWO lt) {a m i : Nat} {d e : Array α} (hs : SortedIn lt a m d) (hi : a ≤ i) (him : i ≤ m) (hlo : ∀ h, a ≤ h → h < i → lt d[m]! d[h]! = false) (hhi : ∀ h, i ≤ h → h < m → lt d[m]! d[h]! = true)
    (he : ∀ t, e[t]! = if t = i then d[m]! else if i < t ∧ t ≤ m then d[t - 1]! else d[t]!) : SortedIn lt a (m + 1) e := by
  intro x y hx hxy hy
  rw [he x, he y]
  by_cases h1 : y < i
  · rw [if_neg (show ¬ y = i by omega), if_neg (show ¬ (i < y ∧ y ≤ m) by omega), if_neg (show ¬ x = i by omega), if_neg (show ¬ (i < x ∧ x ≤ m) by omega)]
    exact hs _ _ (by omega) (by omega) (by omega)
  · by_cases h2 : y = i
    · rw [if_pos h2, if_neg (show ¬ x = i by omega), if_neg (show ¬ (i < x ∧ x ≤ m) by omega)]
      exact hlo _ (by omega) (by omega)
    · rw [if_neg h2, if_pos (show i < y ∧ y ≤ m by omega)]
      by_cases h3 : x = i
      · rw [if_pos h3]
        exact hS.asymmA (hhi _ (by omega) (by omega))
      · rw [if_neg h3]
        by_cases h4 : i < x
        · rw [if_pos (show i < x ∧ x ≤ m by omega)]
          exact hs _ _ (by omega) (by omega) (by omega)
        · rw [if_neg (show ¬ (i < x ∧ x ≤ m) by omega)]
          by_cases h5 : x = y - 1
          · rw [h5]; exact hS.irrefl _
          · exact hs _ _ (by omega) (by omega) (by omega)

/-- The test of the symmetric search falls with the place. -/
theorem sym_mono (hS : SWO lt) {a m b p lo hi : Nat} {d : Array α} (h1 : SortedIn lt a m d) (h2 : SortedIn lt m b d) (hlo : a ≤ lo) (hhi : hi ≤ m) (hp1 : ∀ c, lo ≤ c → c < hi → c ≤ p ∧ m ≤ p - c ∧ p - c < b)
    {x y : Nat} (hx : lo ≤ x) (hxy : x ≤ y) (hy : y < hi) (h : lt d[p - y]! d[y]! = false) : lt d[p - x]! d[x]! = false := by
  have ⟨p1, p2, p3⟩ := hp1 x hx (by omega)
  have ⟨q1, q2, q3⟩ := hp1 y (by omega) hy
  have k1 : lt d[p - x]! d[p - y]! = false := sorted_le hS h2 (i := p - y) (j := p - x) q2 (by omega) p3
  have k2 : lt d[y]! d[x]! = false := sorted_le hS h1 (by omega) hxy (by omega)
  exact hS.ntrans _ _ _ (hS.ntrans _ _ _ k1 h) k2

/-- The rotation's outcome. -/
def rotOf (d : Array α) (a m b t : Nat) : α := if a ≤ t ∧ t < a + (b - m) then d[t + (m - a)]! else if a + (b - m) ≤ t ∧ t < b then d[t - (b - m)]! else d[t]!

structure SymAt (lt : α → α → Bool) (d : Array α) (a m b mid lo hi s : Nat) : Prop where
  mids : mid = (a + b) / 2
  los : lo = if mid < m then mid + m - b else a
  his : hi = if mid < m then mid else m
  ge : lo ≤ s
  le : s ≤ hi
  yes : ∀ h, lo ≤ h → h < s → lt d[mid + m - 1 - h]! d[h]! = false
  no : ∀ h, s ≤ h → h < hi → lt d[mid + m - 1 - h]! d[h]! = true

theorem SymAt.bd {d : Array α} {a m b mid lo hi s : Nat} (h : SymAt lt d a m b mid lo hi s) (ham : a < m) (hmb : m < b) : a ≤ s ∧ s ≤ m ∧ s ≤ mid ∧ m ≤ mid + m - s ∧ mid ≤ mid + m - s ∧ mid + m - s ≤ b ∧ a ≤ lo ∧ hi ≤ m := by
  have h1 := h.mids; have h2 := h.los; have h3 := h.his; have h4 := h.ge; have h5 := h.le
  split at h2 <;> (rename_i hc; first | rw [if_pos hc] at h3 | rw [if_neg hc] at h3) <;> omega

theorem sym_left {a m b : Nat} {d : Array α} (h1 : SortedIn lt a m d) (h2 : SortedIn lt m b d) {mid s : Nat} {e : Array α} (hs1 : a ≤ s) (hs2 : s ≤ m) (hs3 : s ≤ mid) (hs4 : mid + m - s ≤ b)
    (he : ∀ t, e[t]! = rotOf d s m (mid + m - s) t) : SortedIn lt a s e ∧ SortedIn lt s mid e ∧ SortedIn lt mid (mid + m - s) e ∧ SortedIn lt (mid + m - s) b e := by
  refine ⟨fun x y hx hxy hy => ?_, fun x y hx hxy hy => ?_, fun x y hx hxy hy => ?_, fun x y hx hxy hy => ?_⟩
  · rw [he, he, rotOf, rotOf, if_neg (by omega), if_neg (by omega), if_neg (by omega), if_neg (by omega)]
    exact h1 _ _ hx hxy (by omega)
  · rw [he, he, rotOf, rotOf, if_pos (by omega), if_pos (by omega)]
    exact h2 _ _ (by omega) (by omega) (by omega)
  · rw [he, he, rotOf, rotOf, if_neg (by omega), if_pos (by omega), if_neg (by omega), if_pos (by omega)]
    exact h1 _ _ (by omega) (by omega) (by omega)
  · rw [he, he, rotOf, rotOf, if_neg (by omega), if_neg (by omega), if_neg (by omega), if_neg (by omega)]
    exact h2 _ _ (by omega) (by omega) (by omega)

theorem sym_cross (hS : SWO lt) {d e : Array α} {a m b mid lo hi s : Nat} (h1 : SortedIn lt a m d) (h2 : SortedIn lt m b d) (hA : SymAt lt d a m b mid lo hi s) (ham : a < m) (hmb : m < b)
    (he : ∀ t, e[t]! = rotOf d s m (mid + m - s) t) : ∀ x y, a ≤ x → x < mid → mid ≤ y → y < b → lt e[y]! e[x]! = false := by
  have ⟨b1, b2, b3, b4, b5, b6, b7, b8⟩ := hA.bd ham hmb
  intro x y hx hxm hym hy
  rw [he y, he x]
  by_cases c1 : x < s
  · have ex : rotOf d s m (mid + m - s) x = d[x]! := by rw [rotOf, if_neg (by omega), if_neg (by omega)]
    rw [ex]
    by_cases c2 : y < mid + m - s
    · have ey : rotOf d s m (mid + m - s) y = d[y - (mid + m - s - m)]! := by rw [rotOf, if_neg (by omega), if_pos (by omega)]
      rw [ey]
      exact sorted_le hS h1 hx (by omega) (by omega)
    · have ey : rotOf d s m (mid + m - s) y = d[y]! := by rw [rotOf, if_neg (by omega), if_neg (by omega)]
      rw [ey]
      have hy1 := hA.yes (s - 1) (by
        have h3 := hA.los; have h4 := hA.mids; have h5 := hA.ge
        split at h3 <;> omega) (by omega)
      rw [show mid + m - 1 - (s - 1) = mid + m - s by omega] at hy1
      exact hS.ntrans _ _ _ (hS.ntrans _ _ _ (sorted_le hS h2 (by omega) (show mid + m - s ≤ y by omega) hy) hy1) (sorted_le hS h1 hx (show x ≤ s - 1 by omega) (by omega))
  · have ex : rotOf d s m (mid + m - s) x = d[x + (m - s)]! := by rw [rotOf, if_pos (by omega)]
    rw [ex]
    by_cases c2 : y < mid + m - s
    · have ey : rotOf d s m (mid + m - s) y = d[y - (mid + m - s - m)]! := by rw [rotOf, if_neg (by omega), if_pos (by omega)]
      rw [ey]
      have hn := hA.no s (Nat.le_refl _) (by
        have h3 := hA.his; have h4 := hA.mids; have h5 := hA.le
        split at h3 <;> omega)
      refine hS.asymmA ?_
      have k1 : lt d[mid + m - 1 - s]! d[x + (m - s)]! = false := sorted_le hS h2 (by omega) (by omega) (by omega)
      have k2 : lt d[y - (mid + m - s - m)]! d[s]! = false := sorted_le hS h1 (by omega) (by omega) (by omega)
      exact SWO.lt_le hS (SWO.le_lt hS k1 hn) k2
    · have ey : rotOf d s m (mid + m - s) y = d[y]! := by rw [rotOf, if_neg (by omega), if_neg (by omega)]
      rw [ey]
      exact sorted_le hS h2 (by omega) (by omega) hy

/-- Two ascending runs, nothing of the second less than anything of the first. -/
theorem join_sorted {a mid b : Nat} {d : Array α} (h1 : SortedIn lt a mid d) (h2 : SortedIn lt mid b d) (hx : ∀ x y, a ≤ x → x < mid → mid ≤ y → y < b → lt d[y]! d[x]! = false) : SortedIn lt a b d := fun i j hi hij hj => by
  by_cases c1 : j < mid
  · exact h1 i j hi hij c1
  · by_cases c2 : i < mid
    · exact hx i j hi c2 (by omega) hj
    · exact h2 i j (by omega) hij hj

/-- What a permutation of each half leaves of it. -/
theorem cross_perm {a mid b : Nat} {d e : Array α} (hb : b ≤ d.size) (hm : mid ≤ b) (ham : a ≤ mid) (hx : ∀ x y, a ≤ x → x < mid → mid ≤ y → y < b → lt d[y]! d[x]! = false) (hp : PermIn a mid d e ∨ PermIn mid b d e) :
    ∀ x y, a ≤ x → x < mid → mid ≤ y → y < b → lt e[y]! e[x]! = false := by
  rcases hp with hp | hp
  · intro x y h1 h2 h3 h4
    rw [hp.2.1 y (Or.inr h3)]
    exact permIn_all d e a mid (fun z => lt d[y]! z = false) (by omega) hp (fun i hi1 hi2 => hx i y hi1 hi2 h3 h4) x h1 h2
  · intro x y h1 h2 h3 h4
    rw [hp.2.1 x (Or.inl h2)]
    exact permIn_all d e mid b (fun z => lt z d[x]! = false) hb hp (fun i hi1 hi2 => hx x i h1 h2 hi1 hi2) y h3 h4
theorem sorted_perm_other {a b c e' : Nat} {d e : Array α} (hp : PermIn a b d e) (h : SortedIn lt c e' d) (ho : e' ≤ a ∨ b ≤ c) : SortedIn lt c e' e := fun i j h1 h2 h3 => by
  rw [hp.2.1 i (by omega), hp.2.1 j (by omega)]
  exact h i j h1 h2 h3
end
end Go.Proofs.Ytncbofjgcapcjaa
