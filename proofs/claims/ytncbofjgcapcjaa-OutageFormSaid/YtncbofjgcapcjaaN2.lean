/- The copy of a list of outages, and its sort, as the program's normal form calls them. -/
import Derived.Test.YtncbofjgcapcjaaN1
namespace Go.Proofs.Ytncbofjgcapcjaa
open Go.RowKit Go.Shelf Go.Lib Go.Sort

set_option maxHeartbeats 1000000 in
theorem clone22_zero (a : Addr) (cap : Nat) (w : World) :
    Calls Try.prog 22 #[.slice (some a) 0 cap] w fun e w' => ∃ v, e = .returned v ∧ OwnO w' w.heap.size v [] ∧ Below w.heap.size w w' := by
  have q22 : ∀ (w : World) (a : Option Addr) (n c n' c' : Nat), (binOp .eql 22 (.slice a n c) (.slice none n' c')).run Try.prog w = .ok (.bool a.isNone) w := fun w a n c n' c' => Lib.run_eql_slice_nil w _ _ a n c n' c' Try.underlying22
  go_enter Try.func22, Try.ntmps22
  go_wp2_with (refine list_appendO rfl (.tmp 5) (.tmp 6) rfl w.heap.size _ (some a) 0 cap [] [] (by rfl) (by rfl) (World.ownsRow_made w #[] 0 (Nat.le_refl _) (Nat.zero_le _) rfl) (fun h => absurd h (by simp)) rfl (fun h => by cases h) (by simp) (by simp) ?_; intro v w1 o1 g1; have O1 := Lib.hid o1; have G1 := Lib.hid g1; clear o1 g1)
  go_ret
  refine ⟨v, rfl, O1.out, ?_⟩
  exact ((Below.refl _ w).alloc (Nat.le_refl _) _).grown G1.out (by simp) (by intro k hk; simp [Value.ownBlock] at hk; omega)
theorem clone22_any (A : Option Addr) (cap : Nat) (d : List O) (w : World) (hR : RdO w A d) (hlen : d.length ≤ 1000000000000) :
    Calls Try.prog 22 #[.slice A d.length cap] w fun e w' => ∃ v, e = .returned v ∧ OwnO w' w.heap.size v d ∧ Below w.heap.size w w' := by
  obtain ⟨i0, hi, hz0, hz1, hz2⟩ := info_parts info27
  by_cases h0 : d = []
  · subst h0
    cases A with
    | none =>
      refine (AnyE.slices_Clone_nil Try.laysCloneO 0 cap w).mono ?_
      rintro e w' ⟨rfl, rfl⟩
      exact ⟨_, rfl, OwnO.nil _ _, Below.refl _ _⟩
    | some a => exact clone22_zero a cap w
  · have hp : 0 < d.length := List.length_pos_iff.2 h0
    obtain ⟨b, o, rfl, _⟩ := hR hp
    refine (AnyE.slices_Clone Try.laysCloneO i0 _ 4 32 hi hz0 hz1 hz2 rfl (by omega) (fun w => by rfl) b o d.length cap (flat d) w (flat_len d) (by unfold maxLen; omega) (by omega) ?_ (flat_one d)).mono ?_
    · intro j u hu
      have := RdO.news hR j u hu
      rwa [Addr.add_lit] at this
    · rintro e w' ⟨v, rfl, h1, _, h2⟩
      exact ⟨v, rfl, h1, h2⟩

theorem flatK_flat (l : List O) (t : Nat) (h : t < l.length * 4) : some ((flatK encO 4 l.toArray)[t]!) = (flat l)[t]? := by
  rw [get_flatK _ _ _ t (by simpa using h)]
  have h4 : t / 4 < l.length := by omega
  have := flat_get l (t / 4) (t % 4) (Nat.mod_lt _ (by omega)) h4
  rw [show t / 4 * 4 + t % 4 = t by omega] at this
  have hm : t % 4 < (encO (l.getD (t / 4) default)).length := by rw [lenO]; exact Nat.mod_lt _ (by omega)
  have e1 : l.toArray[t / 4]! = l.getD (t / 4) default := by simp [h4]
  rw [this, e1, List.getElem?_eq_getElem hm, getElem!_pos (encO (l.getD (t / 4) default)) (t % 4) hm]

theorem OwnO.holds {w : World} {base g n cap : Nat} {d : List O} (h : OwnO w base (.slice (some ⟨g, 0, none⟩) n cap) d) : HoldsK encO 4 w g 0 d.toArray := fun j hj => by
  have hj' : j < d.length * 4 := by simpa using hj
  obtain ⟨c, f0, f1, f2, f3⟩ := h.cells (j / 4) (by omega)
  have hm : j % 4 = 0 ∨ j % 4 = 1 ∨ j % 4 = 2 ∨ j % 4 = 3 := by omega
  have e := flatK_flat d j hj'
  have e2 := flat_get d (j / 4) (j % 4) (Nat.mod_lt _ (by omega)) (by omega)
  rw [show j / 4 * 4 + j % 4 = j by omega] at e2
  rw [e2] at e
  have hc := c.get (j % 4) _ e.symm
  rw [show j / 4 * 4 + j % 4 = j by omega] at hc
  rw [Nat.zero_add]
  refine ⟨hc, ?_⟩
  rcases hm with e3 | e3 | e3 | e3
  · rwa [show j / 4 * 4 = j by omega] at f0
  · rwa [show j / 4 * 4 + 1 = j by omega] at f1
  · rwa [show j / 4 * 4 + 2 = j by omega] at f2
  · rwa [show j / 4 * 4 + 3 = j by omega] at f3

theorem OwnO.sorted {w w' : World} {base g n cap : Nat} {d s : List O} (h : OwnO w base (.slice (some ⟨g, 0, none⟩) n cap) d) (hs : s.length = d.length) (S : SWK encO 4 w g 0 s.toArray w') :
    OwnO w' base (.slice (some ⟨g, 0, none⟩) n cap) s ∧ Below base w w' := by
  have hH := S.holds (h.own g rfl).2 h.holds (by simpa using hs)
  rcases h.shape with ⟨e, _⟩ | ⟨g', cap', cur, e, hb, hg, h1, h2, h3, h4, h5⟩
  · cases e
  · obtain ⟨m, os, rfl⟩ := S
    have e' := e
    cases e
    have hold : ∀ k, k < w.heap.size → (sortWorldK encO 4 w g 0 m s.toArray os).heap[k]? = (w.heap.modify g (onCells (putCells id 0 (flatK encO 4 s.toArray))))[k]? := fun k hk => by
      unfold sortWorldK
      rw [heap_grow_old _ _ (by show k < (w.heap.modify g _).size; simpa using hk)]
      rfl
    refine ⟨⟨by rw [flat_len], .inr ⟨g, cap, putCells id 0 (flatK encO 4 s.toArray) cur, by rw [hs], hb, ?_, by omega, h2, ?_, ?_⟩⟩, rfl, rfl, rfl, ?_, ?_⟩
    · rw [hold g h5, Array.getElem?_modify, if_pos rfl, hg]; rfl
    · rw [putCells, Array.size_mapIdx]; omega
    · apply List.ext_getElem?
      intro j
      rw [List.getElem?_take]
      by_cases hj : j < s.length * 4
      · rw [if_pos hj]
        have hc := (hH j (by simpa using hj)).1
        rw [Nat.zero_add] at hc
        simp only [World.cell?] at hc
        rw [hold g h5, Array.getElem?_modify, if_pos rfl, hg] at hc
        rw [← flatK_flat s j hj, Array.getElem?_toList]
        exact hc
      · rw [if_neg hj, List.getElem?_eq_none (by rw [flat_len]; omega)]
    · unfold sortWorldK; rw [size_grow, size_putRowK]; exact Nat.le_add_right _ _
    · intro k hk
      rw [hold k (by omega), Array.getElem?_modify, if_neg (by omega)]
end Go.Proofs.Ytncbofjgcapcjaa
