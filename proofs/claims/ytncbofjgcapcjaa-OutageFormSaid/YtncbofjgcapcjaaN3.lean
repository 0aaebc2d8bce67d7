/- The sort of the copy, whatever its length. -/
import Derived.Test.YtncbofjgcapcjaaN2
namespace Go.Proofs.Ytncbofjgcapcjaa
open Go.RowKit Go.Shelf Go.Lib Go.Sort

set_option maxHeartbeats 1000000 in
theorem ins_nil (f : Value) (w : World) : Calls Try.prog 42 #[.slice none 0 0, .int .i64 0, .int .i64 0, f] w fun e w' => e = .returned (.tuple #[]) ∧ w' = w := by
  go_enter Try.func42, Try.ntmps42
  go_wp2
  go_loopw [8] (fun i wr => i = .int .i64 1 ∧ wr = w) (fun i _ => 0)
  case atStart => exact ⟨rfl, rfl⟩
  case round =>
    obtain ⟨rfl, rfl⟩ := hrel
    go_wp2_with fail
    go_end0
    exact ⟨rfl, rfl⟩
set_option maxHeartbeats 1000000 in
theorem stable_nil (f : Value) (w : World) : Calls Try.prog 33 #[.slice none 0 0, .int .i64 0, f] w fun e w' => e = .returned (.tuple #[]) ∧ w' = w := by
  go_enter Try.func33, Try.ntmps33
  go_wp2
  go_loopw [7, 8] (fun a b wr => a = .int .i64 0 ∧ b = .int .i64 20 ∧ wr = w) (fun a _ _ => 0)
  case atStart => exact ⟨rfl, rfl, rfl⟩
  case round =>
    obtain ⟨rfl, rfl, rfl⟩ := hrel
    go_wp2_with fail
    refine (ins_nil f _).mono ?_
    rintro e w' ⟨rfl, rfl⟩
    go_wp2_with fail
    go_loopw [6, 7, 8] (fun c a b wr => c = .int .i64 20 ∧ wr = w') (fun c a _ _ => 0)
    case atStart => exact ⟨rfl, rfl⟩
    case round =>
      obtain ⟨rfl, rfl⟩ := hrel
      go_wp2_with fail
      go_end0
      exact ⟨rfl, rfl⟩
set_option maxHeartbeats 1000000 in
theorem sort_nil (w : World) : Calls Try.prog 23 #[.slice none 0 0, .func (.func 24) #[] #[]] w fun e w' => e = .returned (.tuple #[]) ∧ w' = w := by
  go_enter Try.func23, Try.ntmps23
  go_wp2_with fail
  refine (stable_nil _ _).mono ?_
  rintro e w' ⟨rfl, rfl⟩
  go_wp2_with fail
  go_end0
  exact ⟨rfl, rfl⟩

def SortedL (s : List O) : Prop := s.Pairwise fun x y => ltOf cmpO y x = false
theorem sort22_any (hO : SWO (ltOf cmpO)) (base : Nat) (v : Value) (d : List O) (w : World) (h : OwnO w base v d) (hlen : d.length ≤ 100000000) (hbase : base ≤ w.heap.size) :
    Calls Try.prog 23 #[v, .func (.func 24) #[] #[]] w fun e w' => e = .returned (.tuple #[]) ∧ ∃ s, s.Perm d ∧ SortedL s ∧ OwnO w' base v s ∧ Below base w w' := by
  rcases h.shape with ⟨e, e2⟩ | ⟨g, cap, cur, e, hb, hg, h1, h2, h3, h4, h5⟩
  · subst e; subst e2
    refine (sort_nil w).mono ?_
    rintro e w' ⟨rfl, rfl⟩
    exact ⟨rfl, [], List.Perm.refl _, List.Pairwise.nil, h, Below.refl _ _⟩
  · subst e
    refine (sortStable_any hO g 0 cap d.length d.toArray w h.holds h5 (by simp) (by omega)).mono ?_
    rintro e w' ⟨rfl, d', hsz, hp, hs, S⟩
    have hl : d'.toList.length = d.length := by simpa using hsz
    refine ⟨rfl, d'.toList, ?_, ?_, (OwnO.sorted h hl S).1, (OwnO.sorted h hl S).2⟩
    · have := hp.2.2
      have e1 : d'.extract 0 d.length = d' := by have : d'.size = d.length := by simpa using hsz
                                                 rw [← this]; simp
      have e2 : d.toArray.extract 0 d.length = d.toArray := by simp
      rw [e1, e2] at this
      simpa using this
    · unfold SortedL
      rw [List.pairwise_iff_getElem]
      intro i j hi hj hij
      have := hs i j (Nat.zero_le _) hij (by simpa [hsz] using hj)
      have a1 : d'[i]! = d'.toList[i] := by rw [getElem!_pos d' i (by simpa using hi)]; simp
      have a2 : d'[j]! = d'.toList[j] := by rw [getElem!_pos d' j (by simpa using hj)]; simp
      rw [← a1, ← a2]; exact this
end Go.Proofs.Ytncbofjgcapcjaa
