/- What the walk is told of a list of outages that came in. -/
import Derived.Test.YtncbofjgcapcjaaRows
import Derived.Test.YtncbofjgcapcjaaL2
import Derived.ProofKit
import Derived.OpenShut
import Derived.ShutString
import Derived.ChangeOld
import Derived.ChangeSame
import Derived.Below
import Derived.Deep.Slices
import Derived.Deep.Fields
namespace Go.Proofs.Ytncbofjgcapcjaa
open Go.ChangeShapes Go.WideShapes Go.ChangeAt Go.RowKit Go.Deep

theorem und27 : ∃ f0 f1 f2 f3 : Field, Try.prog.underlying 27 = some (.struct #[f0, f1, f2, f3]) ∧ oneCellFields Try.prog #[f0, f1, f2, f3] = true ∧ Try.prog.cellsOf 27 = 4 ∧
    f0.type = 5 ∧ f1.type = 3 ∧ f2.type = 3 ∧ f3.type = 3 := by
  refine ⟨_, _, _, _, Try.underlying27, ?_, ?_, ?_, ?_, ?_, ?_⟩ <;> kernel_rfl

/-- A list of outages, opened: nil, or a row of outages in memory, each number of its kind. -/
theorem open_outs {H : Type} {enc : TypeId × Value → H} {w : World} {base : Nat} {spare : Nat → Bool} {held : Bool} {fuel : Nat} {A : Option Addr} {len cap : Nat} {x : DataW H × List MemPlace}
    (h : DataW.trod enc Try.prog w base spare held fuel 22 [.slice A len cap] = some x) :
    ∃ d : List O, d.length = len ∧ RdO w A d ∧ (∀ y ∈ d, rng y) ∧ (A = none → cap = 0) := by
  obtain ⟨f0, f1, f2, f3, hs, hone, hC, t0, t1, t2, t3⟩ := und27
  rcases open_slice Try.underlying22 h with ⟨hcs, _⟩ | ⟨a, l, c, m, n, D, Pl, hcs, hb, hl, hm, hmm, hx, hi⟩
  · simp at hcs
    obtain ⟨rfl, rfl, rfl⟩ := hcs
    exact ⟨[], rfl, fun h => by simp at h, by simp, fun _ => rfl⟩
  · simp only [List.cons.injEq, Value.slice.injEq, and_true] at hcs
    obtain ⟨rfl, rfl, rfl⟩ := hcs
    have hlm : len ≤ m := by rw [hmm]; split <;> omega
    have one : ∀ i, i < len → ∃ y : O, rng y ∧ w.cell? (a.add (i * 4)) = some (.int .u8 y.k) ∧ w.cell? (a.add (i * 4 + 1)) = some (.int .i64 y.wh) ∧ w.cell? (a.add (i * 4 + 2)) = some (.int .i64 y.f) ∧ w.cell? (a.add (i * 4 + 3)) = some (.int .i64 y.t) := fun i hil => by
      obtain ⟨cs', hc, ht'⟩ := hi i (by omega)
      rw [hC] at hc
      obtain ⟨ys, n', hn', hy, hlen, hyl, hf⟩ := DataW.trod_struct hs ht'
      obtain ⟨_, hcl, hat⟩ := World.cells?_some hc
      have fld : ∀ (j : Nat) (f : Field) (k : IntKind), (#[f0, f1, f2, f3] : Array Field)[j]? = some f → j < 4 → Try.prog.underlying f.type = some (.int k) → ∃ z, w.cell? (a.add (i * 4 + j)) = some (.int k z) ∧ (Lit.int k z).wf = true := fun j f k hj hj4 hu => by
        obtain ⟨ho, hk⟩ := hone_of hone j f hj
        have h1 := hf j f hj
        rw [ho, hk] at h1
        have hone' : (cs'.drop j).take 1 = [cs'[j]'(by omega)] := by
          rw [List.drop_eq_getElem_cons (by omega)]
          rfl
        rw [hone'] at h1
        have hys : ys[j]? = some (ys[j]'(by rw [hyl]; exact hj4)) := List.getElem?_eq_getElem _
        rw [hys] at h1
        obtain ⟨z, e, _, hw⟩ := DataW.trod_int hu h1
        have e1 : cs'[j]'(by omega) = Value.int k z := by simpa using e
        have hcell := hat j hj4
        rw [Go.Deep.add_add, List.getElem?_eq_getElem (by omega), e1] at hcell
        exact ⟨z, hcell, hw⟩
      obtain ⟨z0, c0, _⟩ := fld 0 f0 .u8 rfl (by omega) (by rw [t0]; exact Try.underlying5)
      obtain ⟨z1, c1, _⟩ := fld 1 f1 .i64 rfl (by omega) (by rw [t1]; exact Try.underlying3)
      obtain ⟨z2, c2, w2⟩ := fld 2 f2 .i64 rfl (by omega) (by rw [t2]; exact Try.underlying3)
      obtain ⟨z3, c3, w3⟩ := fld 3 f3 .i64 rfl (by omega) (by rw [t3]; exact Try.underlying3)
      refine ⟨⟨z0, z1, z2, z3⟩, ?_, by simpa using c0, c1, c2, c3⟩
      have b2 := bounds_i64 w2
      have b3 := bounds_i64 w3
      exact ⟨b2.1, b2.2, b3.1, b3.2⟩
    obtain ⟨f, hf⟩ : ∃ f : Nat → O, ∀ i, i < len → rng (f i) ∧ w.cell? (a.add (i * 4)) = some (.int .u8 (f i).k) ∧ w.cell? (a.add (i * 4 + 1)) = some (.int .i64 (f i).wh) ∧ w.cell? (a.add (i * 4 + 2)) = some (.int .i64 (f i).f) ∧ w.cell? (a.add (i * 4 + 3)) = some (.int .i64 (f i).t) :=
      ⟨fun i => if h : i < len then Classical.choose (one i h) else default, fun i h => by simp only [dif_pos h]; exact Classical.choose_spec (one i h)⟩
    refine ⟨(List.range len).map f, by simp, fun h0 => ?_, ?_, fun h => by cases h⟩
    · obtain ⟨b, off, spot⟩ := a
      have hl0 : 0 < len := by simpa using h0
      have hspot : spot = none := by simpa [Addr.add] using World.cell?_spot (hf 0 hl0).2.1
      subst hspot
      refine ⟨b, off, rfl, fun i hi => ?_⟩
      have hi' : i < len := by simpa using hi
      have e : ((List.range len).map f).getD i default = f i := by simp [List.getD_eq_getElem?_getD, hi']
      obtain ⟨_, q0, q1, q2, q3⟩ := hf i hi'
      rw [e]
      rw [Addr.add_lit] at q0 q1 q2 q3
      exact ⟨q0, by rw [Nat.add_assoc]; exact q1, by rw [Nat.add_assoc]; exact q2, by rw [Nat.add_assoc]; exact q3⟩
    · intro y hy
      obtain ⟨i, hi, rfl⟩ := List.mem_map.1 hy
      exact (hf i (List.mem_range.1 hi)).1
end Go.Proofs.Ytncbofjgcapcjaa
