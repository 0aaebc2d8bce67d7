/- How slices of outages and of ints lie in memory, and what keeps them. -/
import Derived.Test.YtncbofjgcapcjaaProg
import Derived.Test.YtncbofjgcapcjaaP
import Derived.WalkKit
import Derived.WalkSpells
import Derived.WalkLawsBesides
import Derived.KernelRfl
namespace Go.Proofs.Ytncbofjgcapcjaa
open Go.RowKit

/-- The four cells of an outage. -/
def cellO (w : World) (b o : Nat) (x : O) : Prop :=
  w.cell? ⟨b, o, none⟩ = some (.int .u8 x.k) ∧ w.cell? ⟨b, o + 1, none⟩ = some (.int .i64 x.wh) ∧ w.cell? ⟨b, o + 2, none⟩ = some (.int .i64 x.f) ∧ w.cell? ⟨b, o + 3, none⟩ = some (.int .i64 x.t)
/-- A slice of outages that starts at A reads as d. -/
def RdO (w : World) (A : Option Addr) (d : List O) : Prop :=
  0 < d.length → ∃ b o, A = some ⟨b, o, none⟩ ∧ ∀ i, i < d.length → cellO w b (o + i * 4) (d.getD i default)
/-- A slice of ints that starts at A reads as d. -/
def RdI (w : World) (A : Option Addr) (d : List Int) : Prop :=
  0 < d.length → ∃ b o, A = some ⟨b, o, none⟩ ∧ ∀ i, i < d.length → w.cell? ⟨b, o + i, none⟩ = some (.int .i64 (d.getD i 0))

theorem cell_keep {w w' : World} (h : Below w.heap.size w w') {a : Addr} {v : Value} (hc : w.cell? a = some v) : w'.cell? a = some v :=
  (h.cell (World.block_lt_of_cell? w a hc)).trans hc
theorem cellO.keep {w w' : World} {b o : Nat} {x : O} (hc : cellO w b o x) (h : Below w.heap.size w w') : cellO w' b o x :=
  ⟨cell_keep h hc.1, cell_keep h hc.2.1, cell_keep h hc.2.2.1, cell_keep h hc.2.2.2⟩
theorem RdO.keep {w w' : World} {A : Option Addr} {d : List O} (hc : RdO w A d) (h : Below w.heap.size w w') : RdO w' A d := fun hl =>
  let ⟨b, o, e, hi⟩ := hc hl
  ⟨b, o, e, fun i hil => (hi i hil).keep h⟩
theorem RdI.keep {w w' : World} {A : Option Addr} {d : List Int} (hc : RdI w A d) (h : Below w.heap.size w w') : RdI w' A d := fun hl =>
  let ⟨b, o, e, hi⟩ := hc hl
  ⟨b, o, e, fun i hil => cell_keep h (hi i hil)⟩
theorem below_of {w w1 w2 : World} (h : Below w.heap.size w w1) (k : Below w1.heap.size w1 w2) : Below w.heap.size w w2 :=
  h.trans (k.mono h.size)
theorem pw_below_drewN {B : Nat} {w W : World} (h : Below B w W) (n : Nat) : Below B w (W.drewN n) := ⟨h.os, h.tape, h.output, h.size, h.block⟩
end Go.Proofs.Ytncbofjgcapcjaa
