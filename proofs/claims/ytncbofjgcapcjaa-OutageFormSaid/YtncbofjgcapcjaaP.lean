/- Plain definitions for the outage laws: what the Go functions of package outage and of the references compute. -/
import Derived.RowKit
namespace Go.Proofs.Ytncbofjgcapcjaa

/-- An outage. -/
structure O where
  k : Int
  wh : Int
  f : Int
  t : Int
deriving DecidableEq
instance : Inhabited O := ⟨⟨0, 0, 0, 0⟩⟩

def bad (x : O) (lines hours : Int) : Bool := decide (x.wh < 0) || decide (lines ≤ x.wh) || decide (x.f < 0) || decide (x.t < x.f) || decide (hours ≤ x.t)
def chk (x : O) (a b c : Int) : Int :=
  if x.k = 1 ∨ x.k = 2 then (if bad x a c then 1 else 0) else if x.k = 3 then (if bad x b c then 1 else 0) else 12
def chkFrom (a b c : Int) : Int → List O → Int × Int
  | _, [] => (0, 0)
  | i, x :: r => if chk x a b c = 0 then chkFrom a b c (i + 1) r else (i, chk x a b c)
def checkF (d : List O) (a b c : Int) : Int × Int := if 16 < d.length then (0, 5) else chkFrom a b c 0 d

theorem drop_cons {α : Type} [Inhabited α] (d : List α) (k : Nat) (h : k < d.length) : d.drop k = d.getD k default :: d.drop (k + 1) := by
  rw [List.drop_eq_getElem_cons h]; simp [h]

def less (x y : O) : Bool := if x.k = y.k then (if x.wh = y.wh then decide (x.f < y.f) else decide (x.wh < y.wh)) else decide (x.k < y.k)
open Go.RowKit in
def touch (x y : O) : Bool := if x.k = y.k then (if x.wh = y.wh then (if y.f ≤ x.t then true else wrap64 (y.f - 1) == x.t) else false) else false
def hasB (d : List Int) (n : Int) : Bool := d.contains n
def risesB : Int → List Int → Bool
  | _, [] => true
  | z, x :: r => if x ≤ z then false else risesB x r
/-- One outage, put behind a list in normal form. -/
def mergeN (out : List O) (x : O) : List O :=
  if 0 < out.length ∧ touch (out.getD (out.length - 1) default) x = true then out.set (out.length - 1) { out.getD (out.length - 1) default with t := max (out.getD (out.length - 1) default).t x.t } else out ++ [x]
def posN (x : O) (s : List O) : Nat := (s.takeWhile fun y => !less x y).length
def insN (x : O) (s : List O) : List O := s.take (posN x s) ++ x :: s.drop (posN x s)
def insAll (d : List O) : List O := d.foldl (fun s x => if x.t < x.f then s else insN x s) []
def normL (s : List O) : List O := s.foldl mergeN []
def normS (s : List O) : List O := s.foldl (fun out x => if x.t < x.f then out else mergeN out x) []
theorem posN_le (x : O) (s : List O) : posN x s ≤ s.length := by unfold posN; exact (List.takeWhile_sublist _).length_le
end Go.Proofs.Ytncbofjgcapcjaa
