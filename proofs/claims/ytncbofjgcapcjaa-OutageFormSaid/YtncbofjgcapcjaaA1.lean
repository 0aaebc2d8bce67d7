/- What the laws call first: own, set, three, awake. -/
import Derived.Test.YtncbofjgcapcjaaL2
namespace Go.Proofs.Ytncbofjgcapcjaa
open Go.RowKit Go.Shelf Go.Lib Go.Sort

theorem Normal_any (A : Option Addr) (cap : Nat) (d : List O) (w : World) (hR : RdO w A d) (hlen : d.length ≤ 100000000) (hr : ∀ x ∈ d, rng x) :
    Calls Try.prog 10 #[.slice A d.length cap] w fun e w' => ∃ v, e = .returned v ∧ OwnO w' w.heap.size v (NF d) ∧ Below w.heap.size w w' := by
  refine (outNormal_any swo A cap d w hR hlen).mono ?_
  rintro e w' ⟨v, s, rfl, h1, h2, h3, h4⟩
  exact ⟨v, rfl, by rw [← normS_NF h1 h2 hr]; exact h3, h4⟩

theorem own_any (A : Option Addr) (cap : Nat) (d : List O) (w : World) (hR : RdO w A d) (hc : A = none → cap = 0) (hlen : d.length ≤ 1000000000) :
    Calls Try.prog 9 #[.slice A d.length cap] w fun e w' => ∃ v, e = .returned v ∧ OwnO w' w.heap.size v d ∧ Below w.heap.size w w' := by
  have HR := Lib.hid hR
  have HC := Lib.hid hc
  clear hR hc
  go_enter Try.func9, Try.ntmps9
  go_wp2_with (refine list_appendO rfl (.const (.slice none 0 0)) (.tmp 3) rfl w.heap.size _ A d.length cap [] d (by rfl) (by rfl) (OwnO.nil _ _) HR.out rfl HC.out (by simp; omega) (Nat.le_refl _) ?_; intro v w1 o1 g1; have O1 := Lib.hid o1; have G1 := Lib.hid g1; clear o1 g1)
  go_ret
  exact ⟨v, rfl, O1.out, ⟨G1.out.os, G1.out.tape, G1.out.output, G1.out.size, fun k hk => G1.out.block k hk (by simp [Value.ownBlock])⟩⟩

/-- The line set of number k. -/
def setK (k : Nat) (hr : Int) (d : List O) : List Int := if k = 0 then setF 1 hr d else if k = 1 then nowF hr d else setF 3 hr d
theorem set17_any (k : Nat) (hk : k < 3) (A : Option Addr) (cap : Nat) (d : List O) (hr : Int) (w : World) (hR : RdO w A d) (hlen : d.length ≤ 100000000000) :
    Calls Try.prog 17 #[.int .i64 k, .slice A d.length cap, .int .i64 hr] w fun e w' => ∃ v, e = .returned v ∧ OwnI w' w.heap.size v (setK k hr d) ∧ Below w.heap.size w w' := by
  have h : k = 0 ∨ k = 1 ∨ k = 2 := by omega
  rcases h with rfl | rfl | rfl
  · have H := Lib.hid (ahead_any A cap d hr w hR (by omega))
    clear hR
    go_enter Try.func17, Try.ntmps17
    go_wp2_with fail
    refine H.out.mono ?_
    rintro e w' ⟨v, rfl, ho, hb⟩
    have HO := Lib.hid ho
    clear ho
    go_wp2_with fail
    go_ret
    exact ⟨v, rfl, HO.out, hb⟩
  · have H := Lib.hid (now_any A cap d hr w hR (by omega))
    clear hR
    go_enter Try.func17, Try.ntmps17
    go_wp2_with fail
    refine H.out.mono ?_
    rintro e w' ⟨v, rfl, ho, hb⟩
    have HO := Lib.hid ho
    clear ho
    go_wp2_with fail
    go_ret
    exact ⟨v, rfl, HO.out, hb⟩
  · have H := Lib.hid (trips_any A cap d hr w hR (by omega))
    clear hR
    go_enter Try.func17, Try.ntmps17
    go_wp2_with fail
    refine H.out.mono ?_
    rintro e w' ⟨v, rfl, ho, hb⟩
    have HO := Lib.hid ho
    clear ho
    go_wp2_with fail
    go_ret
    exact ⟨v, rfl, HO.out, hb⟩

def T3 : List O := [⟨1, 2, 0, 5⟩, ⟨2, 1, 1, 1⟩, ⟨3, 0, 3, 3⟩]
theorem three_any (w : World) : Calls Try.prog 21 #[] w fun e w' => ∃ g, e = .returned (.slice (some ⟨g, 0, none⟩) 3 3) ∧ RdO w' (some ⟨g, 0, none⟩) T3 ∧ Below w.heap.size w w' := by
  go_enter Try.func21, Try.ntmps21
  go_wp2
  go_ret
  refine ⟨_, rfl, fun _ => ⟨_, 0, rfl, fun i hi => ?_⟩, (Below.refl _ _).alloc (Nat.le_refl _) _⟩
  have h : i = 0 ∨ i = 1 ∨ i = 2 := by simp [T3] at hi; omega
  rcases h with rfl | rfl | rfl <;> simp [cellO, T3, go_sem]
end Go.Proofs.Ytncbofjgcapcjaa
