/- Plain laws: lists turned, doubled, joined with their normal form. -/
import Derived.Test.YtncbofjgcapcjaaL3
namespace Go.Proofs.Ytncbofjgcapcjaa
open Go.RowKit Go.Shelf Go.Lib Go.Sort
theorem turn_mem (d : List O) (K : Nat) (x : O) : x ∈ d.drop K ++ d.take K ↔ x ∈ d := by
  conv => rhs; rw [← List.take_append_drop K d]
  rw [List.mem_append, List.mem_append, or_comm]
theorem NF_self {d : List O} (hr : ∀ x ∈ d, rng x) : NF (NF d) = NF d := NF_cov (NF_rng hr) hr (NF_spec hr).2
theorem NF_same {d e : List O} (hr : ∀ x ∈ d, rng x) (h : ∀ x, x ∈ e ↔ x ∈ d) : NF e = NF d := NF_cov (fun x hx => hr x ((h x).1 hx)) hr (cov_mem h)
theorem NF_turn {d : List O} (hr : ∀ x ∈ d, rng x) (K : Nat) : NF (d.drop K ++ d.take K) = NF d := NF_same hr (turn_mem d K)
theorem NF_twice {d : List O} (hr : ∀ x ∈ d, rng x) (K : Nat) : NF (d ++ (d.drop K ++ d.take K)) = NF d := NF_same hr fun x => by
  rw [List.mem_append, turn_mem]; simp
theorem NF_join {d : List O} (hr : ∀ x ∈ d, rng x) : NF (d ++ NF d) = NF d := NF_cov (fun x hx => (List.mem_append.1 hx).elim (hr x) (NF_rng hr x)) hr fun k w u => by
  rw [cov_append, (NF_spec hr).2]; simp
theorem rng_turn {d : List O} (hr : ∀ x ∈ d, rng x) (K : Nat) : ∀ x ∈ d.drop K ++ d.take K, rng x := fun x hx => hr x ((turn_mem d K x).1 hx)
theorem rng_app {d e : List O} (hd : ∀ x ∈ d, rng x) (he : ∀ x ∈ e, rng x) : ∀ x ∈ d ++ e, rng x := fun x hx => (List.mem_append.1 hx).elim (hd x) (he x)
end Go.Proofs.Ytncbofjgcapcjaa
