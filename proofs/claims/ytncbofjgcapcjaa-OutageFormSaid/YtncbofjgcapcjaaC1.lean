/- The iterator over the outages of a kind that cover an hour. -/
import Derived.Test.YtncbofjgcapcjaaF1
import Derived.RangeFuncNested
import Derived.RangeFuncBound
import Derived.RangeFuncCalls
import Derived.RangeFuncLeaves
import Derived.RangeFuncBox
import Derived.Shelf.Abstract
import Derived.Shelf.RegionOpen
import Derived.OwnWalkIn
import Derived.TacticsInMore
import Derived.LoopNIn
import Derived.LoopIn
import Derived.Maps.AppendAt
import Derived.Lib.Hide
namespace Go.Proofs.Ytncbofjgcapcjaa
open Go.RowKit Go.Shelf
attribute [local go_sem] Oper.semAt_some

def hit (kd hr : Int) (x : O) : Bool := decide (x.k = kd) && (decide (x.f ≤ hr) && decide (hr ≤ x.t))
def coll (kd hr : Int) (d : List O) : List Int := (d.filter (hit kd hr)).map O.wh
theorem coll_len (kd hr : Int) (d : List O) : (coll kd hr d).length ≤ d.length := by simp [coll, List.length_filter_le]
theorem coll_snoc (kd hr : Int) (d : List O) (k : Nat) (h : k < d.length) : coll kd hr (d.take (k + 1)) = coll kd hr (d.take k) ++ if hit kd hr (d.getD k default) then [(d.getD k default).wh] else [] := by
  rw [List.take_succ_eq_append_getElem h]
  have e : d.getD k default = d[k] := by simp [h]
  rw [e]
  simp only [coll, List.filter_append, List.map_append]
  congr 1
  by_cases hh : hit kd hr d[k] = true <;> simp [List.filter_cons, hh]

/-- What a round keeps: what lay below n₀, and the blocks between n₀ and n₁. -/
def KpS (n₀ n₁ : Nat) (W W' : World) : Prop := Below n₀ W W' ∧ ∀ k, n₀ < k → k < n₁ → W'.heap[k]? = W.heap[k]?
theorem KpS.t {n₀ n₁ : Nat} {A B C : World} (h : KpS n₀ n₁ A B) (k : KpS n₀ n₁ B C) : KpS n₀ n₁ A C := ⟨h.1.trans k.1, fun i h1 h2 => (k.2 i h1 h2).trans (h.2 i h1 h2)⟩
theorem KpS.refl (n₀ n₁ : Nat) (A : World) : KpS n₀ n₁ A A := ⟨Below.refl _ _, fun _ _ _ => rfl⟩
theorem KpS.of {n₀ n₁ : Nat} {W W' : World} (h : Below W.heap.size W W') (h0 : n₀ ≤ W.heap.size) (h1 : n₁ ≤ W.heap.size) : KpS n₀ n₁ W W' := ⟨h.mono h0, fun k _ hk => h.block k (by omega)⟩
theorem KpS.cell {n₀ n₁ : Nat} {W W' : World} (h : KpS n₀ n₁ W W') {b : Nat} {v : Value} (h0 : n₀ < b) (h1 : b < n₁) (hc : W.cell? ⟨b, 0, none⟩ = some v) : W'.cell? ⟨b, 0, none⟩ = some v :=
  (World.cell?_of_block (w := W) (a := ⟨b, 0, none⟩) (h.2 b h0 h1)).trans hc

set_option maxRecDepth 100000 in
set_option maxHeartbeats 2000000 in
theorem cov_stops (n : Nat) (hn : 2 ≤ n) (A : Option Addr) (cap : Nat) (d : List O) (kd hr : Int) (w0 wS : World) (n₀ : Nat) (hn0 : n₀ = w0.heap.size) (hlen : d.length ≤ 4611686018427387904) (hR : RdO w0 A d) (hB : Below n₀ w0 wS) (h3 : n₀ + 3 < wS.heap.size)
    (b1 : wS.cell? ⟨n₀ + 1, 0, none⟩ = some (.slice A d.length cap)) (b2 : wS.cell? ⟨n₀ + 2, 0, none⟩ = some (.int .u8 kd)) (b3 : wS.cell? ⟨n₀ + 3, 0, none⟩ = some (.int .i64 hr)) :
    SeqStopsK Fence.wide n Try.prog 46 #[.pointer (some ⟨n₀ + 1, 0, none⟩), .pointer (some ⟨n₀ + 2, 0, none⟩), .pointer (some ⟨n₀ + 3, 0, none⟩)] (fun x : Int => #[Value.int .i64 x]) (KpS n₀ wS.heap.size)
      (fun ys => ys = coll kd hr d) (fun _ => True) d.length wS := fun l J Jx W hW hJ hJx hY h0 => by
  have K0 : KpS n₀ wS.heap.size wS W := ⟨hW.mono (by omega), fun k _ hk => hW.block k hk⟩
  have e1 := K0.cell (by omega) (by omega) b1
  have e2 := K0.cell (by omega) (by omega) b2
  have e3 := K0.cell (by omega) (by omega) b3
  have HB : Hid (Below n₀ w0 W) := hB.trans K0.1
  have HR := Lib.hid hR
  have HJ := Lib.hid hJ
  have HY := Lib.hid hY
  have HN := Lib.hid hn0
  have hWs : wS.heap.size ≤ W.heap.size := hW.size
  clear hR hJ hJx hY hB b1 b2 b3 hW hn0 K0
  refine callsIn_of_wp Try.func46 rfl trivial ?_ rfl
  simp only [Try.ntmps46, List.size_toArray, List.length_cons, List.length_nil, Nat.reduceAdd, Nat.reduceSub, Array.replicate_succ, Array.replicate_zero, List.push_toArray, List.append_toArray, List.nil_append, List.cons_append]
  gi_wp2
  gi_loopw [9] (fun i wr => ∃ k : Nat, k ≤ d.length ∧ i = .int .i64 k ∧ J (coll kd hr (d.take k)) wr ∧ Hid (KpS n₀ wS.heap.size W wr) ∧ W.heap.size ≤ wr.heap.size)
    (fun i _ => d.length - (intOf i).toNat)
  case atStart => exact ⟨0, Nat.zero_le _, rfl, by simpa [coll] using h0, KpS.refl _ _ _, Nat.le_refl _⟩
  case round =>
    obtain ⟨k, hk, rfl, hJs, hK, hsz⟩ := hrel
    by_cases hlt : k < d.length
    · obtain ⟨bl, o, rfl, hi⟩ := (HR.out.keep (by rw [← HN.out]; exact HB.out.trans hK.out.1)) (by omega)
      obtain ⟨c0, c1, c2, c3⟩ := hi k hlt
      have r2 := hK.out.cell (by omega) (by omega) e2
      have r3 := hK.out.cell (by omega) (by omega) e3
      have hsn := coll_snoc kd hr d k hlt
      clear hi
      generalize d.getD k default = x at c0 c1 c2 c3 hsn
      obtain ⟨B, hB⟩ : ∃ B, B = (decide (x.f ≤ hr) && decide (hr ≤ x.t)) := ⟨_, rfl⟩
      have HBB := Lib.hid hB
      have q2 : ∀ ob, (wr.alloc ob).cell? ⟨n₀ + 2, 0, none⟩ = some (.int .u8 kd) := fun ob => cell_keep ((Below.refl _ _).alloc (Nat.le_refl _) _) r2
      have q3 : ∀ ob, (wr.alloc ob).cell? ⟨n₀ + 3, 0, none⟩ = some (.int .i64 hr) := fun ob => cell_keep ((Below.refl _ _).alloc (Nat.le_refl _) _) r3
      have hA : ∀ ob w', Below (wr.alloc ob).heap.size (wr.alloc ob) w' → J (coll kd hr (d.take k)) w' ∧ KpS n₀ wS.heap.size W w' ∧ W.heap.size ≤ w'.heap.size := fun ob w' hb => by
        have h1 : Below wr.heap.size wr w' := ((Below.refl _ wr).alloc (Nat.le_refl _) ob).trans (hb.mono (by simp))
        exact ⟨HJ.out _ _ _ none hJs ⟨h1.os, h1.tape, h1.output, h1.size, fun i hi _ => h1.block i hi⟩ (fun r e => by cases e), hK.out.t (KpS.of h1 (by omega) (by omega)), Nat.le_trans hsz h1.size⟩
      have HA := Lib.hid hA
      clear hA
      by_cases hk2 : x.k = kd
      · have hk3 : (x.k == kd) = true := by simp [hk2]
        cases B
        · have HH : Hid (coll kd hr (d.take (k + 1)) = coll kd hr (d.take k)) := by
            show _ = _; rw [hsn, if_neg (by rw [hit, ← HBB.out]; simp), List.append_nil]
          clear hk2 hsn hB
          gi_wp2
          refine ⟨trivial, fun h => (by cases h), ?_⟩
          refine CallsIn.mono (callsIn_wide.2 (covers_any x hr _)) ?_
          rw [← HBB.out]
          rintro e w' ⟨rfl, hw⟩
          have HW := Lib.hid hw
          clear hw
          gi_wp2
          refine ⟨fun _ h => (by cases h), ?_⟩
          gi_wp2
          obtain ⟨g1, g2, g3⟩ := HA.out _ _ HW.out
          go_roundw
          case rel => exact ⟨k + 1, by omega, by simp, by rw [HH.out]; exact g1, g2, g3⟩
          case measure => simp [intOf]; omega
        · have HH : Hid (coll kd hr (d.take (k + 1)) = coll kd hr (d.take k) ++ [x.wh]) := by
            show _ = _; rw [hsn, if_pos (by rw [hit, ← HBB.out]; simp [hk2])]
          have hlc : (coll kd hr (d.take k)).length < d.length := Nat.lt_of_le_of_lt (coll_len _ _ _) (by simp; omega)
          clear hk2 hsn hB
          gi_wp2
          refine ⟨trivial, fun h => (by cases h), ?_⟩
          refine CallsIn.mono (callsIn_wide.2 (covers_any x hr _)) ?_
          rw [← HBB.out]
          rintro e w' ⟨rfl, hw⟩
          obtain ⟨g1, g2, g3⟩ := HA.out _ _ hw
          have m1 : w'.cell? ⟨wr.heap.size, 1, none⟩ = some (.int .i64 x.wh) := cell_keep hw (by simp [go_sem])
          obtain ⟨fn, tmps, assign, body, hy, hR⟩ := HY.out _ x.wh w' g1 hlc
          have G2 := Lib.hid g2
          clear hw g2
          gi_wp2
          refine ⟨fun h => (by cases h), ?_⟩
          refine hR.mono ?_
          rintro e W3 (⟨rfl, hJ3, hk3⟩ | ⟨rfl, hJx3⟩)
          · gi_wp2
            go_roundw
            case rel => exact ⟨k + 1, by omega, by simp, by rw [HH.out]; exact hJ3, G2.out.t hk3, Nat.le_trans g3 hk3.1.size⟩
            case measure => simp [intOf]; omega
          · gi_wp2
            refine bodyPost_ret (results_none rfl _ _ _) rfl ?_
            exact ⟨⟨_, rfl⟩, .inr ⟨_, trivial, hJx3⟩⟩
      · have hk3 : (x.k == kd) = false := by simp [hk2]
        have HH : Hid (coll kd hr (d.take (k + 1)) = coll kd hr (d.take k)) := by
          show _ = _; rw [hsn, if_neg (by rw [hit]; simp [hk2]), List.append_nil]
        clear hk2 hsn hB
        gi_wp2
        refine ⟨trivial, ?_⟩
        gi_wp2
        refine ⟨fun _ h => (by cases h), ?_⟩
        gi_wp2
        obtain ⟨g1, g2, g3⟩ := HA.out (.cells #[.int .u8 x.k, .int .i64 x.wh, .int .i64 x.f, .int .i64 x.t] 27) _ (Below.refl _ _)
        go_roundw
        case rel => exact ⟨k + 1, by omega, by simp, by rw [HH.out]; exact g1, g2, g3⟩
        case measure => simp [intOf]; omega
    · obtain rfl : k = d.length := by omega
      gi_wp2
      go_end0
      exact ⟨⟨_, rfl⟩, .inl ⟨_, rfl, by rw [List.take_length] at hJs; exact hJs⟩⟩
end Go.Proofs.Ytncbofjgcapcjaa
