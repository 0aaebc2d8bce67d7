/- OutageNormal, walked. -/
import Derived.Test.YtncbofjgcapcjaaA3
namespace Go.Proofs.Ytncbofjgcapcjaa
open Go.RowKit Go.Shelf Go.Lib Go.Sort

theorem same_own (v1 v2 : Value) (b1 b2 : Nat) (d e : List O) (w : World) (o1 : OwnO w b1 v1 d) (o2 : OwnO w b2 v2 e) (hde : d = e) (hm : d.length ≤ 1000000000000) :
    Calls Try.prog 11 #[v1, v2] w fun r w' => r = .returned (.bool true) ∧ Below w.heap.size w w' := by
  subst hde
  obtain ⟨A, cap, rfl, _⟩ := o1.slice
  obtain ⟨B, cb, rfl, _⟩ := o2.slice
  exact Same_any A B cap cb d d.length w o1.rd o2.rd rfl (by omega)
theorem same_rd (v1 : Value) (b1 : Nat) (A : Option Addr) (n c : Nat) (d : List O) (w : World) (o1 : OwnO w b1 v1 d) (hR : RdO w A d) (hn : d.length = n) (hm : n ≤ 1000000000000) :
    Calls Try.prog 11 #[v1, .slice A n c] w fun r w' => r = .returned (.bool true) ∧ Below w.heap.size w w' := by
  subst hn
  obtain ⟨B, cb, rfl, _⟩ := o1.slice
  exact Same_any B A cb c d d.length w o1.rd hR rfl (by omega)
theorem Normal_own (v : Value) (b : Nat) (d : List O) (w : World) (o : OwnO w b v d) (hlen : d.length ≤ 100000000) (hr : ∀ x ∈ d, rng x) :
    Calls Try.prog 10 #[v] w fun e w' => ∃ v', e = .returned v' ∧ OwnO w' w.heap.size v' (NF d) ∧ Below w.heap.size w w' := by
  obtain ⟨A, cap, rfl, _⟩ := o.slice
  exact Normal_any A cap d w o.rd hlen hr

/-- A row of the call's own that may be written: its cells are there, none is frozen. -/
def Wr (w : World) (g n : Nat) : Prop := ∃ cur, w.heap[g]? = some (.cells cur 27 (0, 0)) ∧ n * 4 ≤ cur.size
theorem Wr.cell {w : World} {g n : Nat} (h : Wr w g n) (j : Nat) (hj : j < n * 4) : (∃ u, w.cell? ⟨g, j, none⟩ = some u) ∧ w.frozen? ⟨g, j, none⟩ = false := by
  obtain ⟨cur, hg, hs⟩ := h
  refine ⟨⟨cur[j]'(by omega), ?_⟩, by simp [World.frozen?, hg]⟩
  have hj' : j < cur.size := by omega
  have e : cur[j]? = some (cur[j]'hj') := Array.getElem?_eq_getElem hj'
  simp only [World.cell?, hg, e]
  simp
theorem Wr.set {w : World} {g n : Nat} (h : Wr w g n) (j : Nat) (u : Value) : Wr (w.setCell ⟨g, j, none⟩ u) g n := by
  obtain ⟨cur, hg, hs⟩ := h
  exact ⟨cur.setIfInBounds j u, by simp [World.setCell, Array.getElem?_modify, hg], by simpa using hs⟩
theorem OwnO.wr {w : World} {base g n cap : Nat} {d : List O} (h : OwnO w base (.slice (some ⟨g, 0, none⟩) n cap) d) : Wr w g d.length ∧ base ≤ g := by
  rcases h.shape with ⟨e, _⟩ | ⟨g', cap', cur, e, hb, hg, h1, h2, h3, h4, _⟩
  · cases e
  · cases e
    exact ⟨⟨cur, hg, by omega⟩, hb⟩

set_option maxHeartbeats 8000000 in
set_option maxRecDepth 100000 in
theorem law3_any (A : Option Addr) (cap : Nat) (d : List O) (w : World) (hR : RdO w A d) (hn : A = none → cap = 0) (hr : ∀ x ∈ d, rng x) :
    Calls Try.prog 3 #[.slice A d.length cap] w fun r w' => r = .returned (.bool true) ∧ Below w.heap.size w w' := by
  have HR := Lib.hid hR
  have HN := Lib.hid hn
  have HG := Lib.hid hr
  clear hR hn hr
  by_cases hl : 100 < d.length
  · have l1 : decide ((100 : Int) < (d.length : Int)) = true := by simp; omega
    have l2 : decide (100 < d.length) = true := by simp; omega
    go_enter Try.func3, Try.ntmps3
    go_wp2_with fail
    refine (awake_any _).mono ?_
    rintro r w1 ⟨rfl, b1⟩
    go_wp2_with fail
    go_ret
    exact ⟨rfl, b1⟩
  · have l1 : decide ((100 : Int) < (d.length : Int)) = false := by simp; omega
    have l2 : decide (100 < d.length) = false := by simp; omega
    have H1 := Lib.hid (own_any A cap d w HR.out HN.out (by omega))
    go_enter Try.func3, Try.ntmps3
    go_wp2_with fail
    refine H1.out.mono ?_
    rintro r w1 ⟨v1, rfl, o1, b1⟩
    have O1 := Lib.hid o1
    have B1 := Lib.hid b1
    clear o1 b1 H1
    go_wp2_with fail
    go_loopw [4] (fun i wr => ∃ k : Nat, k ≤ 2 ∧ i = .int .i64 k ∧ Below w1.heap.size w1 wr) (fun i _ => 2 - (intOf i).toNat)
    case atStart => exact ⟨0, by omega, rfl, Below.refl _ _⟩
    case round =>
      obtain ⟨k, hk, rfl, hB⟩ := hrel
      have hsz := hB.size
      by_cases hlt : k < 2
      · have kn : (k : Int) < 2 := by omega
        have OI := O1.out.keepB hB
        have H2 := Lib.hid (Normal_own v1 _ d wr OI (by omega) HG.out)
        have HB := Lib.hid hB
        clear hB OI
        go_wp2_with fail
        refine H2.out.mono ?_
        rintro r w2 ⟨v2, rfl, o2, b2⟩
        have hnl := NF_len d
        have b2' := HB.out.trans (b2.mono hsz)
        have B2 := Lib.hid b2'
        have O2 := Lib.hid o2
        have hs2 := b2.size
        have H3 := Lib.hid (refNormal_any A cap d w2 (HR.out.keep (B1.out.trans (b2'.mono B1.out.size))) (by omega))
        clear b2' o2 b2 H2 HB
        go_wp2_with fail
        refine H3.out.mono ?_
        rintro r w3 ⟨v3, rfl, o3, b3⟩
        have b3' := B2.out.trans (b3.mono (by omega))
        have B3 := Lib.hid b3'
        have O23 := O2.out.keepB b3
        have hs3 := b3.size
        have H4 := Lib.hid (same_own v2 v3 _ _ _ _ w3 O23 o3 rfl (by omega))
        have O2' := Lib.hid O23
        clear b3' o3 b3 H3 B2 O2 O23
        go_wp2_with fail
        refine H4.out.mono ?_
        rintro r w4 ⟨rfl, b4⟩
        have b4' := B3.out.trans (b4.mono (by omega))
        have B4 := Lib.hid b4'
        have O4 := Lib.hid (O2'.out.keepB b4)
        have hs4 := b4.size
        have H5 := Lib.hid (same_rd v1 _ A d.length cap d w4 (O1.out.keepB b4') (HR.out.keep (B1.out.trans (b4'.mono B1.out.size))) rfl (by omega))
        clear b4' b4 H4 B3 O2'
        go_wp2_with fail
        refine H5.out.mono ?_
        rintro r w5 ⟨rfl, b5⟩
        have b5' := B4.out.trans (b5.mono (by omega))
        have O5 := O4.out.keepB b5
        have hs5 := b5.size
        have B5 := Lib.hid b5'
        clear b5' b5 H5 B4 O4
        generalize NF d = N at O5 hnl
        obtain ⟨A6, c6, rfl, hc6, hn6, hm6⟩ := O5.slice
        cases A6 with
        | none =>
          have h0 : N = [] := by rcases O5.shape with ⟨_, e⟩ | ⟨_, _, _, e, _⟩ <;> first | exact e | cases e
          subst h0
          clear O5
          go_wp2_with fail
          go_loopw [6] (fun i w7 => i = .int .i64 0 ∧ w7 = w5) (fun i _ => 0)
          case atStart => exact ⟨rfl, by first | trivial | rfl⟩
          case round =>
            obtain ⟨rfl, rfl⟩ := hrel
            go_wp2_with fail
            go_roundw
            case rel => exact ⟨k + 1, by omega, by go_num, B5.out⟩
            case measure => simp [intOf]; omega
        | some a =>
          obtain ⟨g, rfl⟩ : ∃ g, a = ⟨g, 0, none⟩ := by
            rcases O5.shape with ⟨e, _⟩ | ⟨g, _, _, e, _⟩
            · cases e
            · exact ⟨g, by injection e with e1; injection e1⟩
          obtain ⟨hw5, hbg⟩ := O5.wr
          have W5 := Lib.hid hw5
          clear O5 hw5
          have hg1 : w1.heap.size ≤ g := by omega
          generalize N.length = n at *
          go_wp2_with fail
          go_loopw [6] (fun i w7 => ∃ q : Nat, q ≤ n ∧ i = .int .i64 q ∧ Hid (Wr w7 g n) ∧ Hid (Below w1.heap.size w1 w7)) (fun i _ => n - (intOf i).toNat)
          case atStart => exact ⟨0, Nat.zero_le _, rfl, W5, B5⟩
          case round =>
            obtain ⟨q, hq, rfl, HW, HB7⟩ := hrel
            by_cases hlt2 : q < n
            · have q0 : (0 : Int) ≤ (q : Int) := by omega
              have qn : (q : Int) < (n : Int) := by omega
              obtain ⟨⟨u0, e0⟩, f0⟩ := HW.out.cell (q * 4) (by omega)
              obtain ⟨⟨u1, e1⟩, f1⟩ := HW.out.cell (q * 4 + 1) (by omega)
              obtain ⟨⟨u2, e2⟩, f2⟩ := HW.out.cell (q * 4 + 2) (by omega)
              obtain ⟨⟨u3, e3⟩, f3⟩ := HW.out.cell (q * 4 + 3) (by omega)
              go_wp2_with fail
              go_roundw
              case rel =>
                first
                  | exact ⟨q + 1, by omega, by go_num, (((HW.out.set _ _).set _ _).set _ _).set _ _, (((HB7.out.setCell (by exact hg1) _).setCell (by exact hg1) _).setCell (by exact hg1) _).setCell (by exact hg1) _⟩
                  | ((repeat apply Exists.intro); refine ⟨⟨q + 1, by omega, ?_, (((HW.out.set _ _).set _ _).set _ _).set _ _, (((HB7.out.setCell (by exact hg1) _).setCell (by exact hg1) _).setCell (by exact hg1) _).setCell (by exact hg1) _⟩, rfl⟩; go_num)
              case measure => simp [intOf]; omega
            · obtain rfl : q = n := by omega
              have kd : decide ((q : Int) < (q : Int)) = false := by simp
              go_wp2_with fail
              go_roundw
              case rel => exact ⟨k + 1, by omega, by go_num, HB7.out⟩
              case measure => simp [intOf]; omega
      · obtain rfl : k = 2 := by omega
        go_wp2_with fail
        refine (awake_any _).mono ?_
        rintro r w6 ⟨rfl, b6⟩
        go_wp2_with fail
        go_ret
        exact ⟨rfl, (B1.out.trans (hB.mono B1.out.size)).trans (b6.mono (by have := B1.out.size; omega))⟩
end Go.Proofs.Ytncbofjgcapcjaa
