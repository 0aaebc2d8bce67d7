/- The exchange of two runs of outages in a slice (part of the stable sort). -/
import Derived.Test.YtncbofjgcapcjaaF4
import Derived.Sort.LotA
import Derived.Sort.WalkB2
import Derived.Deep.LoopGhost
namespace Go.Proofs.Ytncbofjgcapcjaa
open Go.RowKit Go.Shelf Go.Lib Go.Sort

theorem lenO (x : O) : (encO x).length = 4 := rfl

theorem holds4 {W : World} {blk off : Nat} {d : Array O} (h : HoldsK encO 4 W blk off d) (i : Nat) (hi : i < d.size) (x : O) (hx : d[i]! = x) :
    (W.cell? ⟨blk, off + i * 4, none⟩ = some (.int .u8 x.k) ∧ W.cell? ⟨blk, off + i * 4 + 1, none⟩ = some (.int .i64 x.wh) ∧ W.cell? ⟨blk, off + i * 4 + 2, none⟩ = some (.int .i64 x.f) ∧ W.cell? ⟨blk, off + i * 4 + 3, none⟩ = some (.int .i64 x.t)) ∧
    W.frozen? ⟨blk, off + i * 4, none⟩ = false ∧ W.frozen? ⟨blk, off + i * 4 + 1, none⟩ = false ∧ W.frozen? ⟨blk, off + i * 4 + 2, none⟩ = false ∧ W.frozen? ⟨blk, off + i * 4 + 3, none⟩ = false := by
  subst hx
  exact ⟨⟨(h.cell hi (show 0 < 4 by omega)).1, (h.cell hi (show 1 < 4 by omega)).1, (h.cell hi (show 2 < 4 by omega)).1, (h.cell hi (show 3 < 4 by omega)).1⟩, (h.cell hi (show 0 < 4 by omega)).2, (h.cell hi (show 1 < 4 by omega)).2, (h.cell hi (show 2 < 4 by omega)).2, (h.cell hi (show 3 < 4 by omega)).2⟩

/-- The exchange's eight stores, as the walk spells them. -/
theorem swO (W : World) (blk oa ob : Nat) (x y : O) : ((W.drew.setCells blk oa (encO y)).setCells blk ob (encO x)) =
    ((((((((W.setCell ⟨blk, oa, none⟩ (.int .u8 y.k)).setCell ⟨blk, oa + 1, none⟩ (.int .i64 y.wh)).setCell ⟨blk, oa + 2, none⟩ (.int .i64 y.f)).setCell ⟨blk, oa + 3, none⟩ (.int .i64 y.t)).setCell
      ⟨blk, ob, none⟩ (.int .u8 x.k)).setCell ⟨blk, ob + 1, none⟩ (.int .i64 x.wh)).setCell ⟨blk, ob + 2, none⟩ (.int .i64 x.f)).setCell ⟨blk, ob + 3, none⟩ (.int .i64 x.t)).drew := by simp only [encO, World.setCells, World.setCell_drew, Nat.add_assoc, Nat.reduceAdd]

set_option maxHeartbeats 1000000 in
set_option maxRecDepth 100000 in
theorem swapRange_any (blk off cap a b n : Nat) (g : Value) (d0 d : Array O) (w0 w : World) (R : RowK encO 4 w0 blk off d0) (hs : d0.size = d.size) (S : SWK encO 4 w0 blk off d w)
    (hab : a + n ≤ b) (hb : b + n ≤ d.size) (hsz : d.size < 4611686018427387904) :
    Calls Try.prog 65 #[.slice (some ⟨blk, off, none⟩) d.size cap, .int .i64 a, .int .i64 b, .int .i64 n, g] w fun e w' => e = .returned (.tuple #[]) ∧
      ∃ d', d'.size = d.size ∧ (∀ t, d'[t]! = if a ≤ t ∧ t < a + n then d[t + (b - a)]! else if b ≤ t ∧ t < b + n then d[t - (b - a)]! else d[t]!) ∧ PermIn a (b + n) d d' ∧ SWK encO 4 w0 blk off d' w' := by
  have S0 : Aside (SWK encO 4 w0 blk off d w) := S
  clear S
  go_enter Try.func65, Try.ntmps65
  go_wp2
  go_loopw [10] (fun i wr => ∃ (k : Nat) (dk : Array O), k ≤ n ∧ i = .int .i64 k ∧ Hid (dk.size = d.size) ∧ Aside (SWK encO 4 w0 blk off dk wr) ∧
    Hid (∀ t, dk[t]! = if a ≤ t ∧ t < a + k then d[t + (b - a)]! else if b ≤ t ∧ t < b + k then d[t - (b - a)]! else d[t]!) ∧ Hid (PermIn a (b + n) d dk)) (fun i _ => n - (intOf i).toNat)
  case atStart => exact ⟨0, d, Nat.zero_le _, rfl, rfl, S0, fun t => by simp; (repeat' split) <;> (try rfl) <;> omega, permIn_refl _ _ _⟩
  case round =>
    clear S0
    obtain ⟨k, dk, hk, rfl, hds, S1, HT, HP⟩ := hrel
    by_cases hlt : k < n
    · have ha1 : (0 : Int) ≤ (a : Int) + (k : Int) := by omega
      have ha2 : (a : Int) + (k : Int) < (d.size : Int) := by omega
      have hb1 : (0 : Int) ≤ (b : Int) + (k : Int) := by omega
      have hb2 : (b : Int) + (k : Int) < (d.size : Int) := by omega
      have na : ((a : Int) + (k : Int)).toNat = a + k := by omega
      have nb : ((b : Int) + (k : Int)).toNat = b + k := by omega
      have hdk : dk.size = d.size := hds.out
      obtain ⟨x, hx⟩ : ∃ x, dk[a + k]! = x := ⟨_, rfl⟩
      obtain ⟨y, hy⟩ : ∃ y, dk[b + k]! = y := ⟨_, rfl⟩
      have S2 : Aside (SWK encO 4 w0 blk off (swp dk (a + k) (b + k)) ((wr.drew.setCells blk (off + (a + k) * 4) (encO y)).setCells blk (off + (b + k) * 4) (encO x))) := by
        rw [← hx, ← hy]; exact S1.out.swapped R (a + k) (b + k) (by omega) (by omega)
      have hN := S1.out.holds R.hblk R.hH (by omega)
      obtain ⟨⟨a0, a1, a2, a3⟩, f0, f1, f2, f3⟩ := holds4 hN (a + k) (by omega) x hx
      obtain ⟨⟨b0, b1, b2, b3⟩, g0, g1, g2, g3⟩ := holds4 hN (b + k) (by omega) y hy
      have HXY : Hid (dk[a + k]! = x ∧ dk[b + k]! = y) := ⟨hx, hy⟩
      clear hdk hN S1 hx hy
      rw [swO] at S2
      go_wp2_with fail
      go_big_region
      go_wp2
      go_roundw
      case measure => simp [intOf]; omega
      case rel =>
        refine ⟨k + 1, swp dk (a + k) (b + k), by omega, by go_num, by show _ = _; rw [size_swp]; exact hds.out, S2, fun t => ?_, permIn_trans _ _ _ _ _ HP.out (swp_permIn _ _ _ _ _ (by omega) (by omega) (by omega) (by omega) (by have := hds.out; omega))⟩
        have hds := hds.out
        have HA := HT.out (a + k)
        have HB := HT.out (b + k)
        rw [if_neg (by omega), if_neg (by omega)] at HA
        rw [if_neg (by omega), if_neg (by omega)] at HB
        rw [swp_get dk (by omega) (by omega) t]
        by_cases h1 : t = b + k
        · subst h1
          rw [if_pos rfl, HA, if_neg (by omega), if_pos (by omega)]
          congr 1; omega
        · rw [if_neg h1]
          by_cases h2 : t = a + k
          · subst h2
            rw [if_pos rfl, HB, if_pos (by omega)]
            congr 1; omega
          · rw [if_neg h2, HT.out t]
            by_cases h3 : a ≤ t ∧ t < a + k
            · rw [if_pos h3, if_pos (by omega)]
            · rw [if_neg h3]
              by_cases h4 : b ≤ t ∧ t < b + k
              · rw [if_pos h4, if_neg (by omega), if_pos (by omega)]
              · rw [if_neg h4, if_neg (by omega), if_neg (by omega)]
    · have hge : n ≤ k := by omega
      obtain rfl : k = n := by omega
      go_wp2
      go_end0
      exact ⟨rfl, dk, hds.out, HT.out, HP.out, S1.out⟩
end Go.Proofs.Ytncbofjgcapcjaa
