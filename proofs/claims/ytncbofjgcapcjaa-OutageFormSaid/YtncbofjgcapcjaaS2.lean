/- The rotation of two neighbouring runs of outages in a slice (part of the stable sort). -/
import Derived.Test.YtncbofjgcapcjaaS1
import Derived.Lib.Hide
namespace Go.Proofs.Ytncbofjgcapcjaa
open Go.RowKit Go.Shelf Go.Lib Go.Sort

def rotAt (D : Nat → O) (a m b t : Nat) : O := if a ≤ t ∧ t < a + (b - m) then D (t + (m - a)) else if a + (b - m) ≤ t ∧ t < b then D (t - (b - m)) else D t
def swAt (D : Nat → O) (a b n t : Nat) : O := if a ≤ t ∧ t < a + n then D (t + (b - a)) else if b ≤ t ∧ t < b + n then D (t - (b - a)) else D t

theorem rot_gt (D E : Nat → O) (m i j : Nat) (hj : 0 < j) (hij : j < i) (him : i ≤ m) (h : ∀ t, E t = swAt D (m - i) m j t) (t : Nat) : rotAt E (m - (i - j)) m (m + j) t = rotAt D (m - i) m (m + j) t := by
  simp only [rotAt, h, swAt]
  (repeat' split) <;> first | omega | (congr 1; done) | (congr 1; omega)
theorem rot_lt (D E : Nat → O) (m i j : Nat) (hi : 0 < i) (hij : i < j) (him : i ≤ m) (h : ∀ t, E t = swAt D (m - i) (m + j - i) i t) (t : Nat) : rotAt E (m - i) m (m + (j - i)) t = rotAt D (m - i) m (m + j) t := by
  simp only [rotAt, h, swAt]
  (repeat' split) <;> first | omega | (congr 1; done) | (congr 1; omega)
theorem rot_eq (D E : Nat → O) (m i : Nat) (hi : 0 < i) (him : i ≤ m) (h : ∀ t, E t = swAt D (m - i) m i t) (t : Nat) : E t = rotAt D (m - i) m (m + i) t := by
  simp only [rotAt, h, swAt]
  (repeat' split) <;> first | omega | (congr 1; done) | (congr 1; omega)

set_option maxHeartbeats 1000000 in
set_option maxRecDepth 100000 in
theorem rotate_any (blk off cap a m b : Nat) (g : Value) (d0 d : Array O) (w0 w : World) (R : RowK encO 4 w0 blk off d0) (hs : d0.size = d.size) (S : SWK encO 4 w0 blk off d w)
    (ham : a < m) (hmb : m < b) (hb : b ≤ d.size) (hsz : d.size < 4611686018427387904) :
    Calls Try.prog 59 #[.slice (some ⟨blk, off, none⟩) d.size cap, .int .i64 a, .int .i64 m, .int .i64 b, g] w fun e w' => e = .returned (.tuple #[]) ∧
      ∃ d', d'.size = d.size ∧ (∀ t, d'[t]! = rotAt (fun t => d[t]!) a m b t) ∧ PermIn a b d d' ∧ SWK encO 4 w0 blk off d' w' := by
  have S0 : Aside (SWK encO 4 w0 blk off d w) := S
  clear S
  go_enter Try.func59, Try.ntmps59
  go_wp2
  go_loopw [10, 11] (fun i j wr => ∃ (x y : Nat) (dk : Array O), i = .int .i64 x ∧ j = .int .i64 y ∧ 0 < x ∧ 0 < y ∧ a + x ≤ m ∧ m + y ≤ b ∧ Hid (dk.size = d.size) ∧ Aside (SWK encO 4 w0 blk off dk wr) ∧
    Hid (∀ t, rotAt (fun t => dk[t]!) (m - x) m (m + y) t = rotAt (fun t => d[t]!) a m b t) ∧ Hid (PermIn a b d dk)) (fun i j _ => (intOf i).toNat + (intOf j).toNat)
  case atStart => exact ⟨m - a, b - m, d, by congr 1; omega, by congr 1; omega, by omega, by omega, by omega, by omega, rfl, S0, fun t => by rw [show m - (m - a) = a by omega, show m + (b - m) = b by omega], permIn_refl _ _ _⟩
  case round =>
    clear S0
    obtain ⟨x, y, dk, rfl, rfl, hx0, hy0, hxm, hyb, hds, S1, HT, HP⟩ := hrel
    by_cases hxy : x = y
    · subst hxy
      have h1 : ((x : Int) == (x : Int)) = true := by simp
      have h2 : ((x : Int) != (x : Int)) = false := by simp
      have hc := swapRange_any blk off cap (m - x) m x g d0 dk w0 wr R (by have := hds.out; omega) S1.out (by omega) (by have := hds.out; omega) (by have := hds.out; omega)
      rw [hds.out] at hc
      rw [show (((m - x : Nat)) : Int) = (m : Int) - (x : Int) by omega] at hc
      have HC := Lib.hid hc
      clear hc
      go_wp2_with fail
      refine HC.out.mono ?_
      rintro e w' ⟨rfl, d', hd', ht', hp', hw'⟩
      go_wp2_with fail
      go_end0
      refine ⟨rfl, d', hd', fun t => ?_, ?_, hw'⟩
      · rw [← HT.out t]
        exact rot_eq (fun t => dk[t]!) (fun t => d'[t]!) m x hx0 (by omega) ht' t
      · exact permIn_trans _ _ _ _ _ HP.out (permIn_mono _ _ _ _ _ _ (by omega) (by omega) (by have := hds.out; omega) hp')
    · have h1 : ((x : Int) == (y : Int)) = false := by simp; omega
      have h2 : ((x : Int) != (y : Int)) = true := by simp; omega
      by_cases hgt : y < x
      · have hc := swapRange_any blk off cap (m - x) m y g d0 dk w0 wr R (by have := hds.out; omega) S1.out (by omega) (by have := hds.out; omega) (by have := hds.out; omega)
        rw [hds.out] at hc
        rw [show (((m - x : Nat)) : Int) = (m : Int) - (x : Int) by omega] at hc
        have HC := Lib.hid hc
        clear hc hxy
        go_wp2_with fail
        refine HC.out.mono ?_
        rintro e w' ⟨rfl, d', hd', ht', hp', hw'⟩
        have H' := Lib.hid hd'
        have H'' := Lib.hid ht'
        clear hd' ht'
        go_wp2_with fail
        go_roundw
        case measure => simp [intOf]; omega
        case rel => exact ⟨x - y, y, d', by congr 1; omega, rfl, by omega, hy0, by omega, hyb, H'.out, hw', fun t => by rw [← HT.out t]; exact rot_gt (fun t => dk[t]!) (fun t => d'[t]!) m x y hy0 hgt (by omega) H''.out t, permIn_trans _ _ _ _ _ HP.out (permIn_mono _ _ _ _ _ _ (by omega) (by omega) (by have := hds.out; omega) hp')⟩
      · have hc := swapRange_any blk off cap (m - x) (m + y - x) x g d0 dk w0 wr R (by have := hds.out; omega) S1.out (by omega) (by have := hds.out; omega) (by have := hds.out; omega)
        rw [hds.out] at hc
        rw [show (((m - x : Nat)) : Int) = (m : Int) - (x : Int) by omega, show (((m + y - x : Nat)) : Int) = (m : Int) + (y : Int) - (x : Int) by omega] at hc
        have HC := Lib.hid hc
        clear hc
        go_wp2_with fail
        refine HC.out.mono ?_
        rintro e w' ⟨rfl, d', hd', ht', hp', hw'⟩
        have H' := Lib.hid hd'
        have H'' := Lib.hid ht'
        clear hd' ht'
        go_wp2_with fail
        go_roundw
        case measure => simp [intOf]; omega
        case rel => exact ⟨x, y - x, d', rfl, by congr 1; omega, hx0, by omega, hxm, by omega, H'.out, hw', fun t => by rw [← HT.out t]; exact rot_lt (fun t => dk[t]!) (fun t => d'[t]!) m x y hx0 (by omega) (by omega) (fun t => by rw [H''.out t]; simp only [swAt]) t, permIn_trans _ _ _ _ _ HP.out (permIn_mono _ _ _ _ _ _ (by omega) (by omega) (by have := hds.out; omega) hp')⟩
end Go.Proofs.Ytncbofjgcapcjaa
