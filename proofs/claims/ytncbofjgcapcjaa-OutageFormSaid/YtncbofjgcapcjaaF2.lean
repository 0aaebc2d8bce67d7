/- Membership and order of slices of ints. -/
import Derived.Test.YtncbofjgcapcjaaF1
namespace Go.Proofs.Ytncbofjgcapcjaa
open Go.RowKit
set_option maxHeartbeats 800000 in
theorem Has_any (A : Option Addr) (ca : Nat) (d : List Int) (n : Int) (w : World) (hd : RdI w A d) (hm : d.length ≤ 4611686018427387904) :
    Calls Try.prog 31 #[.slice A d.length ca, .int .i64 n] w fun r w' => r = .returned (.bool (hasB d n)) ∧ w = w' := by
  have HD : Hid (RdI w A d) := hd
  clear hd
  go_enter Try.func31, Try.ntmps31
  go_wp2
  go_loop [5] (fun i => ∃ k : Nat, k ≤ d.length ∧ i = .int .i64 k ∧ Hid (hasB (d.drop k) n = hasB d n)) (fun i => d.length - (intOf i).toNat)
  case atStart => exact ⟨0, Nat.zero_le _, rfl, rfl⟩
  case round =>
    obtain ⟨k, hk, rfl, HK⟩ := hrel
    by_cases hlt : k < d.length
    · obtain ⟨ba, oa, rfl, ia⟩ := HD.out (by omega)
      have c0 := ia k hlt
      clear ia
      have HK2 : Hid (hasB (d.getD k default :: d.drop (k + 1)) n = hasB d n) := by
        show _ = _; rw [← drop_cons d k hlt]; exact HK.out
      clear HK
      replace c0 : w.cell? ⟨ba, oa + k, none⟩ = some (.int .i64 (d.getD k default)) := c0
      generalize d.getD k default = x at c0 HK2
      by_cases hxy : x = n
      · have HE : Hid (hasB d n = true) := by show _ = _; rw [← HK2.out, hxy]; simp [hasB]
        have hxy2 : (x == n) = true := by simp [hxy]
        clear hxy HK2
        go_wp2
        go_ret
        exact ⟨ret_bool HE.out.symm, rfl⟩
      · have HE : Hid (hasB (d.drop (k + 1)) n = hasB d n) := by show _ = _; rw [← HK2.out]; simp [hasB, Ne.symm hxy]
        have hxy2 : (x == n) = false := by simp [hxy]
        clear hxy HK2
        go_wp2
        go_round
        case rel => exact ⟨k + 1, by omega, by go_num, HE⟩
        case measure => simp [intOf]; omega
    · have hge : d.length ≤ k := by omega
      have HK2 : Hid (hasB d n = false) := by show _ = _; rw [← HK.out, List.drop_eq_nil_of_le hge]; rfl
      clear HK
      go_wp2
      go_ret
      exact ⟨ret_bool HK2.out.symm, rfl⟩

set_option maxHeartbeats 800000 in
theorem has_any (A : Option Addr) (ca : Nat) (d : List Int) (n : Int) (w : World) (hd : RdI w A d) (hm : d.length ≤ 4611686018427387904) :
    Calls Try.prog 15 #[.slice A d.length ca, .int .i64 n] w fun r w' => r = .returned (.bool (hasB d n)) ∧ w = w' := by
  have HD : Hid (RdI w A d) := hd
  clear hd
  go_enter Try.func15, Try.ntmps15
  go_wp2_with (go_at_call 31; refine (Has_any _ _ _ _ _ HD.out hm).mono ?_; rintro e w' ⟨rfl, rfl⟩)
  go_ret
  exact ⟨rfl, rfl⟩


set_option maxHeartbeats 800000 in
/-- 'rises' of the laws: strictly ascending. -/
theorem rises_any (A : Option Addr) (ca : Nat) (d : List Int) (w : World) (hd : RdI w A d) (hm : d.length ≤ 4611686018427387904) (hs : ∀ k, k + 1 < d.length → d.getD k 0 < d.getD (k + 1) 0) :
    Calls Try.prog 16 #[.slice A d.length ca] w fun r w' => r = .returned (.bool true) ∧ Below w.heap.size w w' := by
  have HD : Hid (RdI w A d) := hd
  have HS : Hid (∀ k, k + 1 < d.length → d.getD k 0 < d.getD (k + 1) 0) := hs
  clear hd hs
  go_enter Try.func16, Try.ntmps16
  go_wp2
  go_loopw [3] (fun i wr => ∃ k : Nat, 1 ≤ k ∧ i = .int .i64 k ∧ Below w.heap.size w wr) (fun i _ => d.length + 1 - (intOf i).toNat)
  case atStart => exact ⟨1, Nat.le_refl _, rfl, Below.refl _ _⟩
  case round =>
    obtain ⟨k, hk, rfl, hB⟩ := hrel
    by_cases hlt : k < d.length
    · obtain ⟨j, rfl⟩ : ∃ j, k = j + 1 := ⟨k - 1, by omega⟩
      obtain ⟨ba, oa, rfl, ia⟩ := HD.out.keep hB (by omega)
      have c0 := ia j (by omega)
      have c1 := ia (j + 1) hlt
      have hs := HS.out j hlt
      clear ia
      generalize d.getD j 0 = x at c0 hs
      generalize d.getD (j + 1) 0 = y at c1 hs
      have hb0 : (0 : Int) ≤ (j : Int) := by omega
      have hb1 : (j : Int) < (d.length : Int) := by omega
      have hb2 : (j : Int) + 1 < (d.length : Int) := by omega
      have hb3 : (0 : Int) ≤ (j : Int) + 1 := by omega
      have hn : ((j : Int) + 1).toNat = j + 1 := by omega
      have hw : IntKind.i64.wrap (j : Int) = (j : Int) := by rw [IntKind.wrap_i64]; omega
      have ho : oa + (j + 1) = oa + (j + 1) := rfl
      go_wp2_with fail
      go_quiet (fail)
      go_wp2
      go_roundw
      case rel => exact ⟨j + 2, by omega, by go_num, pw_below_drewN hB _⟩
      case measure => simp [intOf]; omega
    · have hge : d.length ≤ k := by omega
      go_wp2
      go_ret
      exact ⟨rfl, hB⟩

end Go.Proofs.Ytncbofjgcapcjaa
