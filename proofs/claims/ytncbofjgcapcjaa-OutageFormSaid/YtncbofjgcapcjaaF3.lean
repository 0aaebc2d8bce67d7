/- Two equal lists of outages are found the same; the order of outages; lists of lines that rise. -/
import Derived.Test.YtncbofjgcapcjaaF2
import Derived.Laws.StructEq
namespace Go.Proofs.Ytncbofjgcapcjaa
open Go.RowKit

set_option maxHeartbeats 1600000 in
theorem Same_any (A B : Option Addr) (ca cb : Nat) (d : List O) (n : Nat) (w : World) (hd : RdO w A d) (he : RdO w B d) (hn : d.length = n) (hm : n ≤ 4611686018427387904) :
    Calls Try.prog 11 #[.slice A n ca, .slice B n cb] w fun r w' => r = .returned (.bool true) ∧ Below w.heap.size w w' := by
  have HD : Hid (RdO w A d ∧ RdO w B d ∧ d.length = n) := ⟨hd, he, hn⟩
  clear hd he hn
  have hu := Try.underlying27
  go_enter Try.func11, Try.ntmps11
  go_wp2
  go_loopw [5] (fun i wr => ∃ k : Nat, k ≤ n ∧ i = .int .i64 k ∧ Below w.heap.size w wr) (fun i _ => n - (intOf i).toNat)
  case atStart => exact ⟨0, Nat.zero_le _, rfl, Below.refl _ _⟩
  case round =>
    obtain ⟨k, hk, rfl, hB⟩ := hrel
    by_cases hlt : k < n
    · obtain ⟨ba, oa, rfl, ia⟩ := (HD.out.1.keep hB) (by rw [HD.out.2.2]; omega)
      obtain ⟨bb, ob, rfl, ib⟩ := (HD.out.2.1.keep hB) (by rw [HD.out.2.2]; omega)
      obtain ⟨c0, c1, c2, c3⟩ := ia k (by rw [HD.out.2.2]; omega)
      obtain ⟨e0, e1, e2, e3⟩ := ib k (by rw [HD.out.2.2]; omega)
      clear ia ib
      generalize d.getD k default = x at c0 c1 c2 c3 e0 e1 e2 e3
      have hk0 : (0 : Int) ≤ (k : Int) := by omega
      have hkn : (k : Int) < (n : Int) := by omega
      go_wp2_with fail
      go_quiet (fail)
      go_wp2
      go_roundw
      case rel => exact ⟨k + 1, by omega, by go_num, by exact pw_below_drewN hB _⟩
      case measure => simp [intOf]; omega
    · have hge : n ≤ k := by omega
      go_wp2
      go_ret
      exact ⟨rfl, hB⟩

set_option maxHeartbeats 800000 in
theorem isNaN8 (a : Int) (w : World) : Calls Try.prog 44 #[.int .u8 a] w fun r w' => r = .returned (.bool false) ∧ w = w' := by
  have h : (a != a) = false := by simp
  go_enter Try.func44, Try.ntmps44
  go_wp2
  go_ret
  exact ⟨rfl, rfl⟩
theorem isNaN64 (a : Int) (w : World) : Calls Try.prog 45 #[.int .i64 a] w fun r w' => r = .returned (.bool false) ∧ w = w' := by
  have h : (a != a) = false := by simp
  go_enter Try.func45, Try.ntmps45
  go_wp2
  go_ret
  exact ⟨rfl, rfl⟩
def cmpI (a b : Int) : Int := if a < b then -1 else if b < a then 1 else 0
set_option maxHeartbeats 800000 in
theorem cmp8 (a b : Int) (w : World) : Calls Try.prog 35 #[.int .u8 a, .int .u8 b] w fun r w' => r = .returned (.int .i64 (cmpI a b)) ∧ w = w' := by
  go_enter Try.func35, Try.ntmps35
  by_cases h1 : a < b
  · go_wp2_with (go_at_call 44; refine (isNaN8 _ _).mono ?_; rintro e w' ⟨rfl, rfl⟩)
    go_ret
    exact ⟨ret_int (by simp [cmpI, h1]), rfl⟩
  · by_cases h2 : b < a
    · go_wp2_with (go_at_call 44; refine (isNaN8 _ _).mono ?_; rintro e w' ⟨rfl, rfl⟩)
      go_ret
      exact ⟨ret_int (by unfold cmpI; (repeat' split) <;> omega), rfl⟩
    · go_wp2_with (go_at_call 44; refine (isNaN8 _ _).mono ?_; rintro e w' ⟨rfl, rfl⟩)
      go_ret
      exact ⟨ret_int (by unfold cmpI; (repeat' split) <;> omega), rfl⟩
set_option maxHeartbeats 800000 in
theorem cmp64 (a b : Int) (w : World) : Calls Try.prog 36 #[.int .i64 a, .int .i64 b] w fun r w' => r = .returned (.int .i64 (cmpI a b)) ∧ w = w' := by
  go_enter Try.func36, Try.ntmps36
  by_cases h1 : a < b
  · go_wp2_with (go_at_call 45; refine (isNaN64 _ _).mono ?_; rintro e w' ⟨rfl, rfl⟩)
    go_ret
    exact ⟨ret_int (by simp [cmpI, h1]), rfl⟩
  · by_cases h2 : b < a
    · go_wp2_with (go_at_call 45; refine (isNaN64 _ _).mono ?_; rintro e w' ⟨rfl, rfl⟩)
      go_ret
      exact ⟨ret_int (by unfold cmpI; (repeat' split) <;> omega), rfl⟩
    · go_wp2_with (go_at_call 45; refine (isNaN64 _ _).mono ?_; rintro e w' ⟨rfl, rfl⟩)
      go_ret
      exact ⟨ret_int (by unfold cmpI; (repeat' split) <;> omega), rfl⟩

def orI : List Int → Int
  | [] => 0
  | x :: r => if x = 0 then orI r else x
set_option maxHeartbeats 800000 in
theorem or_any (A : Option Addr) (ca : Nat) (d : List Int) (w : World) (hd : RdI w A d) (hm : d.length ≤ 4611686018427387904) :
    Calls Try.prog 34 #[.slice A d.length ca] w fun r w' => r = .returned (.int .i64 (orI d)) ∧ w = w' := by
  have HD : Hid (RdI w A d) := hd
  clear hd
  go_enter Try.func34, Try.ntmps34
  go_wp2
  go_loop [8] (fun i => ∃ k : Nat, k ≤ d.length ∧ i = .int .i64 k ∧ Hid (orI (d.drop k) = orI d)) (fun i => d.length - (intOf i).toNat)
  case atStart => exact ⟨0, Nat.zero_le _, rfl, rfl⟩
  case round =>
    obtain ⟨k, hk, rfl, HK⟩ := hrel
    by_cases hlt : k < d.length
    · obtain ⟨ba, oa, rfl, ia⟩ := HD.out (by omega)
      have c0 := ia k hlt
      clear ia
      have HK2 : Hid (orI (d.getD k default :: d.drop (k + 1)) = orI d) := by
        show _ = _; rw [← drop_cons d k hlt]; exact HK.out
      clear HK
      replace c0 : w.cell? ⟨ba, oa + k, none⟩ = some (.int .i64 (d.getD k default)) := c0
      generalize d.getD k default = x at c0 HK2
      by_cases hx : x = 0
      · have HE : Hid (orI (d.drop (k + 1)) = orI d) := by show _ = _; rw [← HK2.out]; simp [orI, hx]
        have h2 : (x != 0) = false := by simp [hx]
        clear hx HK2
        go_wp2
        go_round
        case rel => exact ⟨k + 1, by omega, by go_num, HE⟩
        case measure => simp [intOf]; omega
      · have HE : Hid (orI d = x) := by show _ = _; rw [← HK2.out]; simp [orI, hx]
        have h2 : (x != 0) = true := by simp [hx]
        clear hx HK2
        go_wp2
        go_ret
        exact ⟨ret_int HE.out.symm, rfl⟩
    · have hge : d.length ≤ k := by omega
      have HE : Hid (orI d = 0) := by show _ = _; rw [← HK.out, List.drop_eq_nil_of_le hge]; rfl
      clear HK
      go_wp2
      go_ret
      exact ⟨ret_int HE.out.symm, rfl⟩

set_option maxHeartbeats 800000 in
/-- 'rises' of package net, at slices that rise or not. -/
theorem netRises_any (A : Option Addr) (ca : Nat) (d : List Int) (w : World) (hd : RdI w A d) (hm : d.length ≤ 4611686018427387904) :
    Calls Try.prog 38 #[.slice A d.length ca] w fun r w' => r = .returned (.bool (risesB (-1) d)) ∧ w = w' := by
  have HD : Hid (RdI w A d) := hd
  clear hd
  go_enter Try.func38, Try.ntmps38
  go_wp2
  go_loop [3, 8] (fun l i => ∃ k : Nat, ∃ z : Int, k ≤ d.length ∧ i = .int .i64 k ∧ l = .int .i64 z ∧ Hid (risesB z (d.drop k) = risesB (-1) d)) (fun _ i => d.length - (intOf i).toNat)
  case atStart => exact ⟨0, -1, Nat.zero_le _, rfl, rfl, rfl⟩
  case round =>
    obtain ⟨k, z, hk, rfl, rfl, HK⟩ := hrel
    by_cases hlt : k < d.length
    · obtain ⟨ba, oa, rfl, ia⟩ := HD.out (by omega)
      have c0 := ia k hlt
      clear ia
      have HK2 : Hid (risesB z (d.getD k default :: d.drop (k + 1)) = risesB (-1) d) := by
        show _ = _; rw [← drop_cons d k hlt]; exact HK.out
      clear HK
      replace c0 : w.cell? ⟨ba, oa + k, none⟩ = some (.int .i64 (d.getD k default)) := c0
      generalize d.getD k default = x at c0 HK2
      by_cases hx : x ≤ z
      · have HE : Hid (risesB (-1) d = false) := by show _ = _; rw [← HK2.out]; simp [risesB, hx]
        clear HK2
        go_wp2
        go_ret
        exact ⟨ret_bool HE.out.symm, rfl⟩
      · have HE : Hid (risesB x (d.drop (k + 1)) = risesB (-1) d) := by show _ = _; rw [← HK2.out]; simp [risesB, hx]
        clear HK2
        go_wp2
        go_round
        case rel => exact ⟨k + 1, x, by omega, by go_num, rfl, HE⟩
        case measure => simp [intOf]; omega
    · have hge : d.length ≤ k := by omega
      have HE : Hid (risesB (-1) d = true) := by show _ = _; rw [← HK.out, List.drop_eq_nil_of_le hge]; rfl
      clear HK
      go_wp2
      go_ret
      exact ⟨ret_bool HE.out.symm, rfl⟩
end Go.Proofs.Ytncbofjgcapcjaa
