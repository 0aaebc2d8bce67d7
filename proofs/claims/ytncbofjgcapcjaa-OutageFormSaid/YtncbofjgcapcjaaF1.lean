/- What the small functions that the outage laws call return. -/
import Derived.Test.YtncbofjgcapcjaaK
import Derived.BigRegion
import Derived.BigQuiet
import Derived.Deep.QuietTactic
import Derived.RegionTactic
import Derived.ChangeAlike
import Derived.Outline
import Derived.Sort.Grow
namespace Go.Proofs.Ytncbofjgcapcjaa
open Go.RowKit

theorem ret_bool {a b : Bool} (h : a = b) : Ending.returned (.bool a) = .returned (.bool b) := by rw [h]
theorem ret_int {k : IntKind} {a b : Int} (h : a = b) : Ending.returned (.int k a) = .returned (.int k b) := by rw [h]

set_option maxHeartbeats 400000 in
theorem covers_any (x : O) (h : Int) (w : World) :
    Calls Try.prog 47 #[.agg #[.int .u8 x.k, .int .i64 x.wh, .int .i64 x.f, .int .i64 x.t], .int .i64 h] w fun e w' => e = .returned (.bool (decide (x.f ≤ h) && decide (h ≤ x.t))) ∧ Below w.heap.size w w' := by
  go_enter Try.func47, Try.ntmps47
  go_wp2
  all_goals
    go_ret
    exact ⟨ret_bool (by simp; try omega), (Below.refl _ _).alloc (Nat.le_refl _) _⟩

set_option maxHeartbeats 800000 in
theorem check_any (x : O) (a b c : Int) (w : World) :
    Calls Try.prog 32 #[.agg #[.int .u8 x.k, .int .i64 x.wh, .int .i64 x.f, .int .i64 x.t], .int .i64 a, .int .i64 b, .int .i64 c] w fun e w' => e = .returned (.int .i64 (chk x a b c)) ∧ Below w.heap.size w w' := by
  go_enter Try.func32, Try.ntmps32
  go_wp2
  all_goals
    go_ret
    refine ⟨ret_int ?_, (Below.refl _ _).alloc (Nat.le_refl _) _⟩
    simp only [beq_iff_eq, beq_eq_false_iff_ne, ne_eq] at *
    simp [chk, bad, *]
    try omega


theorem getD_at {α : Type} [Inhabited α] (d : List α) (z : α) (i : Nat) (h : i < d.length) : d.getD i z = d[i] := by simp [List.getD_eq_getElem?_getD, h]
theorem eq_of_getD {α : Type} (z : α) (d e : List α) (n : Nat) (h1 : d.length = n) (h2 : e.length = n) (h : ∀ j, j < n → d.getD j z = e.getD j z) : d = e := by
  apply List.ext_getElem (by omega)
  intro i h3 h4
  have := h i (by omega)
  simpa [List.getD_eq_getElem?_getD, h3, h4] using this

set_option maxHeartbeats 800000 in
theorem Check_any (A : Option Addr) (cap : Nat) (d : List O) (a b c : Int) (w : World) (hd : RdO w A d) :
    Calls Try.prog 20 #[.slice A d.length cap, .int .i64 a, .int .i64 b, .int .i64 c] w fun e w' => e = .returned (.tuple #[.int .i64 (checkF d a b c).1, .int .i64 (checkF d a b c).2]) ∧ Below w.heap.size w w' := by
  by_cases h16 : 16 < d.length
  · go_enter Try.func20, Try.ntmps20
    go_wp2
    go_ret2
    exact ⟨by simp [checkF, h16], Below.refl _ _⟩
  · have hb : decide (16 < (d.length : Int)) = false := by simp; omega
    have hb2 : ¬ (16 < (d.length : Int)) := by omega
    have HC : Hid (chkFrom a b c 0 d = checkF d a b c) := by show _ = _; simp [checkF, h16]
    have HD : Hid (RdO w A d) := hd
    clear hd
    go_enter Try.func20, Try.ntmps20
    go_wp2
    go_loopw [18] (fun i wr => ∃ k : Nat, k ≤ d.length ∧ i = .int .i64 k ∧ Hid (chkFrom a b c k (d.drop k) = checkF d a b c) ∧ Below w.heap.size w wr) (fun i _ => d.length - (intOf i).toNat)
    case atStart => exact ⟨0, Nat.zero_le _, rfl, HC, Below.refl _ _⟩
    case round =>
      obtain ⟨k, hk, rfl, HK, hB⟩ := hrel
      by_cases hlt : k < d.length
      · obtain ⟨bl, o, rfl, hi⟩ := (HD.out.keep hB) (by omega)
        obtain ⟨c0, c1, c2, c3⟩ := hi k hlt
        have HK2 : Hid (chkFrom a b c k (d.getD k default :: d.drop (k + 1)) = checkF d a b c) := by
          show _ = _; rw [← drop_cons d k hlt]; exact HK.out
        clear HK hi
        have HX : Hid (∀ v, (Value.int .i64 v) = .int .i64 v) := fun _ => rfl
        generalize d.getD k default = x at c0 c1 c2 c3 HK2
        by_cases hz : chk x a b c = 0
        · have hz2 : (chk x a b c == 0) = true := by simp [hz]
          have hz3 : (chk x a b c != 0) = false := by simp [hz]
          have HK3 : Hid (chkFrom a b c ((k + 1 : Nat) : Int) (d.drop (k + 1)) = checkF d a b c) := by
            show _ = _; rw [← HK2.out]; simp [chkFrom, hz]
          clear hz HK2
          go_wp2_with (go_at_call 32; refine (check_any x _ _ _ _).mono ?_; rintro e w' ⟨rfl, hw⟩)
          go_roundw
          case rel => exact ⟨k + 1, by omega, by go_num, HK3, (hB.alloc hB.size _).trans (hw.mono (by have := hB.size; simp; omega))⟩
          case measure => simp [intOf]; omega
        · have hz2 : (chk x a b c == 0) = false := by simp [hz]
          have hz3 : (chk x a b c != 0) = true := by simp [hz]
          have HK3 : Hid (((k : Int), chk x a b c) = checkF d a b c) := by
            show _ = _; rw [← HK2.out]; simp [chkFrom, hz]
          clear hz HK2
          go_wp2_with (go_at_call 32; refine (check_any x _ _ _ _).mono ?_; rintro e w' ⟨rfl, hw⟩)
          go_ret2
          exact ⟨by rw [← HK3.out]; rfl, (hB.alloc hB.size _).trans (hw.mono (by have := hB.size; simp; omega))⟩
      · have hge : d.length ≤ k := by omega
        have HK3 : Hid (((0 : Int), (0 : Int)) = checkF d a b c) := by
          show _ = _; rw [← HK.out, List.drop_eq_nil_of_le hge]; rfl
        clear HK
        go_wp2
        go_ret2
        exact ⟨by rw [← HK3.out]; rfl, hB⟩

set_option maxHeartbeats 800000 in
theorem Ints_any (A B : Option Addr) (ca cb : Nat) (d e : List Int) (w : World) (hd : RdI w A d) (he : RdI w B e) (hm : d.length ≤ 4611686018427387904) :
    Calls Try.prog 18 #[.slice A d.length ca, .slice B e.length cb] w fun r w' => r = .returned (.bool (decide (d = e))) ∧ Below w.heap.size w w' := by
  by_cases hne : d.length = e.length
  · obtain ⟨n, hn⟩ : ∃ n, e.length = n := ⟨_, rfl⟩
    rw [hn] at hne ⊢
    rw [hne]
    rw [hne] at hm
    have HD : Hid (RdI w A d ∧ RdI w B e ∧ d.length = n ∧ e.length = n) := ⟨hd, he, hne, hn⟩
    clear hd he hne hn
    go_enter Try.func18, Try.ntmps18
    go_wp2
    go_loopw [5] (fun i wr => ∃ k : Nat, k ≤ n ∧ i = .int .i64 k ∧ Hid (∀ j, j < k → d.getD j 0 = e.getD j 0) ∧ Below w.heap.size w wr) (fun i _ => n - (intOf i).toNat)
    case atStart => exact ⟨0, Nat.zero_le _, rfl, fun j hj => by omega, Below.refl _ _⟩
    case round =>
      obtain ⟨k, hk, rfl, HK, hB⟩ := hrel
      by_cases hlt : k < n
      · obtain ⟨ba, oa, rfl, ia⟩ := (HD.out.1.keep hB) (by rw [HD.out.2.2.1]; omega)
        obtain ⟨bb, ob, rfl, ib⟩ := (HD.out.2.1.keep hB) (by rw [HD.out.2.2.2]; omega)
        have c0 := ia k (by rw [HD.out.2.2.1]; omega)
        have c1 := ib k (by rw [HD.out.2.2.2]; omega)
        clear ia ib
        obtain ⟨x, hx⟩ : ∃ x, d.getD k 0 = x := ⟨_, rfl⟩
        obtain ⟨y, hy⟩ : ∃ y, e.getD k 0 = y := ⟨_, rfl⟩
        rw [hx] at c0
        rw [hy] at c1
        have HXY : Hid (d.getD k 0 = x ∧ e.getD k 0 = y) := ⟨hx, hy⟩
        clear hx hy
        by_cases hxy : x = y
        · have HE : Hid (x = y) := hxy
          have hxy2 : (x == y) = true := by simp [hxy]
          have hxy3 : (x != y) = false := by simp [hxy]
          have hk0 : (0 : Int) ≤ (k : Int) := by omega
          have hkn : (k : Int) < (n : Int) := by omega
          clear hxy
          go_wp2_with fail
          go_quiet (fail)
          go_wp2
          go_roundw
          case rel => exact ⟨k + 1, by omega, by go_num, fun j hj => by
            by_cases h : j < k
            · exact HK.out j h
            · obtain rfl : j = k := by omega
              rw [HXY.out.1, HXY.out.2]; exact HE.out, by exact pw_below_drewN hB _⟩
          case measure => simp [intOf]; omega
        · have HE : Hid (x ≠ y) := hxy
          have hxy2 : (x == y) = false := by simp [hxy]
          have hxy3 : (x != y) = true := by simp [hxy]
          have hk0 : (0 : Int) ≤ (k : Int) := by omega
          have hkn : (k : Int) < (n : Int) := by omega
          clear hxy
          go_wp2_with fail
          go_quiet (fail)
          go_wp2
          go_ret
          exact ⟨ret_bool (by symm; rw [decide_eq_false_iff_not]; intro h; exact HE.out (by rw [← HXY.out.1, ← HXY.out.2, h])), pw_below_drewN hB _⟩
      · have hge : n ≤ k := by omega
        go_wp2
        go_ret
        exact ⟨ret_bool (by symm; rw [decide_eq_true_eq]; exact eq_of_getD 0 d e n HD.out.2.2.1 HD.out.2.2.2 fun j hj => HK.out j (by omega)), hB⟩
  · have h2 : ((d.length : Int) == (e.length : Int)) = false := by simp; omega
    have h3 : ((d.length : Int) != (e.length : Int)) = true := by simp; omega
    have h4 : d ≠ e := fun h => hne (by rw [h])
    have h5 : Hid (decide (d = e) = false) := decide_eq_false h4
    clear hne h4
    go_enter Try.func18, Try.ntmps18
    go_wp2
    go_ret
    exact ⟨ret_bool h5.out.symm, Below.refl _ _⟩

set_option maxHeartbeats 800000 in
theorem less_any (x y : O) (w : World) :
    Calls Try.prog 25 #[.agg #[.int .u8 x.k, .int .i64 x.wh, .int .i64 x.f, .int .i64 x.t], .agg #[.int .u8 y.k, .int .i64 y.wh, .int .i64 y.f, .int .i64 y.t]] w fun e w' => e = .returned (.bool (less x y)) ∧ ∃ q os', w' = Go.Sort.grow (w.drewN q) os' := by
  by_cases h1 : x.k = y.k
  · by_cases h2 : x.wh = y.wh
    · have b1 : (x.k == y.k) = true := by simp [h1]
      have b2 : (x.wh == y.wh) = true := by simp [h2]
      have b3 : (x.k != y.k) = false := by simp [h1]
      have b4 : (x.wh != y.wh) = false := by simp [h2]
      have H : Hid (less x y = decide (x.f < y.f)) := by show _ = _; simp [less, h1, h2]
      clear h1 h2
      go_enter Try.func25, Try.ntmps25
      go_wp2
      go_ret
      exact ⟨ret_bool H.out.symm, 0, _, by rw [Go.Sort.alloc_eq_grow, Go.Sort.alloc_eq_grow, Go.Sort.grow_grow]; rfl⟩
    · have b1 : (x.k == y.k) = true := by simp [h1]
      have b2 : (x.wh == y.wh) = false := by simp [h2]
      have b3 : (x.k != y.k) = false := by simp [h1]
      have b4 : (x.wh != y.wh) = true := by simp [h2]
      have H : Hid (less x y = decide (x.wh < y.wh)) := by show _ = _; simp [less, h1, h2]
      clear h1 h2
      go_enter Try.func25, Try.ntmps25
      go_wp2
      go_ret
      exact ⟨ret_bool H.out.symm, 0, _, by rw [Go.Sort.alloc_eq_grow, Go.Sort.alloc_eq_grow, Go.Sort.grow_grow]; rfl⟩
  · have b1 : (x.k == y.k) = false := by simp [h1]
    have b3 : (x.k != y.k) = true := by simp [h1]
    have H : Hid (less x y = decide (x.k < y.k)) := by show _ = _; simp [less, h1]
    clear h1
    go_enter Try.func25, Try.ntmps25
    go_wp2
    go_ret
    exact ⟨ret_bool H.out.symm, 0, _, by rw [Go.Sort.alloc_eq_grow, Go.Sort.alloc_eq_grow, Go.Sort.grow_grow]; rfl⟩

set_option maxHeartbeats 800000 in
theorem touch_any (x y : O) (w : World) :
    Calls Try.prog 26 #[.agg #[.int .u8 x.k, .int .i64 x.wh, .int .i64 x.f, .int .i64 x.t], .agg #[.int .u8 y.k, .int .i64 y.wh, .int .i64 y.f, .int .i64 y.t]] w fun e w' => e = .returned (.bool (touch x y)) ∧ ∃ q os', w' = Go.Sort.grow (w.drewN q) os' := by
  by_cases h1 : x.k = y.k
  · by_cases h2 : x.wh = y.wh
    · by_cases h3 : y.f ≤ x.t
      · have b1 : (x.k == y.k) = true := by simp [h1]
        have b2 : (x.wh == y.wh) = true := by simp [h2]
        have H : Hid (touch x y = true) := by show _ = _; simp [touch, h1, h2, h3]
        clear h1 h2
        go_enter Try.func26, Try.ntmps26
        go_wp2
        go_ret
        exact ⟨ret_bool H.out.symm, 0, _, by rw [Go.Sort.alloc_eq_grow, Go.Sort.alloc_eq_grow, Go.Sort.grow_grow]; rfl⟩
      · have b1 : (x.k == y.k) = true := by simp [h1]
        have b2 : (x.wh == y.wh) = true := by simp [h2]
        have H : Hid (touch x y = (wrap64 (y.f - 1) == x.t)) := by show _ = _; simp [touch, h1, h2, h3]
        clear h1 h2
        go_enter Try.func26, Try.ntmps26
        go_wp2
        go_ret
        exact ⟨ret_bool H.out.symm, 0, _, by rw [Go.Sort.alloc_eq_grow, Go.Sort.alloc_eq_grow, Go.Sort.grow_grow]; rfl⟩
    · have b1 : (x.k == y.k) = true := by simp [h1]
      have b2 : (x.wh == y.wh) = false := by simp [h2]
      have H : Hid (touch x y = false) := by show _ = _; simp [touch, h1, h2]
      clear h1 h2
      go_enter Try.func26, Try.ntmps26
      go_wp2
      go_ret
      exact ⟨ret_bool H.out.symm, 0, _, by rw [Go.Sort.alloc_eq_grow, Go.Sort.alloc_eq_grow, Go.Sort.grow_grow]; rfl⟩
  · have b1 : (x.k == y.k) = false := by simp [h1]
    have H : Hid (touch x y = false) := by show _ = _; simp [touch, h1]
    clear h1
    go_enter Try.func26, Try.ntmps26
    go_wp2
    go_ret
    exact ⟨ret_bool H.out.symm, 0, _, by rw [Go.Sort.alloc_eq_grow, Go.Sort.alloc_eq_grow, Go.Sort.grow_grow]; rfl⟩


end Go.Proofs.Ytncbofjgcapcjaa
