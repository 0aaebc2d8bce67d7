/- OutageAhead, walked. -/
import Derived.Test.YtncbofjgcapcjaaA2
namespace Go.Proofs.Ytncbofjgcapcjaa
open Go.RowKit Go.Shelf Go.Lib Go.Sort

theorem ahead_now (hr : Int) (d : List O) (x : Int) (h : x ∈ setF 1 hr d) : x ∈ nowF hr d := by
  rw [nowF_mem]; rw [setF_mem] at h; exact .inl h
theorem setF_le (kd hr : Int) (d : List O) : (setF kd hr d).length ≤ d.length := setF_len kd hr d
theorem nowF_le (hr : Int) (d : List O) : (nowF hr d).length ≤ 2 * d.length := by
  have h1 : (nowF hr d).length ≤ (setF 1 hr d ++ setF 2 hr d).length := by
    have : ∀ zs : List Int, (Lib.compact zs).length ≤ zs.length := fun zs => by
      unfold Lib.compact compactUpTo
      rw [List.length_map]
      refine Nat.le_trans (List.length_filter_le _ _) ?_
      simp
    refine Nat.le_trans (this _) ?_
    rw [sortI_len]; exact Nat.le_refl _
  rw [List.length_append] at h1
  have := setF_le 1 hr d
  have := setF_le 2 hr d
  omega
theorem has_as (v : Value) (base : Nat) (d : List Int) (n : Int) (w : World) (h : OwnI w base v d) (hm : d.length ≤ 1000000000000) (b : Bool) (hb : hasB d n = b) :
    Calls Try.prog 15 #[v, .int .i64 n] w fun r w' => r = .returned (.bool b) ∧ w = w' := by
  obtain ⟨A, cap, rfl⟩ := h.slice
  rw [← hb]; exact has_any A cap d n w h.rd (by omega)
theorem rises_as (v : Value) (base : Nat) (d : List Int) (w : World) (h : OwnI w base v d) (hm : d.length ≤ 1000000000000) (hs : d.Pairwise (· < ·)) :
    Calls Try.prog 16 #[v] w fun r w' => r = .returned (.bool true) ∧ Below w.heap.size w w' := by
  obtain ⟨A, cap, rfl⟩ := h.slice
  exact rises_any A cap d w h.rd (by omega) fun k hk => asc_get hs k hk
theorem rdI_get {w : World} {A : Option Addr} {d : List Int} (h : RdI w A d) (k : Nat) (hk : k < d.length) : ∃ b o, A = some ⟨b, o, none⟩ ∧ w.cell? ⟨b, o + k, none⟩ = some (.int .i64 (d.getD k 0)) := by
  obtain ⟨b, o, e, hi⟩ := h (by omega)
  exact ⟨b, o, e, hi k hk⟩

set_option maxHeartbeats 4000000 in
set_option maxRecDepth 100000 in
theorem law4_any (A : Option Addr) (cap : Nat) (d : List O) (hr : Int) (w : World) (hR : RdO w A d) :
    Calls Try.prog 4 #[.slice A d.length cap, .int .i64 hr] w fun e w' => e = .returned (.bool true) ∧ Below w.heap.size w w' := by
  have HR := Lib.hid hR
  clear hR
  by_cases hlen : 100 < d.length
  · have l1 : decide ((100 : Int) < (d.length : Int)) = true := by simp; omega
    have l2 : decide (100 < d.length) = true := by simp; omega
    go_enter Try.func4, Try.ntmps4
    go_wp2_with fail
    refine (awake_any _).mono ?_
    rintro e w1 ⟨rfl, b1⟩
    go_wp2_with fail
    go_ret
    exact ⟨rfl, b1⟩
  · have l1 : decide ((100 : Int) < (d.length : Int)) = false := by simp; omega
    have l2 : decide (100 < d.length) = false := by simp; omega
    have hl1 := setF_le 1 hr d
    have hl2 := nowF_le hr d
    have hm := ahead_now hr d
    have p1 := setF_asc 1 hr d
    have p2 := nowF_asc hr d
    have HP : Hid (∀ x, x ∈ setF 1 hr d → x ∈ nowF hr d) := hm
    have P1 := Lib.hid p1
    have P2 := Lib.hid p2
    clear hm p1 p2
    go_enter Try.func4, Try.ntmps4
    go_wp2_with fail
    refine (awake_any _).mono ?_
    rintro e w1 ⟨rfl, b1⟩
    have H2 := Lib.hid (ahead_any A cap d hr w1 (HR.out.keep b1) (by omega))
    have B1 := Lib.hid b1
    clear b1
    go_wp2_with fail
    refine H2.out.mono ?_
    rintro e w2 ⟨v2, rfl, o2, b2⟩
    have b2' := B1.out.trans (b2.mono B1.out.size)
    have H3 := Lib.hid (now_any A cap d hr w2 (HR.out.keep b2') (by omega))
    have B2 := Lib.hid b2'
    have O2 := Lib.hid o2
    clear b2' o2 b2 B1 H2
    go_wp2_with fail
    refine H3.out.mono ?_
    rintro e w3 ⟨v3, rfl, o3, b3⟩
    have b3' := B2.out.trans (b3.mono B2.out.size)
    have B3 := Lib.hid b3'
    have O3 := Lib.hid o3
    have O23 := Lib.hid (O2.out.keepB b3)
    clear b3' o3 b3 B2 O2 H3
    generalize setF 1 hr d = a at *
    generalize nowF hr d = b at *
    obtain ⟨A2, c2, rfl⟩ := O23.out.slice
    go_wp2_with fail
    go_loopw [7] (fun i wr => ∃ k : Nat, k ≤ a.length ∧ i = .int .i64 k ∧ wr = w3) (fun i _ => a.length - (intOf i).toNat)
    case atStart => exact ⟨0, Nat.zero_le _, rfl, rfl⟩
    case round =>
      obtain ⟨k, hk, rfl, rfl⟩ := hrel
      by_cases hlt : k < a.length
      · have k0 : (0 : Int) ≤ (k : Int) := by omega
        have kn : (k : Int) < (a.length : Int) := by omega
        obtain ⟨bb, oo, rfl, hx⟩ := rdI_get O23.out.rd k hlt
        have hin : a.getD k 0 ∈ a := by
          have : a.getD k 0 = a[k] := by simp [List.getD_eq_getElem?_getD, hlt]
          rw [this]; exact List.getElem_mem _
        have HH := Lib.hid ((hasB_iff b (a.getD k 0)).2 (HP.out _ hin))
        generalize a.getD k 0 = x at hx HH
        clear hin
        go_wp2_with fail
        refine (has_as _ _ b x _ O3.out (by omega) true HH.out).mono ?_
        rintro e w4 ⟨rfl, rfl⟩
        go_wp2_with fail
        go_roundw
        case rel => exact ⟨k + 1, by omega, by go_num, by first | trivial | rfl⟩
        case measure => simp [intOf]; omega
      · obtain rfl : k = a.length := by omega
        have kd : decide ((a.length : Int) < (a.length : Int)) = false := by simp
        go_wp2_with fail
        refine (rises_as _ _ a _ O23.out (by omega) P1.out).mono ?_
        rintro e w5 ⟨rfl, b5⟩
        have O35 := Lib.hid (O3.out.keepB b5)
        have hsz := B3.out.size
        have B5 := Lib.hid (B3.out.trans (b5.mono hsz))
        clear b5
        go_wp2_with fail
        refine (rises_as _ _ b _ O35.out (by omega) P2.out).mono ?_
        rintro e w6 ⟨rfl, b6⟩
        have B6 := Lib.hid (B5.out.trans (b6.mono B5.out.size))
        clear b6
        go_wp2_with fail
        go_ret
        exact ⟨rfl, B6.out⟩
end Go.Proofs.Ytncbofjgcapcjaa
