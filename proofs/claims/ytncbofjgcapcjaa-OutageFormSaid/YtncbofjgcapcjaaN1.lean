/- The reference's normal form, as it is computed. -/
import Derived.Test.YtncbofjgcapcjaaK2
namespace Go.Proofs.Ytncbofjgcapcjaa
open Go.RowKit Go.Shelf Go.Lib Go.Sort

theorem cellO_grow {w : World} {b o : Nat} {x : O} (h : cellO w b o x) :
    (∀ n os, (grow (w.drewN n) os).cell? ⟨b, o, none⟩ = some (.int .u8 x.k)) ∧ (∀ n os, (grow (w.drewN n) os).cell? ⟨b, o + 1, none⟩ = some (.int .i64 x.wh)) ∧
    (∀ n os, (grow (w.drewN n) os).cell? ⟨b, o + 2, none⟩ = some (.int .i64 x.f)) ∧ (∀ n os, (grow (w.drewN n) os).cell? ⟨b, o + 3, none⟩ = some (.int .i64 x.t)) :=
  ⟨fun n os => cell_grown (World.block_lt_of_cell? _ _ h.1) h.1 n os, fun n os => cell_grown (World.block_lt_of_cell? _ _ h.2.1) h.2.1 n os, fun n os => cell_grown (World.block_lt_of_cell? _ _ h.2.2.1) h.2.2.1 n os, fun n os => cell_grown (World.block_lt_of_cell? _ _ h.2.2.2) h.2.2.2 n os⟩
theorem below_grow (w : World) (n : Nat) (os : Array Obj) : Below w.heap.size w (grow (w.drewN n) os) :=
  ⟨rfl, rfl, rfl, by rw [size_grow]; exact Nat.le_add_right _ _, fun k hk => heap_grow_old (w.drewN n) os (by exact hk)⟩

theorem takeWhile_step {α : Type} [Inhabited α] (p : α → Bool) (s : List α) (k : Nat) (hk : k < s.length) (h : ∀ j, j < k → p (s.getD j default) = true) :
    (p (s.getD k default) = true → ∀ j, j < k + 1 → p (s.getD j default) = true) ∧ (p (s.getD k default) = false → (s.takeWhile p).length = k) := by
  refine ⟨fun hp j hj => ?_, fun hp => ?_⟩
  · by_cases e : j < k
    · exact h j e
    · obtain rfl : j = k := by omega
      exact hp
  · induction s generalizing k with
    | nil => simp at hk
    | cons x s ih =>
      cases k with
      | zero => have : p x = false := by simpa using hp
                simp [List.takeWhile_cons, this]
      | succ k =>
        have h0 : p x = true := by simpa using h 0 (by omega)
        rw [List.takeWhile_cons, if_pos h0, List.length_cons, ih k (by simpa using hk) (fun j hj => by simpa using h (j + 1) (by omega)) (by simpa using hp)]
theorem takeWhile_all {α : Type} [Inhabited α] (p : α → Bool) (s : List α) (h : ∀ j, j < s.length → p (s.getD j default) = true) : (s.takeWhile p).length = s.length := by
  induction s with
  | nil => rfl
  | cons x s ih =>
    have h0 : p x = true := by simpa using h 0 (by simp)
    rw [List.takeWhile_cons, if_pos h0, List.length_cons, ih (fun j hj => by simpa using h (j + 1) (by simpa using hj)), List.length_cons]

theorem insAll_snoc (d : List O) (k : Nat) (h : k < d.length) : insAll (d.take (k + 1)) = if (d.getD k default).t < (d.getD k default).f then insAll (d.take k) else insN (d.getD k default) (insAll (d.take k)) := by
  rw [List.take_succ_eq_append_getElem h, insAll, List.foldl_append]
  have e : d.getD k default = d[k] := by simp [h]
  rw [e]; rfl
theorem insN_len (x : O) (s : List O) : (insN x s).length = s.length + 1 := by
  have := posN_le x s
  simp [insN]; omega
theorem insAll_len (d : List O) : (insAll d).length ≤ d.length := by
  have H : ∀ (d s : List O), (d.foldl (fun s x => if x.t < x.f then s else insN x s) s).length ≤ s.length + d.length := by
    intro d
    induction d with
    | nil => intro s; simp
    | cons x d ih =>
      intro s
      rw [List.foldl_cons]
      refine Nat.le_trans (ih _) ?_
      split
      · simp
      · rw [insN_len]; simp; omega
  simpa [insAll] using H d []

theorem RdO.new (w : World) (x : O) : RdO (w.alloc (.cells #[.int .u8 x.k, .int .i64 x.wh, .int .i64 x.f, .int .i64 x.t] 27)) (some ⟨w.heap.size, 0, none⟩) [x] := fun _ =>
  ⟨w.heap.size, 0, rfl, fun i hi => by obtain rfl : i = 0 := by simpa using hi
                                       simp [cellO, go_sem]⟩
theorem touch_as (x y : O) (b : Bool) (h : touch x y = b) (w : World) :
    Calls Try.prog 26 #[.agg #[.int .u8 x.k, .int .i64 x.wh, .int .i64 x.f, .int .i64 x.t], .agg #[.int .u8 y.k, .int .i64 y.wh, .int .i64 y.f, .int .i64 y.t]] w fun e w' => e = .returned (.bool b) ∧ ∃ q os', w' = Go.Sort.grow (w.drewN q) os' := by
  rw [← h]; exact touch_any x y w
theorem mergeN_len (s : List O) (x : O) : (mergeN s x).length ≤ s.length + 1 := by
  unfold mergeN; split <;> simp
theorem normL_len (d : List O) : (normL d).length ≤ d.length := by
  have H : ∀ (d s : List O), (d.foldl mergeN s).length ≤ s.length + d.length := by
    intro d
    induction d with
    | nil => intro s; simp
    | cons x d ih => intro s; rw [List.foldl_cons]; have := mergeN_len s x; have := ih (mergeN s x); simp; omega
  simpa [normL] using H d []
theorem normL_snoc (d : List O) (k : Nat) (h : k < d.length) : normL (d.take (k + 1)) = mergeN (normL (d.take k)) (d.getD k default) := by
  rw [List.take_succ_eq_append_getElem h, normL, List.foldl_append]
  have e : d.getD k default = d[k] := by simp [h]
  rw [e]; rfl
theorem merge_yes (s : List O) (x : O) (q : Nat) (hq : s.length = q + 1) (h : touch (s.getD q default) x = true) : mergeN s x = s.set q { s.getD q default with t := max (s.getD q default).t x.t } := by
  have e : q + 1 - 1 = q := rfl
  rw [mergeN, hq, e, if_pos ⟨by omega, h⟩]
theorem merge_no (s : List O) (x : O) (q : Nat) (hq : s.length = q + 1) (h : touch (s.getD q default) x = false) : mergeN s x = s ++ [x] := by
  have e : q + 1 - 1 = q := rfl
  rw [mergeN, hq, e, if_neg (by rw [h]; simp)]

theorem less_as (x y : O) (b : Bool) (h : less x y = b) (w : World) :
    Calls Try.prog 25 #[.agg #[.int .u8 x.k, .int .i64 x.wh, .int .i64 x.f, .int .i64 x.t], .agg #[.int .u8 y.k, .int .i64 y.wh, .int .i64 y.f, .int .i64 y.t]] w fun e w' => e = .returned (.bool b) ∧ ∃ q os', w' = Go.Sort.grow (w.drewN q) os' := by
  rw [← h]; exact less_any x y w
/-- s[k:], whatever s: what it reads as. -/
theorem rd_drop {w : World} {base g n cap : Nat} {s : List O} (h : OwnO w base (.slice (some ⟨g, 0, none⟩) n cap) s) (k : Nat) : RdO w (some ⟨g, k * 4, none⟩) (s.drop k) := fun hl => by
  refine ⟨g, k * 4, rfl, fun i hi => ?_⟩
  have hi' : k + i < s.length := by simp at hi; omega
  have := (h.cells (k + i) hi').1
  rw [show k * 4 + i * 4 = (k + i) * 4 by omega]
  simpa [List.getD_eq_getElem?_getD, List.getElem?_drop] using this
theorem rd_take {w : World} {A : Option Addr} {s : List O} (h : RdO w A s) (k : Nat) : RdO w A (s.take k) := fun hl => by
  obtain ⟨b, o, e, hi⟩ := h (by simp at hl; omega)
  refine ⟨b, o, e, fun i hik => ?_⟩
  have hik' : i < k ∧ i < s.length := by simp at hik; omega
  have := hi i hik'.2
  simpa [List.getD_eq_getElem?_getD, List.getElem?_take, hik'.1] using this

theorem OwnO.new (w : World) (x : O) : OwnO ((w.alloc (.cells #[.int .u8 x.k, .int .i64 x.wh, .int .i64 x.f, .int .i64 x.t] 27)).drew) w.heap.size (.slice (some ⟨w.heap.size, 0, none⟩) 1 1) [x] :=
  ⟨rfl, .inr ⟨w.heap.size, 1, #[.int .u8 x.k, .int .i64 x.wh, .int .i64 x.f, .int .i64 x.t], rfl, Nat.le_refl _, by show (w.alloc _).heap[w.heap.size]? = _; exact World.alloc_heap_new w _, Nat.le_refl _, by unfold maxLen; omega, rfl, rfl⟩⟩

set_option maxHeartbeats 4000000 in
set_option maxRecDepth 100000 in
theorem refNormal_any (A : Option Addr) (cap : Nat) (d : List O) (w : World) (hR : RdO w A d) (hlen : d.length ≤ 100000000) :
    Calls Try.prog 12 #[.slice A d.length cap] w fun e w' => ∃ v, e = .returned v ∧ OwnO w' w.heap.size v (normL (insAll d)) ∧ Below w.heap.size w w' := by
  have HR := Lib.hid hR
  have mixed : Try.prog.follows .mixedOrders = true := by kernel_rfl
  clear hR
  go_enter Try.func12, Try.ntmps12
  go_wp2
  go_loopw [3, 4] (fun s i wr => ∃ k : Nat, k ≤ d.length ∧ i = .int .i64 k ∧ OwnO wr w.heap.size s (insAll (d.take k)) ∧ Below w.heap.size w wr) (fun _ i _ => d.length - (intOf i).toNat)
  case atStart => exact ⟨0, Nat.zero_le _, rfl, OwnO.nil _ _, Below.refl _ _⟩
  case round =>
    obtain ⟨k, hk, rfl, hO, hB⟩ := hrel
    have hil := insAll_len (d.take k)
    rw [List.length_take] at hil
    by_cases hlt : k < d.length
    · obtain ⟨bl, o, rfl, hi⟩ := (HR.out.keep hB) (by omega)
      have hx0 := hi k hlt
      have hsn := insAll_snoc d k hlt
      clear hi
      generalize d.getD k default = x at hx0 hsn
      generalize insAll (d.take k) = s at hO hsn hil
      obtain ⟨c0, c1, c2, c3⟩ := hx0
      have k0 : (0 : Int) ≤ (k : Int) := by omega
      have kn : (k : Int) < (d.length : Int) := by omega
      have HO := Lib.hid hO
      have HSN := Lib.hid hsn
      clear hO hsn
      obtain ⟨A3, c3', rfl, hcap, hnil, hmx⟩ := HO.out.slice
      by_cases htf : x.t < x.f
      · go_wp2_with fail
        go_quiet (fail)
        go_wp2
        go_roundw
        case rel => exact ⟨k + 1, by omega, by go_num, by rw [HSN.out, if_pos htf]; exact HO.out.keepB (pw_below_drewN (Below.refl _ _) _), pw_below_drewN hB _⟩
        case measure => simp [intOf]; omega
      · have htb : decide (x.t < x.f) = false := decide_eq_false htf
        have HTF := Lib.hid htf
        clear htf
        go_wp2_with fail
        go_quiet (fail)
        go_upto_block 2 with fail
        have HC : Hid (cellO wr bl (o + k * 4) x) := ⟨c0, c1, c2, c3⟩
        clear c0 c1 c2 c3
        go_cut [5] from 10 to 59 (fun s5 wc => s5 = .int .i64 (posN x s) ∧ Hid (Below wr.heap.size wr wc))
        case first =>
          go_wp2_with fail
          go_loopw [5] (fun i w2 => ∃ q : Nat, q ≤ s.length ∧ i = .int .i64 q ∧ Hid (∀ j, j < q → (!less x (s.getD j default)) = true) ∧ Hid (Below wr.heap.size wr w2)) (fun i _ => s.length - (intOf i).toNat)
          case atStart => exact ⟨0, Nat.zero_le _, rfl, fun j hj => by omega, pw_below_drewN (Below.refl _ _) _⟩
          case round =>
            obtain ⟨q, hq, rfl, HQ, HB2⟩ := hrel
            by_cases hlt2 : q < s.length
            · have hOw := HO.out.keepB HB2.out
              obtain ⟨g, rfl⟩ : ∃ g, A3 = some ⟨g, 0, none⟩ := by
                rcases hOw.shape with ⟨e, e2⟩ | ⟨g, _, _, e, _⟩
                · rw [e2] at hlt2; exact absurd hlt2 (by simp)
                · exact ⟨g, by injection e⟩
              obtain ⟨a0, a1, a2, a3⟩ := cellO_grow (HC.out.keep HB2.out)
              have hy := (hOw.cells q hlt2).1
              have ⟨st1, st2⟩ := takeWhile_step (fun y => !less x y) s q hlt2 HQ.out
              generalize s.getD q default = y at hy st1 st2
              obtain ⟨b0, b1, b2, b3⟩ := cellO_grow hy
              have ST1 := Lib.hid st1
              have ST2 := Lib.hid st2
              have q0 : (0 : Int) ≤ (q : Int) := by omega
              have qn : (q : Int) < (s.length : Int) := by omega
              clear hOw hy st1 st2
              cases hl : less x y
              · have HL := Lib.hid hl
                clear hl
                go_wp2_with fail
                go_quiet_grown (first | (go_at_call 25; refine Calls.grown_of (less_as x y _ HL.out _)))
                clear a0 a1 a2 a3 b0 b1 b2 b3
                go_wp2_with fail
                go_roundw
                case rel => exact ⟨q + 1, by omega, by go_num, ST1.out (by rw [HL.out]; rfl), below_of HB2.out (below_grow _ _ _)⟩
                case measure => simp [intOf]; omega
              · have HL := Lib.hid hl
                clear hl
                go_wp2_with fail
                go_quiet_grown (first | (go_at_call 25; refine Calls.grown_of (less_as x y _ HL.out _)))
                clear a0 a1 a2 a3 b0 b1 b2 b3
                go_wp2_with fail
                go_meet
                case rel => exact ⟨by rw [posN, ST2.out (by rw [HL.out]; rfl)], below_of HB2.out (below_grow _ _ _)⟩
            · have qd : decide ((q : Int) < (s.length : Int)) = false := by simp; omega
              have hp : posN x s = q := by
                rw [posN, takeWhile_all _ _ (fun j hj => HQ.out j (by omega))]; omega
              have HP := Lib.hid hp
              clear hp
              go_wp2_with fail
              go_quiet (fail)
              go_wp2_with fail
              go_meet
              case rel => exact ⟨by rw [HP.out], pw_below_drewN HB2.out _⟩
        case rest =>
          obtain ⟨rfl, HB2⟩ := hcut
          have hpl := posN_le x s
          have HI := Lib.hid (show insN x s = s.take (posN x s) ++ ([x] ++ s.drop (posN x s)) from rfl)
          generalize posN x s = p at hpl HI ⊢
          obtain ⟨c0, c1, c2, c3⟩ := HC.out.keep HB2.out
          have hOw := Lib.hid (HO.out.keepB HB2.out)
          have hBw := Lib.hid (hB.trans (HB2.out.mono hB.size))
          have hsw : w.heap.size ≤ wc.heap.size := hBw.out.size
          have p0 : (0 : Int) ≤ (p : Int) := by omega
          have pn : (p : Int) ≤ (s.length : Int) := by omega
          have pc : (p : Int) ≤ (c3' : Int) := by omega
          have hnew := Lib.hid (OwnO.new wc x)
          have hsrc : ∀ ob, RdO ((wc.alloc ob).drew) A3 s := fun ob => (RdO.keep hOw.out.rd ((Below.refl _ _).alloc (Nat.le_refl _) _).drew)
          have HSRC := Lib.hid hsrc
          clear hsrc
          have hfin : ∀ (v57 v59 : Value) (w4 w5 w6 : World) (v6 : Value), OwnO w4 wc.heap.size v6 ([x] ++ s.drop p) → Below wc.heap.size wc w4 → OwnO w5 wc.heap.size v57 (s.take p) → w4.grownBy w5 none → OwnO w6 wc.heap.size v59 (s.take p ++ ([x] ++ s.drop p)) → w5.grownBy w6 v57.ownBlock →
              OwnO w6 w.heap.size v59 (insAll (d.take (k + 1))) ∧ Below w.heap.size w w6 := fun v57 v59 w4 w5 w6 v6 h1 h2 h3 h4 h5 h6 => by
            refine ⟨?_, ?_⟩
            · rw [HSN.out, if_neg (by have := HTF.out; omega), HI.out]; exact h5.base_le hsw
            · have b4 := hBw.out.trans (h2.mono hsw)
              have b5 := b4.grown h4 (by have := h2.size; omega) (fun k e => by cases e)
              exact b5.grown h6 (by have := h2.size; have := h4.size; omega) (fun k e => by have := (h3.own k e).1; omega)
          have HFIN := Lib.hid hfin
          clear hfin
          cases A3 with
          | none =>
            have h0 : s = [] := by rcases hOw.out.shape with ⟨_, e⟩ | ⟨_, _, _, e, _⟩ <;> first | exact e | cases e
            subst h0
            obtain rfl : p = 0 := by simpa using hpl
            obtain rfl : c3' = 0 := hnil rfl
            go_wp2_with fail
            go_region_law ((refine step_appendO rfl _ _ rfl wc.heap.size _ none 0 0 [x] [] (by rfl) (by rfl) hnew.out (fun h => by simp at h) rfl (fun _ => rfl) (by simp) (by simp [World.drew]) ?_; intro v6 w4 o6 g6))
            have O6 := Lib.hid o6
            have G6 := Lib.hid g6
            clear o6 g6
            obtain ⟨A6, c6, rfl, hc6, hn6, hm6⟩ := O6.out.slice
            have s4 : wc.heap.size ≤ w4.heap.size := by have := G6.out.size; simp [World.drew] at this; omega
            have B4 := Lib.hid (((Below.refl wc.heap.size wc).alloc (Nat.le_refl _) _).drew.grown G6.out (by simp [World.drew]) (fun k e => by cases e; exact Nat.le_refl _))
            go_wp2_with (first | (refine list_appendO rfl (.const (.slice none 0 0)) (.tmp 56) rfl wc.heap.size _ none 0 0 [] [] (by rfl) (by rfl) (OwnO.nil _ _) (fun h => by simp at h) rfl (fun _ => rfl) (by simp) s4 ?_; intro v57 w5 o57 g57; have O57 := Lib.hid o57; have G57 := Lib.hid g57; have O6b := Lib.hid (O6.out.keep g57 (fun r _ e => by cases e)); have s5 := g57.size; clear o57 g57) | (refine list_appendO rfl (.tmp 57) (.tmp 58) rfl wc.heap.size _ _ _ _ _ _ (by rfl) (by rfl) O57.out O6b.out.rd (by rfl) hn6 (by simp) (by omega) ?_; intro v59 w6 o59 g59; have O59 := Lib.hid o59; have G59 := Lib.hid g59; clear o59 g59))
            go_roundw
            case rel =>
              have hh := HFIN.out v57 v59 w4 w5 w6 _ O6.out B4.out O57.out G57.out O59.out G59.out
              first | exact ⟨k + 1, by omega, by go_num, hh.1, hh.2⟩ | ((repeat apply Exists.intro); refine ⟨⟨k + 1, by omega, ?_, hh.1, hh.2⟩, rfl⟩; go_num)
            case measure => simp [intOf]; omega
          | some a =>
            obtain ⟨g, rfl⟩ : ∃ g, a = ⟨g, 0, none⟩ := by
              rcases hOw.out.shape with ⟨e, _⟩ | ⟨g, _, _, e, _⟩
              · cases e
              · exact ⟨g, by injection e with e1; injection e1⟩
            have dro := rd_drop hOw.out p
            have hdr : ∀ ob, RdO ((wc.alloc ob).drew) (some ⟨g, p * 4, none⟩) (s.drop p) := fun ob => dro.keep ((Below.refl _ _).alloc (Nat.le_refl _) _).drew
            have HDR := Lib.hid hdr
            have htk : ∀ w4, Below wc.heap.size wc w4 → RdO w4 (some ⟨g, 0, none⟩) (s.take p) := fun w4 h => rd_take (hOw.out.rd.keep h) p
            have HTK := Lib.hid htk
            have dl : (s.drop p).length = s.length - p := by simp
            have tl : (s.take p).length = p := by simp; omega
            have HDL := Lib.hid dl
            have HTL := Lib.hid tl
            clear dro hdr htk dl tl
            have hdi : ∀ ob, RdO ((wc.alloc ob).drew) (if c3' = p then some ⟨g, 0, none⟩ else some ⟨g, p * 4, none⟩) (s.drop p) := fun ob => by
              by_cases hpc : c3' = p
              · intro h
                rw [HDL.out] at h
                omega
              · rw [if_neg hpc]; exact HDR.out ob
            have HDI := Lib.hid hdi
            clear hdi
            go_wp2_with fail
            go_region_law ((refine step_appendO rfl _ _ rfl wc.heap.size _ (if c3' = p then some ⟨g, 0, none⟩ else some ⟨g, p * 4, none⟩) (s.length - p) (c3' - p) [x] (s.drop p) (by rfl) (by rfl) hnew.out (HDI.out _) HDL.out (fun h => by split at h <;> cases h) (by have := HDL.out; simp; omega) (by simp [World.drew]) ?_; intro v6 w4 o6 g6))
            clear HDI
            generalize (if c3' = p then (some ⟨g, 0, none⟩ : Option Addr) else some ⟨g, p * 4, none⟩) = A52
            have O6 := Lib.hid o6
            have G6 := Lib.hid g6
            clear o6 g6
            obtain ⟨A6, c6, rfl, hc6, hn6, hm6⟩ := O6.out.slice
            have s4 : wc.heap.size ≤ w4.heap.size := by have := G6.out.size; simp [World.drew] at this; omega
            have B4 := Lib.hid (((Below.refl wc.heap.size wc).alloc (Nat.le_refl _) (.cells #[.int .u8 x.k, .int .i64 x.wh, .int .i64 x.f, .int .i64 x.t] 27)).drew.grown G6.out (by simp [World.drew]) (fun k e => by cases e; exact Nat.le_refl _))
            go_wp2_with (first | (refine list_appendO rfl (.const (.slice none 0 0)) (.tmp 56) rfl wc.heap.size _ (some ⟨g, 0, none⟩) p c3' [] (s.take p) (by rfl) (by rfl) (OwnO.nil _ _) (HTK.out _ B4.out) HTL.out (fun h => by cases h) (by first | (simp; done) | (simp; omega)) s4 ?_; intro v57 w5 o57 g57; have O57 := Lib.hid o57; have G57 := Lib.hid g57; have O6b := Lib.hid (O6.out.keep g57 (fun r _ e => by cases e)); have s5 := g57.size; clear o57 g57) | (refine list_appendO rfl (.tmp 57) (.tmp 58) rfl wc.heap.size _ _ _ _ _ _ (by rfl) (by rfl) O57.out O6b.out.rd (by have := HDL.out; first | (simp; done) | (simp; omega)) hn6 (by first | (simp; done) | (simp; omega)) (by omega) ?_; intro v59 w6 o59 g59; have O59 := Lib.hid o59; have G59 := Lib.hid g59; clear o59 g59))
            go_roundw
            case rel =>
              have hh := HFIN.out v57 v59 w4 w5 w6 _ O6.out B4.out O57.out G57.out O59.out G59.out
              first | exact ⟨k + 1, by omega, by go_num, hh.1, hh.2⟩ | ((repeat apply Exists.intro); refine ⟨⟨k + 1, by omega, ?_, hh.1, hh.2⟩, rfl⟩; go_num)
            case measure => simp [intOf]; omega
    · obtain rfl : k = d.length := by omega
      rw [List.take_length] at hO hil
      clear HR hk hil
      have hS := insAll_len d
      generalize hSe : insAll d = S at hO hS
      have HSE := Lib.hid hSe
      clear hSe
      have kd : decide ((d.length : Int) < (d.length : Int)) = false := by simp
      obtain ⟨A3, c3, rfl, hcap, hnil, hmx⟩ := hO.slice
      have HO := Lib.hid hO
      have HB := Lib.hid hB
      clear hO hB
      go_wp2_with fail
      obtain ⟨wm, rfl⟩ : ∃ wm, wm = wr := ⟨_, rfl⟩
      go_loopw [7, 8] (fun s i w2 => ∃ k : Nat, k ≤ S.length ∧ i = .int .i64 k ∧ OwnO w2 wm.heap.size s (normL (S.take k)) ∧ Below wm.heap.size wm w2) (fun _ i _ => S.length - (intOf i).toNat)
      case atStart => exact ⟨0, Nat.zero_le _, rfl, OwnO.nil _ _, by first | exact Below.refl _ _ | exact pw_below_drewN (Below.refl _ _) _⟩
      case round =>
        obtain ⟨k, hk, rfl, hU, hB2⟩ := hrel
        have hul := normL_len (S.take k)
        rw [List.length_take] at hul
        by_cases hlt2 : k < S.length
        · obtain ⟨g, rfl⟩ : ∃ g, A3 = some ⟨g, 0, none⟩ := by
            rcases HO.out.shape with ⟨e, e2⟩ | ⟨g, _, _, e, _⟩
            · rw [e2] at hlt2; exact absurd hlt2 (by simp)
            · exact ⟨g, by injection e⟩
          have hx := (HO.out.cells k hlt2).1.keep hB2
          have hns := normL_snoc S k hlt2
          generalize S.getD k default = x at hx hns
          generalize normL (S.take k) = U at hU hul hns
          have k0 : (0 : Int) ≤ (k : Int) := by omega
          have kn : (k : Int) < (S.length : Int) := by omega
          have HNS := Lib.hid hns
          obtain ⟨A7, c7, rfl, hcap7, hnil7, hmx7⟩ := hU.slice
          have hws := hB2.size
          have hfin : ∀ (w3 w6 : World) (v6 : Value), Below wr.heap.size wr w3 → OwnO w6 wm.heap.size v6 (U ++ [x]) → w3.grownBy w6 (Value.ownBlock (.slice A7 U.length c7)) → mergeN U x = U ++ [x] →
              OwnO w6 wm.heap.size v6 (normL (S.take (k + 1))) ∧ Below wm.heap.size wm w6 := fun w3 w6 v6 h1 h2 h3 h4 =>
            ⟨by rw [HNS.out, h4]; exact h2, (hB2.trans (h1.mono hws)).grown h3 (by have := h1.size; omega) (fun k e => (hU.own k e).1)⟩
          have HFIN := Lib.hid hfin
          clear hfin hns
          by_cases hq0 : U.length = 0
          · obtain rfl := List.eq_nil_of_length_eq_zero hq0
            obtain ⟨c0, c1, c2, c3⟩ := hx
            have q0 : decide ((0 : Int) < 0) = false := rfl
            clear hnil7
            have HU := Lib.hid hU
            clear hU
            go_wp2_with fail
            go_quiet (fail)
            go_wp2_with (refine list_appendO rfl (.tmp 99) (.tmp 104) rfl wm.heap.size _ _ 1 1 [] [x] (by rfl) (by rfl) (HU.out.keepB ((pw_below_drewN (Below.refl _ _) _).alloc (Nat.le_refl _) _)) (RdO.new _ x) rfl (fun h => by cases h) (by simp) (by first | (simp; done) | (simp; omega)) ?_; intro v6 w6 o6 g6; have O6 := Lib.hid o6; have G6 := Lib.hid g6; clear o6 g6)
            go_roundw
            case rel =>
              have hh := HFIN.out _ _ _ ((pw_below_drewN (Below.refl _ _) _).alloc (Nat.le_refl _) _) O6.out G6.out (by simp [mergeN])
              first | exact ⟨k + 1, by omega, by go_num, hh.1, hh.2⟩ | ((repeat apply Exists.intro); refine ⟨⟨k + 1, by omega, ?_, hh.1, hh.2⟩, rfl⟩; go_num)
            case measure => simp [intOf]; omega
          · obtain ⟨q, hq⟩ : ∃ q, U.length = q + 1 := ⟨U.length - 1, by omega⟩
            obtain ⟨g7, rfl⟩ : ∃ g, A7 = some ⟨g, 0, none⟩ := by
              rcases hU.shape with ⟨e, e2⟩ | ⟨g, _, _, e, _⟩
              · rw [e2] at hq; exact absurd hq (by simp)
              · exact ⟨g, by injection e⟩
            have qt : ((U.length : Int) - 1).toNat = q := by omega
            have qw : IntKind.i64.wrap ((U.length : Int) - 1) = (U.length : Int) - 1 := by rw [IntKind.wrap_i64]; omega
            have q00 : (0 : Int) ≤ (U.length : Int) - 1 := by omega
            have qlt : (U.length : Int) - 1 < (U.length : Int) := by omega
            have qpos : decide ((0 : Int) < (U.length : Int)) = true := by simp; omega
            have qpos2 : decide (0 < U.length) = true := by simp; omega
            have qpos3 : (0 : Int) < (U.length : Int) := by omega
            have qpos4 : 0 < U.length := by omega
            have qpos5 : (1 : Int) ≤ (U.length : Int) := by omega
            have hy := (hU.cells q (by omega)).1
            have hfy := (hU.cells q (by omega)).2.2.2.2
            have my := merge_yes U x q hq
            have mn := merge_no U x q hq
            have hset := hU.setT q (by omega)
            have hob := hU.own
            generalize hyy : U.getD q default = y at hy my mn hset
            have HU := Lib.hid hU
            have HX := Lib.hid hx
            have HY := Lib.hid hy
            have MY := Lib.hid my
            have MN := Lib.hid mn
            have HSET := Lib.hid hset
            have HYY := Lib.hid hyy
            have HOB := Lib.hid hob
            obtain ⟨a0, a1, a2, a3⟩ := cellO_grow hx
            obtain ⟨b0, b1, b2, b3⟩ := cellO_grow hy
            clear hU hx hy my mn hset hyy hob hnil7
            have HQ := Lib.hid hq
            clear hq
            cases ht : touch y x
            · have HT := Lib.hid ht
              clear ht
              go_wp2_with fail
              go_quiet_grown (first | (go_at_call 26; refine Calls.grown_of (touch_as y x _ HT.out _)))
              have d0 := a0 nq osq
              have d1 := a1 nq osq
              have d2 := a2 nq osq
              have d3 := a3 nq osq
              have bW := below_grow wr nq osq
              clear a0 a1 a2 a3 b0 b1 b2 b3
              generalize grow (wr.drewN nq) osq = W at d0 d1 d2 d3 bW ⊢
              have HU2 := Lib.hid (HU.out.keepB bW)
              have hsW := bW.size
              have BW := Lib.hid bW
              clear bW
              go_wp2_with (refine list_appendO rfl (.tmp 99) (.tmp 104) rfl wm.heap.size _ _ 1 1 U [x] (by rfl) (by rfl) (HU2.out.keepB ((Below.refl _ _).alloc (Nat.le_refl _) _)) (RdO.new _ x) rfl (fun h => by cases h) (by simp; omega) (by simp; omega) ?_; intro v6 w6 o6 g6; have O6 := Lib.hid o6; have G6 := Lib.hid g6; clear o6 g6)
              go_roundw
              case rel =>
                have hh := HFIN.out _ _ _ (BW.out.alloc (by omega) _) O6.out G6.out (MN.out HT.out)
                first | exact ⟨k + 1, by omega, by go_num, hh.1, hh.2⟩ | ((repeat apply Exists.intro); refine ⟨⟨k + 1, by omega, ?_, hh.1, hh.2⟩, rfl⟩; go_num)
              case measure => simp [intOf]; omega
            · have HT := Lib.hid ht
              clear ht
              go_wp2_with fail
              go_quiet_grown (first | (go_at_call 26; refine Calls.grown_of (touch_as y x _ HT.out _)))
              clear a0 a1 a2 b0 b1 b2
              have fz : (grow (wr.drewN nq) osq).frozen? ⟨g7, q * 4 + 3, none⟩ = false := by
                have := HOB.out g7 rfl
                have e : (grow (wr.drewN nq) osq).heap[g7]? = wr.heap[g7]? := heap_grow_old (wr.drewN nq) osq (by exact this.2)
                rw [← hfy]; simp only [World.frozen?, e]
              have e1 := b3 nq osq
              have e2 := a3 nq osq
              have bW := below_grow wr nq osq
              generalize grow (wr.drewN nq) osq = W at fz e1 e2 bW ⊢
              have HU2 := Lib.hid (HU.out.keepB bW)
              have hsW := bW.size
              have BW := Lib.hid bW
              clear a3 b3 bW
              go_wp2_with fail
              go_big_region
              go_wp2_with fail
              have hst := OwnO.setT HU2.out q (by have := HQ.out; omega) (max y.t x.t)
              rw [HYY.out] at hst
              have HST := Lib.hid hst
              clear hst
              go_roundw
              case rel =>
                have hh : OwnO ((W.setCell ⟨g7, q * 4 + 3, none⟩ (.int .i64 (max y.t x.t))).drew) wm.heap.size (.slice (some ⟨g7, 0, none⟩) U.length c7) (normL (S.take (k + 1))) ∧ Below wm.heap.size wm ((W.setCell ⟨g7, q * 4 + 3, none⟩ (.int .i64 (max y.t x.t))).drew) := by
                  refine ⟨?_, ?_⟩
                  · rw [HNS.out, MY.out HT.out]; exact (HST.out.keepB (pw_below_drewN (Below.refl _ _) 1))
                  · exact ((hB2.trans (BW.out.mono hws)).setCell (by have := HOB.out g7 rfl; exact this.1) _).drew
                first | exact ⟨k + 1, by omega, by go_num, hh.1, hh.2⟩ | ((repeat apply Exists.intro); refine ⟨⟨k + 1, by omega, ?_, hh.1, hh.2⟩, rfl⟩; go_num)
              case measure => simp [intOf]; omega
        · obtain rfl : k = S.length := by omega
          rw [List.take_length] at hU
          have HU := Lib.hid hU
          clear hU
          have kd : decide ((S.length : Int) < (S.length : Int)) = false := by simp
          go_wp2_with fail
          go_ret
          exact ⟨_, rfl, by rw [HSE.out]; exact HU.out.base_le HB.out.size, HB.out.trans (hB2.mono HB.out.size)⟩
end Go.Proofs.Ytncbofjgcapcjaa
