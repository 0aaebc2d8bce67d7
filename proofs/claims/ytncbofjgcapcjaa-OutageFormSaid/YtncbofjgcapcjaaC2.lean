/- The set of the lines or units of a kind that are out of service in an hour. -/
import Derived.Test.YtncbofjgcapcjaaC1
import Derived.Test.YtncbofjgcapcjaaShelf
import Derived.Lib.OwnBridge
import Derived.Sort.OwnSortedInts
namespace Go.Proofs.Ytncbofjgcapcjaa
open Go.RowKit Go.Shelf Go.Lib Go.Sort
attribute [local go_sem] Oper.semAt_some

/-- A slice of ints of the call's own. -/
def OwnI (w : World) (base : Nat) (v : Value) (zs : List Int) : Prop := w.ownsRow base 3 1 v zs.length (zs.map (Value.int .i64))
theorem OwnI.shape {w : World} {base : Nat} {v : Value} {zs : List Int} (h : OwnI w base v zs) :
    (v = .slice none 0 0 ∧ zs = []) ∨ ∃ g cap cur, v = .slice (some ⟨g, 0, none⟩) zs.length cap ∧ base ≤ g ∧ w.heap[g]? = some (.cells cur 3 (0, 0)) ∧ zs.length ≤ cap ∧ cap ≤ maxLen ∧ cur.size = cap * 1 ∧ cur.toList.take zs.length = zs.map (Value.int .i64) ∧ g < w.heap.size := by
  rcases h.2 with ⟨e, h0⟩ | ⟨g, cap, cur, e, hb, hg, h1, h2, h3, h4⟩
  · exact .inl ⟨e, List.eq_nil_of_length_eq_zero h0⟩
  · exact .inr ⟨g, cap, cur, e, hb, hg, h1, h2, h3, by rw [Nat.mul_one] at h4; exact h4, (Array.getElem?_eq_some_iff.1 hg).1⟩
theorem OwnI.slice {w : World} {base : Nat} {v : Value} {zs : List Int} (h : OwnI w base v zs) : ∃ A cap, v = .slice A zs.length cap := by
  rcases h.shape with ⟨e, e2⟩ | ⟨g, cap, cur, e, _⟩
  · exact ⟨none, 0, by rw [e, e2]; rfl⟩
  · exact ⟨_, cap, e⟩
theorem OwnI.rd {w : World} {base cap : Nat} {A : Option Addr} {zs : List Int} (h : OwnI w base (.slice A zs.length cap) zs) : RdI w A zs := fun hl => by
  rcases h.shape with ⟨_, e2⟩ | ⟨g, cap', cur, e, _, hg, _, _, _, h4, _⟩
  · rw [e2] at hl; exact absurd hl (by simp)
  · injection e with e1 _ _
    refine ⟨g, 0, e1, fun i hi => ?_⟩
    have := (holds_of_blockI (ss := zs) hg h4) i (by simpa using hi)
    simpa [hi] using this.1
theorem OwnI.own {w : World} {base : Nat} {v : Value} {zs : List Int} (h : OwnI w base v zs) (r : Nat) (hr : v.ownBlock = some r) : base ≤ r ∧ r < w.heap.size := by
  rcases h.shape with ⟨e, _⟩ | ⟨g, cap', cur, e, hb, _, _, _, _, _, hg⟩
  · rw [e] at hr; cases hr
  · rw [e] at hr; cases hr; exact ⟨hb, hg⟩
theorem OwnI.keep {w w' : World} {base : Nat} {v : Value} {zs : List Int} (h : OwnI w base v zs) {row : Option Nat} (hg : w.grownBy w' row) (hne : ∀ r, v.ownBlock = some r → row ≠ some r) : OwnI w' base v zs :=
  World.ownsRow.kept h hg (by cases e : v.ownBlock with | none => exact .inl rfl | some r => exact .inr (fun e2 => hne r e e2.symm))
theorem OwnI.keepB {w w' : World} {base : Nat} {v : Value} {zs : List Int} (h : OwnI w base v zs) (hB : Below w.heap.size w w') : OwnI w' base v zs :=
  h.keep (row := none) ⟨hB.os, hB.tape, hB.output, hB.size, fun i hi _ => hB.block i hi⟩ (fun r _ e => by cases e)
theorem OwnI.base_le {w : World} {base base' : Nat} {v : Value} {zs : List Int} (h : OwnI w base v zs) (hb : base' ≤ base) : OwnI w base' v zs := by
  refine ⟨h.1, ?_⟩
  rcases h.2 with h2 | ⟨g, cap, cur, e, hb2, r⟩
  · exact .inl h2
  · exact .inr ⟨g, cap, cur, e, by omega, r⟩

theorem own_base {W : World} {base base' : Nat} {e : TypeId} {size : Nat} {v : Value} {k : Nat} {xs : List Value} (h : W.ownsRow base e size v k xs) (hb : base' ≤ base) : W.ownsRow base' e size v k xs := by
  refine ⟨h.1, ?_⟩
  rcases h.2 with h2 | ⟨g, cap, cur, e, hb2, r⟩
  · exact .inl h2
  · exact .inr ⟨g, cap, cur, e, by omega, r⟩
def sortI (zs : List Int) : List Int := zs.mergeSort fun x y => decide (x ≤ y)
theorem sortI_len (zs : List Int) : (sortI zs).length = zs.length := by simp [sortI]

theorem sort_own (base : Nat) (v : Value) (zs : List Int) (w : World) (h : OwnI w base v zs) (hl : zs.length < 4611686018427387904) :
    Calls Try.prog 29 #[v] w fun e w' => e = .returned (.tuple #[]) ∧ OwnI w' base v (sortI zs) ∧ w.grownBy w' v.ownBlock := by
  rcases h.shape with ⟨e, e2⟩ | ⟨g, cap, cur, e, hb, hg, h1, h2, h3, h4, h5⟩
  · subst e; subst e2
    refine (Try.slices_Sort_int_none none 0 w).mono ?_
    rintro e w' ⟨rfl, rfl⟩
    exact ⟨rfl, by simpa [sortI] using h, ⟨rfl, rfl, rfl, Nat.le_refl _, fun _ _ _ => rfl⟩⟩
  · subst e
    refine (Try.slices_Sort_int g 0 cap zs w (holds_of_blockI hg h4) h5 hl).mono ?_
    rintro e w' ⟨rfl, n, os, rfl⟩
    refine ⟨rfl, ?_, grownBy_sortedI _⟩
    have := ownsRow_sortedI (n := n) (os := os) (sortI_len zs) hb hg h1 h2 h3
    rw [OwnI, sortI_len]
    exact this

theorem compact_own (base : Nat) (v : Value) (zs : List Int) (w : World) (h : OwnI w base v zs) :
    Calls Try.prog 30 #[v] w fun e w' => ∃ v', e = .returned v' ∧ OwnI w' base v' (Lib.compact zs) ∧ w.grownBy w' v.ownBlock ∧ (∀ r, v'.ownBlock = some r → v.ownBlock = some r) := by
  rcases h.shape with ⟨e, e2⟩ | ⟨g, cap, cur, e, hb, hg, h1, h2, h3, h4, h5⟩
  · subst e; subst e2
    refine (Try.slices_Compact_int_empty none 0 w).mono ?_
    rintro e w' ⟨rfl, rfl⟩
    exact ⟨_, rfl, h, ⟨rfl, rfl, rfl, Nat.le_refl _, fun _ _ _ => rfl⟩, fun r hr => hr⟩
  · subst e
    refine (Try.slices_Compact_int g 0 cap zs w (holds_of_blockI hg h4) (by unfold maxLen at h2; omega) h1).mono ?_
    rintro e w' ⟨rfl, q, rfl⟩
    have hcl : (Lib.compact zs).length ≤ zs.length := by
      have := List.length_filter_le (keeps zs.toArray) (List.range zs.length)
      simpa [Lib.compact, compactUpTo] using this
    refine ⟨_, rfl, ?_, ⟨rfl, rfl, rfl, by simp [putRow, mapBlock, Sort.ahead], fun k hk hne => ?_⟩, fun r hr => hr⟩
    · have := ownsRow_putRow (q := q) (k := (Lib.compact zs).length) (ys := Lib.compact zs ++ List.replicate (zs.length - (Lib.compact zs).length) 0) h (by simp; omega) hcl
      rw [List.take_left] at this
      exact this
    · have : g ≠ k := fun e => hne (by rw [e]; rfl)
      simp [putRow, mapBlock, Sort.ahead, Array.getElem?_modify, this]

theorem info3 : (Try.prog.info? 3).map (fun i => (i.zero, i.size, i.bytes)) = some (some (.int .i64 0), 1, 8) := by kernel_rfl

theorem covering_any (A : Option Addr) (n cap : Nat) (kd hr : Int) (w : World) :
    Calls Try.prog 37 #[.slice A n cap, .int .u8 kd, .int .i64 hr] w fun e w' => e = .returned (.func (.func 46) #[] #[.pointer (some ⟨w.heap.size, 0, none⟩), .pointer (some ⟨w.heap.size + 1, 0, none⟩), .pointer (some ⟨w.heap.size + 2, 0, none⟩)]) ∧
      w' = ((w.alloc (.cells #[.slice A n cap] 22)).alloc (.cells #[.int .u8 kd] 5)).alloc (.cells #[.int .i64 hr] 3) := by
  go_enter Try.func37, Try.ntmps37
  go_wp2
  go_ret
  exact ⟨rfl, rfl⟩

def setF (kd hr : Int) (d : List O) : List Int := Lib.compact (sortI (coll kd hr d))

set_option maxRecDepth 100000 in
set_option maxHeartbeats 2000000 in
theorem set_any (A : Option Addr) (cap : Nat) (d : List O) (kd hr : Int) (w : World) (hR : RdO w A d) (hlen : d.length ≤ 1000000000000) :
    Calls Try.prog 27 #[.slice A d.length cap, .int .u8 kd, .int .i64 hr] w fun e w' => ∃ v, e = .returned v ∧ OwnI w' w.heap.size v (setF kd hr d) ∧ Below w.heap.size w w' := by
  obtain ⟨i0, hi, hz0, hz1, hz2⟩ := info_parts info3
  have HR := Lib.hid hR
  clear hR
  refine (callsIn_wide (n := 5)).1 ?_
  refine callsIn_of_wp_marks Try.func27 rfl trivial ?_ rfl
  simp only [Try.ntmps27, List.size_toArray, List.length_cons, List.length_nil, Nat.reduceAdd, Nat.reduceSub, Array.replicate_succ, Array.replicate_zero, List.push_toArray, List.append_toArray, List.nil_append, List.cons_append]
  gi_wp2
  refine ⟨trivial, ?_⟩
  refine CallsIn.mono (callsIn_wide.2 (covering_any _ _ _ _ _ _)) ?_
  rintro e w' ⟨rfl, rfl⟩
  gi_wp2
  have bO := Boxed.new w 29 (.slice none 0 0)
  have hB0 : Below w.heap.size w (w.alloc (.cells #[.slice none 0 0] 29)) := (Below.refl _ w).alloc (Nat.le_refl _) _
  obtain ⟨wS, hwS⟩ : ∃ wS, wS = (((w.alloc (.cells #[.slice none 0 0] 29)).alloc (.cells #[.slice A d.length cap] 22)).alloc (.cells #[.int .u8 kd] 5)).alloc (.cells #[.int .i64 hr] 3) := ⟨_, rfl⟩
  have hsz : wS.heap.size = w.heap.size + 4 := by rw [hwS]; simp
  have hBS : Below w.heap.size w wS := by rw [hwS]; exact ((hB0.alloc (by simp) _).alloc (by simp; omega) _).alloc (by simp; omega) _
  have bS : Boxed wS w.heap.size 29 (.slice none 0 0) := by rw [hwS]; exact ((bO.alloc _).alloc _).alloc _
  have b1 : wS.cell? ⟨w.heap.size + 1, 0, none⟩ = some (.slice A d.length cap) := by rw [hwS]; simp [go_sem]
  have b2 : wS.cell? ⟨w.heap.size + 2, 0, none⟩ = some (.int .u8 kd) := by rw [hwS]; simp [go_sem]
  have b3 : wS.cell? ⟨w.heap.size + 3, 0, none⟩ = some (.int .i64 hr) := by rw [hwS]; simp [go_sem]
  rw [← hwS]
  clear hwS bO hB0
  have h1 : 1 ≤ 5 := by omega
  refine wpIn_rangeFunc_ownG (n := 5) rfl h1 (gf := 46) (lb := #[.pointer (some ⟨w.heap.size + 1, 0, none⟩), .pointer (some ⟨w.heap.size + 2, 0, none⟩), .pointer (some ⟨w.heap.size + 3, 0, none⟩)]) rfl trivial (enters_of Try.func46 (by kernel_rfl) rfl)
    (cov_stops 4 (by omega) A cap d kd hr w wS w.heap.size rfl (by omega) HR.out hBS (by omega) b1 b2 b3) KpS.t ?hKb (Below.refl _ _) (fun _ => rfl)
    (fun (pre : List Int) W => ((∃ v, Boxed W w.heap.size 29 v ∧ W.ownsRow wS.heap.size 3 1 v pre.length (pre.map (Value.int .i64)) ∧ True) ∧ Below w.heap.size w W) ∧ wS.heap.size ≤ W.heap.size)
    (fun _ _ _ => False)
    (OwnFrom.and (OwnFrom.and (Own.from (holdsRow_own wS.heap.size w.heap.size 29 3 1 (fun (pre : List Int) => pre.length) (fun pre => pre.map (Value.int .i64)) (fun _ _ => True)) _) (ownFrom_below (Nat.le_refl _) (by omega))) (fun s X Y row hs hg hr => Nat.le_trans hs hg.size))
    (fun _ _ _ _ _ hs _ _ => hs)
    ⟨⟨⟨_, bS, World.ownsRow_nil _ _ _ _, trivial⟩, hBS⟩, Nat.le_refl _⟩
    (fun x => { tmps := #[.slice A d.length cap, .int .u8 kd, .int .i64 hr, undef, undef, undef, .slice none 0 0, .pointer (some ⟨w.heap.size, 0, none⟩), .int .i64 x, .slice A d.length cap, .int .u8 kd, .int .i64 hr, .func (.func 46) #[] #[.pointer (some ⟨w.heap.size + 1, 0, none⟩), .pointer (some ⟨w.heap.size + 2, 0, none⟩), .pointer (some ⟨w.heap.size + 3, 0, none⟩)], .int .i64 x, undef, undef, undef, undef, undef, undef, undef, undef], defers := [] }) ?assign ?body ?done ?stop
  case hKb =>
    intro W l o o' hl ho hc hw
    exact ⟨belowK_b (w := wS) (by omega) W l o o' hl ho hc hw, fun k _ hk => World.putObj_heap_other (fun e => by omega)⟩
  case assign =>
    intro l x W K hK
    gi_wp2
    exact hK
  case body =>
    rintro l pre x W ⟨⟨⟨v, hv, hrow, _⟩, hB⟩, hS⟩ hlt
    have hc := hv.cell
    gi_wp2_with (gi_at_builtin; refine wpListIn_append_own _ rfl _ _ 29 rfl wS.heap.size 3 i0 (.int .i64 0) 1 8 Try.underlying29 hi hz0 hz1 hz2 rfl (by decide) _ _ _ rfl (hrow.alloc _) ⟨W.heap.size, 0, none⟩ 1 1 [.int .i64 x] rfl rfl (cell_one_new _ _ _) (by simp [Value.oneCell']) (by unfold maxLen; omega) (by omega) (by simp; omega) ?_; intro v' w1 hown' hgrow _; obtain ⟨g', cap', rfl⟩ := ownsRow_succ hown'; obtain ⟨hv1, hv2, hr2, hk2, hb2⟩ := hv.appended (by decide) (OwnI.base_le (zs := pre) hrow (by omega)) hB.size (Nat.le_refl _) (own_base hown' (by omega)) hgrow; have hc1 := hv1.cell; have hf1 := hv1.frozen)
    have hg' : wS.heap.size ≤ g' := by
      rcases hown'.2 with ⟨h, _⟩ | ⟨g, c, cur, e, hb, _⟩
      · cases h
      · cases e; exact hb
    have hvo : ∀ r, v.ownBlock = some r → wS.heap.size ≤ r := fun r hr => by
      rcases hrow.2 with ⟨h, _⟩ | ⟨g, c, cur, e, hb, _⟩
      · rw [h] at hr; cases hr
      · rw [e] at hr; cases hr; exact hb
    refine ⟨hk2.from _, ⟨hb2, fun k k1 k2 => ?_⟩, ⟨⟨_, hv2, ?_, trivial⟩, hB.trans hb2⟩, ?_⟩
    · rw [Below.heap_setCell _ _ _ _ (by show k ≠ w.heap.size; omega), hgrow.block k (by simp; omega) (fun e => by have := hvo k e.symm; omega), Below.heap_alloc _ _ _ (by omega)]
    · have := hown'.kept (grownBy_setCell' w1 w.heap.size (.slice (some ⟨g', 0, none⟩) (pre.length + 1) cap')) (.inr (by simp [Value.ownBlock]; omega))
      simpa using this
    · have := hgrow.size
      simp at this ⊢
      omega
  case done =>
    rintro D ys W hD rfl ⟨⟨⟨v, hv, hrow, _⟩, hB⟩, hS⟩ hK
    have hc := hv.cell
    have ho : OwnI W wS.heap.size v (coll kd hr d) := hrow
    have hcl := coll_len kd hr d
    have HO := Lib.hid ho
    clear hrow ho hv
    gi_wp2
    refine ⟨trivial, ?_⟩
    refine CallsIn.mono (callsIn_wide.2 (sort_own wS.heap.size v _ W HO.out (by omega))) ?_
    rintro e w1 ⟨rfl, ho1, hg1⟩
    have hc1 : w1.cell? ⟨w.heap.size, 0, none⟩ = some v := by
      rw [World.cell?_of_block (w := W) (a := ⟨w.heap.size, 0, none⟩) (hg1.block _ (by show w.heap.size < W.heap.size; omega) (fun e => by have := (HO.out.own _ e.symm).1; simp at this; omega))]
      exact hc
    have hK1 : w1.heap[D]? = some (.deferred (some [])) := by
      rw [hg1.block D (Array.getElem?_eq_some_iff.1 hK).1 (fun e => ?_)]
      · exact hK
      · rcases HO.out.shape with ⟨e2, _⟩ | ⟨g, cap', cur, e2, _, hg, _⟩
        · rw [e2] at e; cases e
        · rw [e2] at e; cases e; rw [hK] at hg; cases hg
    have HO1 := Lib.hid ho1
    have HG1 := Lib.hid hg1
    have HK1 := Lib.hid hK1
    clear ho1 hg1 hK1 hc hK
    gi_wp2
    refine ⟨trivial, ?_⟩
    refine CallsIn.mono (callsIn_wide.2 (compact_own wS.heap.size v _ w1 HO1.out)) ?_
    rintro e w2 ⟨v2, rfl, ho2, hg2, hv2⟩
    have HO2 := Lib.hid ho2
    have HG2 := Lib.hid hg2
    have HV2 := Lib.hid hv2
    have hK2 : w2.heap[D]? = some (.deferred (some [])) := by
      rw [hg2.block D (Array.getElem?_eq_some_iff.1 HK1.out).1 (fun e => ?_)]
      · exact HK1.out
      · rcases HO1.out.shape with ⟨e2, _⟩ | ⟨g, cap', cur, e2, _, hg, _⟩
        · rw [e2] at e; cases e
        · rw [e2] at e; cases e; rw [HK1.out] at hg; cases hg
    have HK2 := Lib.hid hK2
    clear ho2 hg2 hv2 hK2
    gi_wp2
    refine ⟨by simp, .inl ⟨_, _, rfl, run_takeDeferred HK2.out, ?_⟩⟩
    refine ⟨_, results_tmp rfl _ _ _, v2, rfl, (OwnI.base_le (ownsRow_putObj HO2.out _ HK2.out rfl) (by omega)), ?_⟩
    have hBW := hB.trans (((Below.refl w.heap.size W).grown HG1.out (by omega) (fun k e => by have := (HO.out.own k e).1; omega)).trans ((Below.refl w.heap.size w1).grown HG2.out (by have := HG1.out.size; omega) (fun k e => by have := (HO1.out.own k e).1; omega)))
    exact hBW.trans (belowK_b (w := w) (Nat.le_refl _) w2 D _ _ (by omega) HK2.out rfl rfl)
  case stop =>
    rintro D c pre W _ _ h _
    exact h.elim

end Go.Proofs.Ytncbofjgcapcjaa
