/- OutageForm, walked. -/
import Derived.Test.YtncbofjgcapcjaaA7
import Derived.Test.YtncbofjgcapcjaaL4
import Derived.Deep.RegionHeld3
namespace Go.Proofs.Ytncbofjgcapcjaa
open Go.RowKit Go.Shelf Go.Lib Go.Sort

/-- A call of 'own' inside a region that draws. -/
theorem step_own {ops : Array Oper} {o : Oper} {a : Act} {w : World} {K : Act → World → Prop} {Q : Exit → Act → World → Prop} {E : Prop} (hgd : o.guard = none) (x : Operand) (ho : o.op = .call { callee := .value (.func 9), args := #[x], argTypes := #[22] })
    (A : Option Addr) (n c : Nat) (d : List O) (hx : a.eval x = .slice A n c) (hR : RdO w A d) (hn : d.length = n) (hc : A = none → c = 0) (hl : n ≤ 1000000000)
    (h : ∀ v w', OwnO w' w.heap.size v d → Below w.heap.size w w' → K (a.put o.dst v) w') : if Region.wanted o (yielded ops a.tmps) = true then Oper.wp Try.prog o a w K Q else E := by
  have hw : Region.wanted o (yielded ops a.tmps) = true := by simp [Region.wanted, hgd]
  rw [if_pos hw]
  subst hn
  have H := own_any A c d w hR hc (by omega)
  unfold Oper.wp execOp
  simp [ho, resolve, invoke, hx]
  refine H.mono ?_
  rintro e w' ⟨v, rfl, h1, h2⟩
  exact h v w' h1 h2

/-- An append under a guard that holds. -/
theorem list_appendG {w : World} {ops : Array Oper} {rest : List Oper} {o : Oper} {a : Act} {Q : Exit → Act → World → Prop} (hw : Region.wanted o (yielded ops a.tmps) = true) (s x : Operand) (ho : o.op = .call { callee := .builtin .append, args := #[s, x], argTypes := #[22, 22] })
    (base : Nat) (v : Value) (A : Option Addr) (m c : Nat) (xs ys : List O) (hs : a.eval s = v) (hx : a.eval x = .slice A m c) (hv : OwnO w base v xs) (hy : RdO w A ys) (hm : ys.length = m) (hA : A = none → c = 0) (hl : xs.length + ys.length ≤ 1000000000000) (hbase : base ≤ w.heap.size)
    (h : ∀ v' w', OwnO w' base v' (xs ++ ys) → w.grownBy w' v.ownBlock → wpList Try.prog ops Q rest (a.put o.dst v') w') : wpList Try.prog ops Q (o :: rest) a w :=
  wpList_step fun K hK => by
    rw [if_pos hw]
    exact wp_appendO s x ho base v A m c xs ys hs hx hv hy hm hA hl hbase fun v' w' h2 h3 => hK _ _ (h v' w' h2 h3)

theorem getD_inO {d : List O} {k : Nat} (hk : k < d.length) : d.getD k default ∈ d := by
  have : d.getD k default = d[k] := by simp [List.getD_eq_getElem?_getD, hk]
  rw [this]; exact List.getElem_mem _
theorem rdI7 (w : World) (a b c d e f g : Int) : RdI (w.alloc (.cells #[.int .i64 a, .int .i64 b, .int .i64 c, .int .i64 d, .int .i64 e, .int .i64 f, .int .i64 g] 3)) (some ⟨w.heap.size, 0, none⟩) [a, b, c, d, e, f, g] := rdI_of fun i hi => by
  have h : i = 0 ∨ i = 1 ∨ i = 2 ∨ i = 3 ∨ i = 4 ∨ i = 5 ∨ i = 6 := by simp at hi; omega
  rcases h with rfl | rfl | rfl | rfl | rfl | rfl | rfl <;> simp [go_sem]

set_option maxHeartbeats 8000000 in
set_option maxRecDepth 100000 in
theorem law6_any (A : Option Addr) (cap : Nat) (d : List O) (hr : Int) (by_ : Int) (w : World) (hR : RdO w A d) (hcap : d.length ≤ cap) (hn : A = none → cap = 0) (hg : ∀ x ∈ d, rng x) (hb0 : 0 ≤ by_) (hb1 : by_ ≤ 255) :
    Calls Try.prog 6 #[.slice A d.length cap, .int .i64 hr, .int .u8 by_] w fun r w' => r = .returned (.bool true) ∧ Below w.heap.size w w' := by
  have HR := Lib.hid hR
  have HG := Lib.hid hg
  have HN := Lib.hid hn
  clear hR hg hn
  by_cases hl : 60 < d.length
  · have l1 : decide ((60 : Int) < (d.length : Int)) = true := by simp; omega
    have l2 : decide (60 < d.length) = true := by simp; omega
    go_enter Try.func6, Try.ntmps6
    go_wp2_with fail
    refine (awake_any _).mono ?_
    rintro r w1 ⟨rfl, b1⟩
    go_wp2_with fail
    go_ret
    exact ⟨rfl, b1⟩
  · have l1 : decide ((60 : Int) < (d.length : Int)) = false := by simp; omega
    have l2 : decide (60 < d.length) = false := by simp; omega
    obtain ⟨K, hK⟩ : ∃ K : Nat, Int.tmod by_ ((d.length : Int) + 1) = (K : Int) ∧ K ≤ d.length := by
      refine ⟨(Int.tmod by_ ((d.length : Int) + 1)).toNat, ?_, ?_⟩
      · have := Int.tmod_nonneg ((d.length : Int) + 1) hb0
        omega
      · have := Int.tmod_lt_of_pos by_ (b := (d.length : Int) + 1) (by omega)
        omega
    obtain ⟨hK1, hK2⟩ := hK
    have wf1 : IntKind.i64.wrap by_ = by_ := by rw [IntKind.wrap_i64]; omega
    have wf2 : IntKind.i64.wrap ((d.length : Int) + 1) = (d.length : Int) + 1 := by rw [IntKind.wrap_i64]; omega
    have wf3 : IntKind.i64.wrap (K : Int) = (K : Int) := by rw [IntKind.wrap_i64]; omega
    have wf4 : ((d.length : Int) + 1 == 0) = false := by simp; omega
    have wf5 : ¬ ((d.length : Int) + 1 = 0) := by omega
    go_enter Try.func6, Try.ntmps6
    go_wp2_with fail
    refine (awake_any _).mono ?_
    rintro r w1 ⟨rfl, b1⟩
    have H2 := Lib.hid (Normal_any A cap d w1 (HR.out.keep b1) (by omega) HG.out)
    have B1 := Lib.hid b1
    clear b1
    go_wp2_with fail
    refine H2.out.mono ?_
    rintro r w2 ⟨v2, rfl, o2, b2⟩
    have b2' := B1.out.trans (b2.mono B1.out.size)
    have B2 := Lib.hid b2'
    have O2 := Lib.hid o2
    clear o2 b2 b2' B1 H2
    go_wp2_with fail
    go_cut [9] from 32 to 39 (fun s9 wc => Hid (OwnO wc w2.heap.size s9 (d.drop K ++ d.take K)) ∧ Hid (Below w2.heap.size w2 wc))
    case first =>
      by_cases hd0 : d = []
      · subst hd0
        obtain rfl : K = 0 := by simpa using hK2
        cases A with
        | none =>
          obtain rfl := HN.out rfl
          go_region_law (first | (refine step_own rfl (.tmp 34) rfl none (0) (0) ([] : List O) (by rfl) (fun h => absurd h (by simp)) rfl (fun _ => rfl) (by first | (simp; done) | omega) ?_; intro v35 w35 o35 b35; have O35 := Lib.hid o35; have B35 := Lib.hid b35; clear o35 b35) | (refine step_appendO rfl (.tmp 35) (.tmp 38) rfl w2.heap.size v35 none (0) (0) ([] : List O) ([] : List O) (by rfl) (by rfl) O35.out (fun h => absurd h (by simp)) rfl (fun _ => rfl) (by first | (simp; done) | (simp; omega)) B35.out.size ?_; intro v39 w39 o39 g39; have O39 := Lib.hid o39; have G39 := Lib.hid g39; clear o39 g39))
          go_wp2_with fail
          go_meet
          case rel => exact ⟨O39.out, ((pw_below_drewN (Below.refl _ _) 1).trans B35.out).grown G39.out B35.out.size (fun k e => (O35.out.own k e).1)⟩
        | some aa =>
          go_region_law (first | (refine step_own rfl (.tmp 34) rfl (some aa) (0) (cap) ([] : List O) (by rfl) (fun h => absurd h (by simp)) rfl (fun h => by cases h) (by first | (simp; done) | omega) ?_; intro v35 w35 o35 b35; have O35 := Lib.hid o35; have B35 := Lib.hid b35; clear o35 b35) | (refine step_appendO rfl (.tmp 35) (.tmp 38) rfl w2.heap.size v35 (some aa) (0) (cap) ([] : List O) ([] : List O) (by rfl) (by rfl) O35.out (fun h => absurd h (by simp)) rfl (fun h => by cases h) (by first | (simp; done) | (simp; omega)) B35.out.size ?_; intro v39 w39 o39 g39; have O39 := Lib.hid o39; have G39 := Lib.hid g39; clear o39 g39))
          go_wp2_with fail
          go_meet
          case rel => exact ⟨O39.out, ((pw_below_drewN (Below.refl _ _) 1).trans B35.out).grown G39.out B35.out.size (fun k e => (O35.out.own k e).1)⟩
      · have hp : 0 < d.length := List.length_pos_iff.2 hd0
        obtain ⟨bb, oo, rfl, _⟩ := HR.out hp
        have RD : RdO w2.drew (if cap = K then some ⟨bb, oo, none⟩ else some ⟨bb, oo + K * 4, none⟩) (d.drop K) := by
          by_cases e : cap = K
          · intro h; simp at h; omega
          · rw [if_neg e]; exact rd_dropG (HR.out.keep (pw_below_drewN B2.out 1)) K
        have RT : ∀ w', Below w2.heap.size w2 w' → RdO w' (some ⟨bb, oo, none⟩) (d.take K) := fun w' h => rd_take (HR.out.keep (B2.out.trans (h.mono B2.out.size))) K
        have RD' := Lib.hid RD
        have RT' := Lib.hid RT
        have hdl : (d.drop K).length = d.length - K := by simp
        have htl : (d.take K).length = K := by simp; omega
        have i1 : (0 : Int) ≤ (K : Int) := by omega
        have i2 : (K : Int) ≤ (d.length : Int) := by omega
        have i3 : (K : Int) ≤ (cap : Int) := by omega
        have HDL := Lib.hid hdl
        have HTL := Lib.hid htl
        clear RD RT hdl htl hd0
        go_region_law (first | (refine step_own rfl (.tmp 34) rfl (if cap = K then some ⟨bb, oo, none⟩ else some ⟨bb, oo + K * 4, none⟩) (d.length - K) (cap - K) (d.drop K) (by rfl) RD'.out HDL.out (fun h => by split at h <;> cases h) (by first | (simp; done) | omega) ?_; intro v35 w35 o35 b35; have O35 := Lib.hid o35; have B35 := Lib.hid b35; clear o35 b35 RD'; generalize (if cap = K then (some ⟨bb, oo, none⟩ : Option Addr) else some ⟨bb, oo + K * 4, none⟩) = A52) | (refine step_appendO rfl (.tmp 35) (.tmp 38) rfl w2.heap.size v35 (some ⟨bb, oo, none⟩) (K) (cap) (d.drop K) (d.take K) (by rfl) (by rfl) O35.out (RT'.out _ ((pw_below_drewN (Below.refl _ _) 1).trans B35.out)) HTL.out (fun h => by cases h) (by first | (simp; done) | (simp; omega)) B35.out.size ?_; intro v39 w39 o39 g39; have O39 := Lib.hid o39; have G39 := Lib.hid g39; clear o39 g39))
        go_wp2_with fail
        go_meet
        case rel => exact ⟨O39.out, ((pw_below_drewN (Below.refl _ _) 1).trans B35.out).grown G39.out B35.out.size (fun k e => (O35.out.own k e).1)⟩
    case rest =>
      obtain ⟨O9, B9⟩ := hcut
      clear hK1 wf1 wf2 wf3 wf4 wf5
      have nlen := NF_len d
      have tlen : (d.drop K ++ d.take K).length ≤ 60 := by simp; omega
      have e1 := NF_self HG.out
      have e2 := NF_turn HG.out K
      have e3 := NF_twice HG.out K
      have e4 := NF_join HG.out
      have r1 := NF_rng HG.out
      have r2 := rng_turn HG.out K
      have nm := (NF_spec HG.out).1
      have nc := (NF_spec HG.out).2
      have O2' := O2.out.keepB B9.out
      have O9' := O9.out
      have NM := Lib.hid nm
      have NC : Hid (∀ k w h, cov (NF d) k w h ↔ cov d k w h) := nc
      have b9 := B2.out.trans (B9.out.mono B2.out.size)
      have hs2 := B2.out.size
      have hs9 := B9.out.size
      have R1 := Lib.hid r1
      clear nm nc O2 O9 B9 r1
      generalize d.drop K ++ d.take K = T at O9' e2 e3 r2 tlen
      generalize NF d = N at O2' e1 e2 e3 e4 nlen R1 NM NC
      have R2 := Lib.hid r2
      have E2 := Lib.hid e2
      have E3 := Lib.hid e3
      have E4 := Lib.hid e4
      have E1 := Lib.hid e1
      clear r2 e1 e2 e3 e4
      obtain ⟨A2, c2, rfl, _⟩ := O2'.slice
      obtain ⟨A9, c9, rfl, hc9, hn9, _⟩ := O9'.slice
      have B9 := Lib.hid b9
      have q0 : decide ((d.length : Int) < (N.length : Int)) = false := by simp; omega
      have q1 : decide (d.length < N.length) = false := by simp; omega
      have H10 := Lib.hid (Normal_own _ _ N wc O2' (by omega) R1.out)
      rw [E1.out] at H10
      have O2 := Lib.hid O2'
      have O9 := Lib.hid O9'
      clear O2' O9' b9
      go_wp2_with fail
      refine H10.out.mono ?_
      rintro r w10 ⟨v10, rfl, o10, b10⟩
      have O2a := Lib.hid (O2.out.keepB b10)
      have O9a := Lib.hid (O9.out.keepB b10)
      have Ba := Lib.hid (B9.out.trans (b10.mono B9.out.size))
      have H11 := Lib.hid (same_own _ _ _ _ _ _ w10 o10 O2a.out rfl (by omega))
      clear o10 b10 H10 O2 O9 B9
      go_wp2_with fail
      refine H11.out.mono ?_
      rintro r w11 ⟨rfl, b11⟩
      have O2b := Lib.hid (O2a.out.keepB b11)
      have O9b := Lib.hid (O9a.out.keepB b11)
      have Bb := Lib.hid (Ba.out.trans (b11.mono Ba.out.size))
      have H12 := Lib.hid (Normal_own _ _ T w11 O9b.out (by omega) R2.out)
      rw [E2.out] at H12
      clear b11 H11 O2a O9a Ba
      go_wp2_with fail
      refine H12.out.mono ?_
      rintro r w12 ⟨v12, rfl, o12, b12⟩
      have O2c := Lib.hid (O2b.out.keepB b12)
      have O9c := Lib.hid (O9b.out.keepB b12)
      have Bc := Lib.hid (Bb.out.trans (b12.mono Bb.out.size))
      have H13 := Lib.hid (same_own _ _ _ _ _ _ w12 o12 O2c.out rfl (by omega))
      clear o12 b12 H12 O2b O9b Bb
      go_wp2_with fail
      refine H13.out.mono ?_
      rintro r w13 ⟨rfl, b13⟩
      have O2d := Lib.hid (O2c.out.keepB b13)
      have O9d := Lib.hid (O9c.out.keepB b13)
      have Bd := Lib.hid (Bc.out.trans (b13.mono Bc.out.size))
      have H14 := Lib.hid (own_any A cap d w13 (HR.out.keep Bd.out) HN.out (by omega))
      clear b13 H13 O2c O9c Bc
      go_wp2_with fail
      refine H14.out.mono ?_
      rintro r w14 ⟨v14, rfl, o14, b14⟩
      have O2e := Lib.hid (O2d.out.keepB b14)
      have O9e := Lib.hid (O9d.out.keepB b14)
      have O14 := Lib.hid o14
      have s14 := b14.size
      have Be := Lib.hid (Bd.out.trans (b14.mono Bd.out.size))
      have hb2 : w13.heap.size ≤ w14.heap.size := s14
      have l2 : Hid (∀ r, (Value.slice A2 N.length c2).ownBlock = some r → r < w13.heap.size) := fun r h => (O2d.out.own r h).2
      have l9 : Hid (∀ r, (Value.slice A9 T.length c9).ownBlock = some r → r < w13.heap.size) := fun r h => (O9d.out.own r h).2
      clear o14 b14 H14 O2d O9d
      have TL := Lib.hid tlen
      have NL := Lib.hid nlen
      have dl := Lib.hid (show d.length ≤ 60 by omega)
      go_wp2_with (refine list_appendG (by first | rfl | (go_simp; done)) (.tmp 61) (.tmp 62) rfl w13.heap.size _ A9 T.length c9 d T (by rfl) (by rfl) O14.out O9e.out.rd rfl hn9 (by omega) hb2 ?_; intro v15 w15 o15 g15; have O15 := Lib.hid o15; have G15 := Lib.hid g15; clear o15 g15)
      have Bf := Lib.hid (Be.out.grown G15.out Be.out.size (fun k e => by have := (O14.out.own k e).1; have := Bd.out.size; omega))
      have O2f := Lib.hid (O2e.out.keep G15.out (fun r hr q => by have := l2.out r hr; have := (O14.out.own r q).1; omega))
      have H16 := Lib.hid (Normal_own _ _ (d ++ T) w15 O15.out (by have := TL.out; have := dl.out; simp; omega) (rng_app HG.out R2.out))
      rw [E3.out] at H16
      clear O14 G15 O15 O2e O9e Be Bd l2 l9 hb2 s14
      refine H16.out.mono ?_
      rintro r w16 ⟨v16, rfl, o16, b16⟩
      have O2g := Lib.hid (O2f.out.keepB b16)
      have Bg := Lib.hid (Bf.out.trans (b16.mono Bf.out.size))
      have H17 := Lib.hid (same_own _ _ _ _ _ _ w16 o16 O2g.out rfl (by omega))
      clear o16 b16 H16 O2f Bf
      go_wp2_with fail
      refine H17.out.mono ?_
      rintro r w17 ⟨rfl, b17⟩
      have O2h := Lib.hid (O2g.out.keepB b17)
      have Bh := Lib.hid (Bg.out.trans (b17.mono Bg.out.size))
      have H18 := Lib.hid (own_any A cap d w17 (HR.out.keep Bh.out) HN.out (by have := dl.out; omega))
      clear b17 H17 O2g Bg
      go_wp2_with fail
      refine H18.out.mono ?_
      rintro r w18 ⟨v18, rfl, o18, b18⟩
      have O2i := Lib.hid (O2h.out.keepB b18)
      have O18 := Lib.hid o18
      have s18 := b18.size
      have Bi := Lib.hid (Bh.out.trans (b18.mono Bh.out.size))
      have l2 : Hid (∀ r, (Value.slice A2 N.length c2).ownBlock = some r → r < w17.heap.size) := fun r h => (O2h.out.own r h).2
      obtain ⟨_, hn2⟩ : (N.length ≤ c2 ∧ (A2 = none → c2 = 0)) := by
        obtain ⟨A', c', e, h1, h2, _⟩ := O2i.out.slice
        cases e
        exact ⟨h1, h2⟩
      clear o18 b18 H18 O2h
      go_wp2_with (refine list_appendG (by first | rfl | (go_simp; done)) (.tmp 71) (.tmp 72) rfl w17.heap.size _ A2 N.length c2 d N (by rfl) (by rfl) O18.out O2i.out.rd rfl hn2 (by have := dl.out; omega) s18 ?_; intro v19 w19 o19 g19; have O19 := Lib.hid o19; have G19 := Lib.hid g19; clear o19 g19)
      have Bj := Lib.hid (Bi.out.grown G19.out Bi.out.size (fun k e => by have := (O18.out.own k e).1; have := Bh.out.size; omega))
      have O2j := Lib.hid (O2i.out.keep G19.out (fun r hr q => by have := l2.out r hr; have := (O18.out.own r q).1; omega))
      have H20 := Lib.hid (Normal_own _ _ (d ++ N) w19 O19.out (by have := NL.out; have := dl.out; simp; omega) (rng_app HG.out R1.out))
      rw [E4.out] at H20
      clear O18 G19 O19 O2i Bi Bh l2 s18 hn2
      refine H20.out.mono ?_
      rintro r w20 ⟨v20, rfl, o20, b20⟩
      have O2k := Lib.hid (O2j.out.keepB b20)
      have Bk := Lib.hid (Bj.out.trans (b20.mono Bj.out.size))
      have H21 := Lib.hid (same_own _ _ _ _ _ _ w20 o20 O2k.out rfl (by omega))
      clear o20 b20 H20 O2j Bj
      go_wp2_with fail
      refine H21.out.mono ?_
      rintro r w21 ⟨rfl, b21⟩
      have O2l := Lib.hid (O2k.out.keepB b21)
      have Bl := Lib.hid (Bk.out.trans (b21.mono Bk.out.size))
      clear b21 H21 O2k Bk E1 E2 E3 E4 R1 R2 TL
      go_wp2_with fail
      go_loopw [10] (fun i wz => ∃ q : Nat, (q ≤ N.length) ∧ i = .int .i64 ((q : Int) + 1) ∧ Hid (Below w21.heap.size w21 wz)) (fun i _ => N.length + 1 - (intOf i).toNat)
      case atStart => exact ⟨0, Nat.zero_le _, by first | rfl | simp, Below.refl _ _⟩
      case round =>
        obtain ⟨q, hq, rfl, HB⟩ := hrel
        by_cases hlt : q + 1 < N.length
        · have q0 : (0 : Int) ≤ (q : Int) := by omega
          have qn : (q : Int) + 1 < (N.length : Int) := by omega
          have qm : (q : Int) < (N.length : Int) := by omega
          have q1 : (0 : Int) ≤ (q : Int) + 1 := by omega
          have qt : ((q : Int) + 1).toNat = q + 1 := by omega
          have qw : IntKind.i64.wrap (q : Int) = (q : Int) := by rw [IntKind.wrap_i64]; have := NL.out; have := dl.out; omega
          have O := O2l.out.keepB HB.out
          obtain ⟨g, rfl⟩ : ∃ g, A2 = some ⟨g, 0, none⟩ := by
            rcases O.shape with ⟨e, e2⟩ | ⟨g, _, _, e, _⟩
            · rw [e2] at hlt; exact absurd hlt (by simp)
            · exact ⟨g, by injection e⟩
          have hx := (O.cells q (by omega)).1
          have hy := (O.cells (q + 1) hlt).1
          have hsep := nf_pair NM.out q hlt
          have hgy := NM.out.good _ (getD_inO hlt)
          have hgx := NM.out.good _ (getD_inO (show q < N.length by omega))
          generalize N.getD q default = x at hx hsep hgx
          generalize N.getD (q + 1) default = y at hy hsep hgy
          obtain ⟨a0, a1, a2, a3⟩ := hx
          obtain ⟨b0, b1, b2, b3⟩ := hy
          have BL : Hid (∀ o1 o2, Below w21.heap.size w21 (((wr.alloc o1).alloc o2).drew)) := fun o1 o2 => ((HB.out.alloc HB.out.size o1).alloc (by have := HB.out.size; simp; omega) o2).drew
          have k0 := World.new_ne wr _ a0
          have k1 := World.new_ne wr _ a1
          have k2 := World.new_ne wr _ a2
          have k3 := World.new_ne wr _ a3
          have k4 := World.new_ne wr _ b0
          have k5 := World.new_ne wr _ b1
          have k6 := World.new_ne wr _ b2
          have k7 := World.new_ne wr _ b3
          have gy1 := hgy.1.1
          have gy2 := hgy.1.2.1
          have gy3 := hgy.1.2.2.1
          have gy4 := hgy.1.2.2.2
          have gx3 := hgx.1.2.2.1
          clear O hgy hgx
          rcases hsep with hs1 | ⟨hs1, hs2 | ⟨hs2, hs3⟩⟩
          · have f1 : decide (y.k < x.k) = false := by simp; omega
            have f2 : (x.k == y.k) = false := by simp; omega
            skip
            go_wp2_with fail
            go_region_held3 (fun w' => (w'.cell? ⟨g, q * 4, none⟩ = some (.int .u8 x.k) ∧ w'.cell? ⟨g, q * 4 + 1, none⟩ = some (.int .i64 x.wh) ∧ w'.cell? ⟨g, q * 4 + 2, none⟩ = some (.int .i64 x.f) ∧ w'.cell? ⟨g, q * 4 + 3, none⟩ = some (.int .i64 x.t)) ∧ w'.cell? ⟨g, (q + 1) * 4, none⟩ = some (.int .u8 y.k) ∧ w'.cell? ⟨g, (q + 1) * 4 + 1, none⟩ = some (.int .i64 y.wh) ∧ w'.cell? ⟨g, (q + 1) * 4 + 2, none⟩ = some (.int .i64 y.f) ∧ w'.cell? ⟨g, (q + 1) * 4 + 3, none⟩ = some (.int .i64 y.t)) (go_keep) (fail)
            all_goals (clear a0 a1 a2 a3 b0 b1 b2 b3 k0 k1 k2 k3 k4 k5 k6 k7)
            all_goals (go_wp2_with fail; go_roundw; (case rel => exact ⟨q + 1, by omega, by go_num, BL.out _ _⟩); (case measure => simp [intOf]; omega))
          · have f1 : decide (y.k < x.k) = false := by simp; omega
            have f2 : (x.k == y.k) = true := by simp; omega
            have f3 : decide (y.wh < x.wh) = false := by simp; omega
            have f4 : (x.wh == y.wh) = false := by simp; omega
            clear hs1
            go_wp2_with fail
            go_region_held3 (fun w' => (w'.cell? ⟨g, q * 4, none⟩ = some (.int .u8 x.k) ∧ w'.cell? ⟨g, q * 4 + 1, none⟩ = some (.int .i64 x.wh) ∧ w'.cell? ⟨g, q * 4 + 2, none⟩ = some (.int .i64 x.f) ∧ w'.cell? ⟨g, q * 4 + 3, none⟩ = some (.int .i64 x.t)) ∧ w'.cell? ⟨g, (q + 1) * 4, none⟩ = some (.int .u8 y.k) ∧ w'.cell? ⟨g, (q + 1) * 4 + 1, none⟩ = some (.int .i64 y.wh) ∧ w'.cell? ⟨g, (q + 1) * 4 + 2, none⟩ = some (.int .i64 y.f) ∧ w'.cell? ⟨g, (q + 1) * 4 + 3, none⟩ = some (.int .i64 y.t)) (go_keep) (fail)
            all_goals (clear a0 a1 a2 a3 b0 b1 b2 b3 k0 k1 k2 k3 k4 k5 k6 k7)
            all_goals (go_wp2_with fail; go_roundw; (case rel => exact ⟨q + 1, by omega, by go_num, BL.out _ _⟩); (case measure => simp [intOf]; omega))
          · have f1 : decide (y.k < x.k) = false := by simp; omega
            have f2 : (x.k == y.k) = true := by simp; omega
            have f3 : decide (y.wh < x.wh) = false := by simp; omega
            have f4 : (x.wh == y.wh) = true := by simp; omega
            have f5 : decide (y.f ≤ x.t) = false := by simp; omega
            have f6 : IntKind.i64.wrap (y.f - 1) = y.f - 1 := by rw [IntKind.wrap_i64]; omega
            have f7 : (y.f - 1 == x.t) = false := by simp; omega
            clear hs1 hs2 hs3
            go_wp2_with fail
            go_region_held3 (fun w' => (w'.cell? ⟨g, q * 4, none⟩ = some (.int .u8 x.k) ∧ w'.cell? ⟨g, q * 4 + 1, none⟩ = some (.int .i64 x.wh) ∧ w'.cell? ⟨g, q * 4 + 2, none⟩ = some (.int .i64 x.f) ∧ w'.cell? ⟨g, q * 4 + 3, none⟩ = some (.int .i64 x.t)) ∧ w'.cell? ⟨g, (q + 1) * 4, none⟩ = some (.int .u8 y.k) ∧ w'.cell? ⟨g, (q + 1) * 4 + 1, none⟩ = some (.int .i64 y.wh) ∧ w'.cell? ⟨g, (q + 1) * 4 + 2, none⟩ = some (.int .i64 y.f) ∧ w'.cell? ⟨g, (q + 1) * 4 + 3, none⟩ = some (.int .i64 y.t)) (go_keep) (fail)
            all_goals (clear a0 a1 a2 a3 b0 b1 b2 b3 k0 k1 k2 k3 k4 k5 k6 k7)
            all_goals (go_wp2_with fail; go_roundw; (case rel => exact ⟨q + 1, by omega, by go_num, BL.out _ _⟩); (case measure => simp [intOf]; omega))
        · have kd : (N.length : Int) ≤ (q : Int) + 1 := by omega
          have kd2 : decide ((q : Int) + 1 < (N.length : Int)) = false := by simp; omega
          go_wp2_with fail
          have R7 := rdI7 wr hr (wrap64 (hr - 1)) (wrap64 (hr + 1)) 0 1 2 3
          have hl7 : [hr, wrap64 (hr - 1), wrap64 (hr + 1), 0, 1, 2, 3].length = 7 := rfl
          have B7 := HB.out.alloc HB.out.size (Obj.cells #[.int .i64 hr, .int .i64 (wrap64 (hr - 1)), .int .i64 (wrap64 (hr + 1)), .int .i64 0, .int .i64 1, .int .i64 2, .int .i64 3] 3)
          generalize [hr, wrap64 (hr - 1), wrap64 (hr + 1), 0, 1, 2, 3] = Hs at R7 hl7
          generalize (wr.alloc (Obj.cells #[.int .i64 hr, .int .i64 (wrap64 (hr - 1)), .int .i64 (wrap64 (hr + 1)), .int .i64 0, .int .i64 1, .int .i64 2, .int .i64 3] 3)) = W7 at R7 B7 ⊢
          generalize wr.heap.size = bk at R7 ⊢
          have P7 := Lib.hid R7
          have L7 := Lib.hid hl7
          have B7' := Lib.hid B7
          clear R7 hl7 B7 HB kd kd2 hlt hq
          go_loopw [14] (fun i wz => ∃ j : Nat, j ≤ 7 ∧ i = .int .i64 j ∧ Hid (Below W7.heap.size W7 wz)) (fun i _ => 7 - (intOf i).toNat)
          case atStart => exact ⟨0, by omega, rfl, Below.refl _ _⟩
          case round =>
            obtain ⟨j, hj, rfl, HB⟩ := hrel
            by_cases hlj : j < 7
            · have j0 : (0 : Int) ≤ (j : Int) := by omega
              have jn : (j : Int) < 7 := by omega
              obtain ⟨bb, oo, e, hx⟩ := rdI_get (P7.out.keep HB.out) j (by have := L7.out; omega)
              cases e
              rw [Nat.zero_add] at hx
              generalize Hs.getD j 0 = h at hx
              have Z0 := Lib.hid (B7'.out.trans (HB.out.mono B7'.out.size))
              have Y0 := Lib.hid (O2l.out.keepB Z0.out)
              have C0 := Lib.hid HB.out
              have X0 := Lib.hid hx
              have S0a := Lib.hid (ahead_any A cap d h wr (HR.out.keep (Bl.out.trans (Z0.out.mono Bl.out.size))) (by have := dl.out; omega))
              go_wp2_with fail
              refine S0a.out.mono ?_
              rintro r x01 ⟨u01, rfl, o1, ba1⟩
              have Z0a := Lib.hid (Z0.out.trans (ba1.mono Z0.out.size))
              have C0a := Lib.hid (C0.out.trans (ba1.mono C0.out.size))
              have Y0a := Lib.hid (Y0.out.keepB ba1)
              have I01 := Lib.hid o1
              have S0b := Lib.hid (ahead_any A2 c2 N h x01 Y0a.out.rd (by have := dl.out; have := NL.out; omega))
              clear o1 ba1 S0a
              go_wp2_with fail
              refine S0b.out.mono ?_
              rintro r x02 ⟨u02, rfl, o2, ba2⟩
              have Z0b := Lib.hid (Z0a.out.trans (ba2.mono Z0a.out.size))
              have C0b := Lib.hid (C0a.out.trans (ba2.mono C0a.out.size))
              have Y0b := Lib.hid (Y0a.out.keepB ba2)
              have S0c := Lib.hid (ints_as u01 u02 _ _ _ _ x02 (I01.out.keepB ba2) o2 (setF_cov 1 h d N (fun k w u => (NC.out k w u).symm)) (by have := setF_len 1 h d; have := dl.out; omega))
              clear o2 ba2 S0b I01 Z0a C0a Y0a
              go_wp2_with fail
              refine S0c.out.mono ?_
              rintro r x03 ⟨rfl, ba3⟩
              have Z1 := Lib.hid (Z0b.out.trans (ba3.mono Z0b.out.size))
              have C1 := Lib.hid (C0b.out.trans (ba3.mono C0b.out.size))
              have Y1 := Lib.hid (Y0b.out.keepB ba3)
              clear ba3 S0c Z0b C0b Y0b
              clear hx
              have S1a := Lib.hid (now_any A cap d h x03 (HR.out.keep (Bl.out.trans (Z1.out.mono Bl.out.size))) (by have := dl.out; omega))
              go_wp2_with fail
              refine S1a.out.mono ?_
              rintro r x11 ⟨u11, rfl, o1, ba1⟩
              have Z1a := Lib.hid (Z1.out.trans (ba1.mono Z1.out.size))
              have C1a := Lib.hid (C1.out.trans (ba1.mono C1.out.size))
              have Y1a := Lib.hid (Y1.out.keepB ba1)
              have I11 := Lib.hid o1
              have S1b := Lib.hid (now_any A2 c2 N h x11 Y1a.out.rd (by have := dl.out; have := NL.out; omega))
              clear o1 ba1 S1a
              go_wp2_with fail
              refine S1b.out.mono ?_
              rintro r x12 ⟨u12, rfl, o2, ba2⟩
              have Z1b := Lib.hid (Z1a.out.trans (ba2.mono Z1a.out.size))
              have C1b := Lib.hid (C1a.out.trans (ba2.mono C1a.out.size))
              have Y1b := Lib.hid (Y1a.out.keepB ba2)
              have S1c := Lib.hid (ints_as u11 u12 _ _ _ _ x12 (I11.out.keepB ba2) o2 (nowF_cov h d N (fun k w u => (NC.out k w u).symm)) (by have := nowF_le h d; have := dl.out; omega))
              clear o2 ba2 S1b I11 Z1a C1a Y1a
              go_wp2_with fail
              refine S1c.out.mono ?_
              rintro r x13 ⟨rfl, ba3⟩
              have Z2 := Lib.hid (Z1b.out.trans (ba3.mono Z1b.out.size))
              have C2 := Lib.hid (C1b.out.trans (ba3.mono C1b.out.size))
              have Y2 := Lib.hid (Y1b.out.keepB ba3)
              clear ba3 S1c Z1b C1b Y1b
              have S2a := Lib.hid (trips_any A cap d h x13 (HR.out.keep (Bl.out.trans (Z2.out.mono Bl.out.size))) (by have := dl.out; omega))
              go_wp2_with fail
              refine S2a.out.mono ?_
              rintro r x21 ⟨u21, rfl, o1, ba1⟩
              have Z2a := Lib.hid (Z2.out.trans (ba1.mono Z2.out.size))
              have C2a := Lib.hid (C2.out.trans (ba1.mono C2.out.size))
              have Y2a := Lib.hid (Y2.out.keepB ba1)
              have I21 := Lib.hid o1
              have S2b := Lib.hid (trips_any A2 c2 N h x21 Y2a.out.rd (by have := dl.out; have := NL.out; omega))
              clear o1 ba1 S2a
              go_wp2_with fail
              refine S2b.out.mono ?_
              rintro r x22 ⟨u22, rfl, o2, ba2⟩
              have Z2b := Lib.hid (Z2a.out.trans (ba2.mono Z2a.out.size))
              have C2b := Lib.hid (C2a.out.trans (ba2.mono C2a.out.size))
              have Y2b := Lib.hid (Y2a.out.keepB ba2)
              have S2c := Lib.hid (ints_as u21 u22 _ _ _ _ x22 (I21.out.keepB ba2) o2 (setF_cov 3 h d N (fun k w u => (NC.out k w u).symm)) (by have := setF_len 3 h d; have := dl.out; omega))
              clear o2 ba2 S2b I21 Z2a C2a Y2a
              go_wp2_with fail
              refine S2c.out.mono ?_
              rintro r x23 ⟨rfl, ba3⟩
              have Z3 := Lib.hid (Z2b.out.trans (ba3.mono Z2b.out.size))
              have C3 := Lib.hid (C2b.out.trans (ba3.mono C2b.out.size))
              have Y3 := Lib.hid (Y2b.out.keepB ba3)
              clear ba3 S2c Z2b C2b Y2b
              go_wp2_with fail
              go_roundw
              case rel => exact ⟨j + 1, by omega, by go_num, C3⟩
              case measure => simp [intOf]; omega
            · obtain rfl : j = 7 := by omega
              go_wp2_with fail
              go_ret
              exact ⟨rfl, Bl.out.trans ((B7'.out.trans (HB.out.mono B7'.out.size)).mono Bl.out.size)⟩
end Go.Proofs.Ytncbofjgcapcjaa
