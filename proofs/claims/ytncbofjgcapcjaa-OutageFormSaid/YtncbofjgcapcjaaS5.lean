/- The stable sort of a slice of outages leaves them in order. -/
import Derived.Test.YtncbofjgcapcjaaS4
import Derived.Test.YtncbofjgcapcjaaShelf
namespace Go.Proofs.Ytncbofjgcapcjaa
open Go.RowKit Go.Shelf Go.Lib Go.Sort

section
variable {α : Type} [Inhabited α] {lt : α → α → Bool}
/-- From lo to n: ascending blocks of bs, the last one perhaps shorter. -/
inductive Blk (lt : α → α → Bool) (bs n : Nat) (d : Array α) : Nat → Prop
  | last (lo : Nat) (h1 : lo ≤ n) (h2 : n ≤ lo + bs) (hs : SortedIn lt lo n d) : Blk lt bs n d lo
  | more (lo : Nat) (h1 : lo + bs ≤ n) (hs : SortedIn lt lo (lo + bs) d) (h : Blk lt bs n d (lo + bs)) : Blk lt bs n d lo
/-- Up to a: whole ascending blocks of bs. -/
inductive Pre (lt : α → α → Bool) (bs : Nat) (d : Array α) : Nat → Prop
  | zero : Pre lt bs d 0
  | snoc (a : Nat) (h : Pre lt bs d a) (hs : SortedIn lt a (a + bs) d) : Pre lt bs d (a + bs)
theorem Pre.blk {bs n a : Nat} {d : Array α} (h : Pre lt bs d a) (ha : a ≤ n) (hb : Blk lt bs n d a) : Blk lt bs n d 0 := by
  induction h with
  | zero => exact hb
  | snoc a h hs ih => exact ih (by omega) (.more a ha hs hb)
theorem Blk.front {bs n lo : Nat} {d : Array α} (h : Blk lt bs n d lo) (hl : lo + bs ≤ n) : SortedIn lt lo (lo + bs) d ∧ Blk lt bs n d (lo + bs) := by
  cases h with
  | last _ h1 h2 hs =>
    obtain rfl : n = lo + bs := by omega
    exact ⟨hs, .last _ (Nat.le_refl _) (by omega) (fun i j _ _ _ => by omega)⟩
  | more _ h1 hs h => exact ⟨hs, h⟩
theorem Blk.end_ {bs n lo : Nat} {d : Array α} (h : Blk lt bs n d lo) (hl : n ≤ lo + bs) : SortedIn lt lo n d := by
  cases h with
  | last _ h1 h2 hs => exact hs
  | more _ h1 hs h =>
    obtain rfl : n = lo + bs := by omega
    exact hs
theorem Pre.perm {bs a x y : Nat} {d e : Array α} (h : Pre lt bs d a) (hp : PermIn x y d e) (ha : a ≤ x) : Pre lt bs e a := by
  induction h with
  | zero => exact .zero
  | snoc a h hs ih => exact .snoc a (ih (by omega)) (sorted_perm_other hp hs (by omega))
theorem Blk.perm {bs n lo x y : Nat} {d e : Array α} (h : Blk lt bs n d lo) (hp : PermIn x y d e) (ha : y ≤ lo) : Blk lt bs n e lo := by
  induction h with
  | last lo h1 h2 hs => exact .last lo h1 h2 (sorted_perm_other hp hs (by omega))
  | more lo h1 hs h ih => exact .more lo h1 (sorted_perm_other hp hs (by omega)) (ih (by omega))
theorem Blk.all {bs n : Nat} {d : Array α} (h : Blk lt bs n d 0) (hn : n ≤ bs) : SortedIn lt 0 n d := h.end_ (by omega)
end

theorem ins_any (hO : SWO (ltOf cmpO)) (blk off cap a b : Nat) (d0 d : Array O) (w0 w : World) (R : RowK encO 4 w0 blk off d0) (hs : d0.size = d.size) (S : SWK encO 4 w0 blk off d w)
    (hab : a ≤ b) (hb : b ≤ d.size) (hsz : d.size < 4611686018427387904) :
    Calls Try.prog 42 #[.slice (some ⟨blk, off, none⟩) d.size cap, .int .i64 a, .int .i64 b, .func (.func 24) #[] #[]] w (SymPost blk off a b w0 d) := by
  have hC : CmpLays Try.prog 24 #[] encO 4 cmpO blk off d.size w := fun m os dk hdk x y => by
    have := order_any x y (sortWorldK encO 4 w blk off m dk os)
    simpa [encO] using this
  have h := AnyQ.insertionSortCmpFunc (P := Try.prog) Try.laysIns 4 Try.isAgg27 Try.sizeOf27 encO R.hk R.h1 cmpO 24 #[] blk off cap a b d w (fun args w => by simp [go_sem]) hC (S.holds R.hblk R.hH hs.symm) (S.lt R.hblk) hab hb hsz
  have hp := insertionSort_holds hO d a b hab hb
  refine Calls.mono h ?_
  rintro e w' ⟨rfl, n, os, rfl⟩
  exact ⟨rfl, _, hp.1.1, hp.1, hp.2, S.on R.hblk n _ os hp.1.1⟩

set_option maxHeartbeats 4000000 in
set_option maxRecDepth 100000 in
theorem stable_any (hO : SWO (ltOf cmpO)) (blk off cap n : Nat) (d0 d : Array O) (w0 w : World) (R : RowK encO 4 w0 blk off d0) (hs : d0.size = d.size) (S : SWK encO 4 w0 blk off d w)
    (hn : n = d.size) (hsz : n < 1000000000000) :
    Calls Try.prog 33 #[.slice (some ⟨blk, off, none⟩) n cap, .int .i64 n, .func (.func 24) #[] #[]] w (SymPost blk off 0 n w0 d) := by
  have S0 : Aside (SWK encO 4 w0 blk off d w) := S
  have HN := Lib.hid hn
  have HS := Lib.hid hs
  clear S hn hs
  have HO : Hid (SWO (ltOf cmpO)) := hO
  clear hO
  go_enter Try.func33, Try.ntmps33
  go_wp2
  go_loopw [7, 8] (fun i j wr => ∃ (a : Nat) (dk : Array O), i = .int .i64 a ∧ j = .int .i64 (a + 20) ∧ a ≤ n ∧ Hid (dk.size = n) ∧ Aside (SWK encO 4 w0 blk off dk wr) ∧ Hid (PermIn 0 n d dk) ∧ Hid (Pre (ltOf cmpO) 20 dk a)) (fun i _ _ => n - (intOf i).toNat)
  case atStart => exact ⟨0, d, rfl, by simp, by omega, HN.out.symm, S0, permIn_refl _ _ _, .zero⟩
  case round =>
    clear S0
    obtain ⟨a, dk, rfl, rfl, ha, hds, S1, HP, HPre⟩ := hrel
    by_cases hlt : a + 20 ≤ n
    · have hz : (a : Int) + 20 ≤ (n : Int) := by omega
      have hc := ins_any HO.out blk off cap a (a + 20) d0 dk w0 wr R (by rw [HS.out, ← HN.out]; exact hds.out.symm) S1.out (by omega) (by rw [hds.out]; exact hlt) (by rw [hds.out]; omega)
      rw [hds.out, show (((a + 20 : Nat)) : Int) = (a : Int) + 20 by omega] at hc
      have HC := Lib.hid hc
      clear hc
      go_wp2_with fail
      refine HC.out.mono ?_
      rintro e w' ⟨rfl, hw'⟩
      have HW := Lib.hid hw'
      clear hw'
      go_wp2_with fail
      go_roundw
      case measure => simp [intOf]; omega
      case rel =>
        obtain ⟨d1, q1, q2, q3, q4⟩ := HW.out
        exact ⟨a + 20, d1, by go_num, by congr 1, hlt, q1.trans hds.out, q4, permIn_trans _ _ _ _ _ HP.out (permIn_mono _ _ _ _ _ _ (by omega) hlt (by rw [hds.out]; exact Nat.le_refl _) q2), .snoc a (HPre.out.perm q2 (Nat.le_refl _)) q3⟩
    · have hz : ¬ ((a : Int) + 20 ≤ (n : Int)) := by omega
      have hc := ins_any HO.out blk off cap a n d0 dk w0 wr R (by rw [HS.out, ← HN.out]; exact hds.out.symm) S1.out ha (by rw [hds.out]; exact Nat.le_refl _) (by rw [hds.out]; omega)
      rw [hds.out] at hc
      have HC := Lib.hid hc
      clear hc
      go_wp2_with fail
      refine HC.out.mono ?_
      rintro e w' ⟨rfl, hw'⟩
      have HW : Hid (∃ d1 : Array O, d1.size = n ∧ PermIn 0 n d d1 ∧ Blk (ltOf cmpO) 20 n d1 0 ∧ SWK encO 4 w0 blk off d1 w') := by
        obtain ⟨d1, q1, q2, q3, q4⟩ := hw'
        exact ⟨d1, q1.trans hds.out, permIn_trans _ _ _ _ _ HP.out (permIn_mono _ _ _ _ _ _ (by omega) (Nat.le_refl _) (by rw [hds.out]; exact Nat.le_refl _) q2), (HPre.out.perm q2 (Nat.le_refl _)).blk ha (.last a ha (by omega) q3), q4⟩
      clear hw' S1 HP HPre HC hds
      go_wp2_with fail
      obtain ⟨wo, rfl⟩ : ∃ wo : World, wo = wr := ⟨_, rfl⟩
      go_loopw [6] (fun s wr => ∃ (bs : Nat) (dk : Array O), s = .int .i64 bs ∧ 20 ≤ bs ∧ bs ≤ 2 * n + 20 ∧ Hid (dk.size = n) ∧ Aside (SWK encO 4 w0 blk off dk wr) ∧ Hid (PermIn 0 n d dk) ∧ Hid (Blk (ltOf cmpO) bs n dk 0)) (fun s _ => n - (intOf s).toNat)
      case atStart =>
        obtain ⟨d1, q1, q2, q3, q4⟩ := HW.out
        exact ⟨20, d1, rfl, by omega, by omega, q1, q4, q2, q3⟩
      case round =>
        clear HW
        obtain ⟨bs, dk, rfl, hb1, hb2, hds, S1, HP, HB⟩ := hrel
        by_cases hbn : bs < n
        · have hbz : (bs : Int) < (n : Int) := by omega
          go_wp2_with fail
          obtain ⟨wq, rfl⟩ : ∃ wq : World, wq = wr := ⟨_, rfl⟩
          go_loopw [7, 8] (fun i j wr => ∃ (x : Nat) (dk : Array O), i = .int .i64 x ∧ j = .int .i64 (x + 2 * bs) ∧ x ≤ n ∧ Hid (dk.size = n) ∧ Aside (SWK encO 4 w0 blk off dk wr) ∧ Hid (PermIn 0 n d dk) ∧ Hid (Pre (ltOf cmpO) (2 * bs) dk x) ∧ Hid (Blk (ltOf cmpO) bs n dk x)) (fun i _ _ => n - (intOf i).toNat)
          case atStart => exact ⟨0, dk, rfl, by first | rfl | (congr 1; omega), by omega, hds, S1, HP, .zero, HB⟩
          case round =>
            clear S1 HP HB hds
            obtain ⟨x, dk, rfl, rfl, hxn, hds, S1, HP, HPre, HB⟩ := hrel
            by_cases hx2 : x + 2 * bs ≤ n
            · have hxz : (x : Int) + 2 * (bs : Int) ≤ (n : Int) := by omega
              have ⟨f1, f2⟩ := HB.out.front (by omega)
              have ⟨f3, f4⟩ := f2.front (by omega)
              have hc := symMerge_any HO.out blk off cap d0 w0 R (2 * bs + 1) x (x + bs) (x + bs + bs) dk wr (by omega) (by rw [HS.out, ← HN.out]; exact hds.out.symm) S1.out (by omega) (by omega) (by rw [hds.out]; omega) (by rw [hds.out]; omega) f1 f3
              rw [hds.out, show (((x + bs : Nat)) : Int) = (x : Int) + (bs : Int) by omega, show (((x + bs + bs : Nat)) : Int) = (x : Int) + 2 * (bs : Int) by omega] at hc
              have HC := Lib.hid hc
              have F4 := Lib.hid f4
              clear hc f1 f2 f3 f4
              go_wp2_with fail
              refine HC.out.mono ?_
              rintro e w' ⟨rfl, hw'⟩
              have HW := Lib.hid hw'
              clear hw'
              go_wp2_with fail
              go_roundw
              case measure => simp [intOf]; omega
              case rel =>
                obtain ⟨d1, q1, q2, q3, q4⟩ := HW.out
                refine ⟨x + 2 * bs, d1, by first | (congr 1; done) | (congr 1; omega), by first | (congr 1; done) | (congr 1; omega), hx2, q1.trans hds.out, q4, permIn_trans _ _ _ _ _ HP.out (permIn_mono _ _ _ _ _ _ (by omega) (by omega) (by rw [hds.out]; exact Nat.le_refl _) q2), .snoc x (HPre.out.perm q2 (Nat.le_refl _)) (by rw [show x + 2 * bs = x + bs + bs by omega]; exact q3), ?_⟩
                have := F4.out.perm q2 (Nat.le_refl _)
                rw [show x + 2 * bs = x + bs + bs by omega]
                exact this
            · have hxz : ¬ ((x : Int) + 2 * (bs : Int) ≤ (n : Int)) := by omega
              by_cases hxb : x + bs < n
              · have hxbz : (x : Int) + (bs : Int) < (n : Int) := by omega
                have ⟨f1, f2⟩ := HB.out.front (by omega)
                have f3 := f2.end_ (by omega)
                have hc := symMerge_any HO.out blk off cap d0 w0 R (n + 1) x (x + bs) n dk wr (by omega) (by rw [HS.out, ← HN.out]; exact hds.out.symm) S1.out (by omega) (by omega) (by rw [hds.out]; omega) (by rw [hds.out]; omega) f1 f3
                rw [hds.out, show (((x + bs : Nat)) : Int) = (x : Int) + (bs : Int) by omega] at hc
                have HC := Lib.hid hc
                clear hc f1 f2 f3
                go_wp2_with fail
                refine HC.out.mono ?_
                rintro e w' ⟨rfl, hw'⟩
                have HW := Lib.hid hw'
                clear hw'
                go_wp2_with fail
                go_roundw
                case measure => simp [intOf]; omega
                case rel =>
                  obtain ⟨d1, q1, q2, q3, q4⟩ := HW.out
                  exact ⟨2 * bs, d1, by congr 1; omega, by omega, by omega, q1.trans hds.out, q4, permIn_trans _ _ _ _ _ HP.out (permIn_mono _ _ _ _ _ _ (by omega) (by omega) (by rw [hds.out]; exact Nat.le_refl _) q2), (HPre.out.perm q2 (Nat.le_refl _)).blk hxn (.last x hxn (by omega) q3)⟩
              · have hxbz : ¬ ((x : Int) + (bs : Int) < (n : Int)) := by omega
                go_wp2_with fail
                go_roundw
                case measure => simp [intOf]; omega
                case rel => exact ⟨2 * bs, dk, by congr 1; omega, by omega, by omega, hds, S1, HP, HPre.out.blk hxn (.last x hxn (by omega) (HB.out.end_ (by omega)))⟩
        · have hbz : ¬ ((bs : Int) < (n : Int)) := by omega
          go_wp2_with fail
          go_end0
          exact ⟨rfl, dk, hds.out.trans HN.out, HP.out, HB.out.all (by omega), S1.out⟩

set_option maxHeartbeats 1000000 in
theorem sortStable_any (hO : SWO (ltOf cmpO)) (blk off cap n : Nat) (d : Array O) (w : World) (hH : HoldsK encO 4 w blk off d) (hblk : blk < w.heap.size) (hn : n = d.size) (hsz : n < 1000000000000) :
    Calls Try.prog 23 #[.slice (some ⟨blk, off, none⟩) n cap, .func (.func 24) #[] #[]] w (SymPost blk off 0 n w d) := by
  have hc := stable_any hO blk off cap n d d w w ⟨fun x => rfl, fun x v hv => by simp [encO] at hv; rcases hv with rfl | rfl | rfl | rfl <;> rfl, hH, hblk⟩ rfl (SWK.start hH) hn hsz
  have HC := Lib.hid hc
  clear hc hn hH hO
  go_enter Try.func23, Try.ntmps23
  go_wp2_with fail
  refine HC.out.mono ?_
  rintro e w' ⟨rfl, hw'⟩
  have HW := Lib.hid hw'
  clear hw'
  go_wp2_with fail
  go_end0
  exact ⟨rfl, HW.out⟩
end Go.Proofs.Ytncbofjgcapcjaa
