/- The order of outages, as the sort calls it. -/
import Derived.Test.YtncbofjgcapcjaaF3
import Derived.StillTailTactics
import Derived.Shelf.SlSortCmp.KitK
namespace Go.Proofs.Ytncbofjgcapcjaa
open Go.RowKit

def cmpO (x y : O) : Int := orI [cmpI x.k y.k, cmpI x.wh y.wh, cmpI x.f y.f]
def encO (x : O) : List Value := [.int .u8 x.k, .int .i64 x.wh, .int .i64 x.f, .int .i64 x.t]

theorem still8 (a b : Int) (w : World) : Calls Try.prog 35 #[.int .u8 a, .int .u8 b] w fun r w' => r = .returned (.int .i64 (cmpI a b)) ∧ w' = w := (cmp8 a b w).mono fun _ _ h => ⟨h.1, h.2.symm⟩
theorem still64 (a b : Int) (w : World) : Calls Try.prog 36 #[.int .i64 a, .int .i64 b] w fun r w' => r = .returned (.int .i64 (cmpI a b)) ∧ w' = w := (cmp64 a b w).mono fun _ _ h => ⟨h.1, h.2.symm⟩


theorem rd3 (w : World) (a b c : Int) (T : TypeId) : RdI ((w.alloc (.cells #[.int .i64 a, .int .i64 b, .int .i64 c] T)).drew) (some ⟨w.heap.size, 0, none⟩) [a, b, c] := fun _ => by
  refine ⟨_, _, rfl, fun i hi => ?_⟩
  have : i = 0 ∨ i = 1 ∨ i = 2 := by simp at hi; omega
  rcases this with rfl | rfl | rfl <;> simp [go_sem]

set_option maxHeartbeats 1600000 in
theorem order_any (x y : O) (w : World) :
    Calls Try.prog 24 #[.agg #[.int .u8 x.k, .int .i64 x.wh, .int .i64 x.f, .int .i64 x.t], .agg #[.int .u8 y.k, .int .i64 y.wh, .int .i64 y.f, .int .i64 y.t]] w fun e w' => e = .returned (.int .i64 (cmpO x y)) ∧ ∃ q os', w' = Go.Sort.grow (w.drewN q) os' := by
  go_enter Try.func24, Try.ntmps24
  go_wp2_with fail
  refine wp_region_still_tail 15 (by kernel_rfl) (by kernel_rfl) ?_
  simp only [List.take_succ_cons, List.take_zero, List.drop_succ_cons, List.drop_zero]
  generalize hW : ((w.alloc (Obj.cells #[Value.int IntKind.u8 x.k, Value.int IntKind.i64 x.wh, Value.int IntKind.i64 x.f, Value.int IntKind.i64 x.t] 27)).alloc (Obj.cells #[Value.int IntKind.u8 y.k, Value.int IntKind.i64 y.wh, Value.int IntKind.i64 y.f, Value.int IntKind.i64 y.t] 27)) = W
  have a0 : W.cell? ⟨w.heap.size, 0, none⟩ = some (.int .u8 x.k) := by rw [← hW]; simp [go_sem]
  have a1 : W.cell? ⟨w.heap.size, 1, none⟩ = some (.int .i64 x.wh) := by rw [← hW]; simp [go_sem]
  have a2 : W.cell? ⟨w.heap.size, 2, none⟩ = some (.int .i64 x.f) := by rw [← hW]; simp [go_sem]
  have b0 : W.cell? ⟨w.heap.size + 1, 0, none⟩ = some (.int .u8 y.k) := by rw [← hW]; simp [go_sem]
  have b1 : W.cell? ⟨w.heap.size + 1, 1, none⟩ = some (.int .i64 y.wh) := by rw [← hW]; simp [go_sem]
  have b2 : W.cell? ⟨w.heap.size + 1, 2, none⟩ = some (.int .i64 y.f) := by rw [← hW]; simp [go_sem]
  have HW : Hid (W = Go.Sort.grow w #[.cells #[Value.int IntKind.u8 x.k, Value.int IntKind.i64 x.wh, Value.int IntKind.i64 x.f, Value.int IntKind.i64 x.t] 27, .cells #[Value.int IntKind.u8 y.k, Value.int IntKind.i64 y.wh, Value.int IntKind.i64 y.f, Value.int IntKind.i64 y.t] 27]) := by
    show _ = _
    rw [← hW, Go.Sort.alloc_eq_grow, Go.Sort.alloc_eq_grow, Go.Sort.grow_grow]; rfl
  clear hW
  repeat still_step
  still_call (still8 _ _ _)
  repeat still_step
  still_call (still64 _ _ _)
  repeat still_step
  still_call (still64 _ _ _)
  refine wpStill_nil ?_
  have hr := rd3 W (cmpI x.k y.k) (cmpI x.wh y.wh) (cmpI x.f y.f) 3
  have HR : Hid (RdI _ _ _) := hr
  clear hr
  go_wp2_with (go_at_call 34; refine (or_any _ _ [cmpI x.k y.k, cmpI x.wh y.wh, cmpI x.f y.f] _ HR.out (by simp)).mono ?_; rintro e w' ⟨rfl, rfl⟩)
  go_ret
  refine ⟨rfl, 1, #[.cells #[Value.int IntKind.u8 x.k, Value.int IntKind.i64 x.wh, Value.int IntKind.i64 x.f, Value.int IntKind.i64 x.t] 27, .cells #[Value.int IntKind.u8 y.k, Value.int IntKind.i64 y.wh, Value.int IntKind.i64 y.f, Value.int IntKind.i64 y.t] 27, .cells #[.int .i64 (cmpI x.k y.k), .int .i64 (cmpI x.wh y.wh), .int .i64 (cmpI x.f y.f)] 3], ?_⟩
  rw [HW.out, Go.Sort.alloc_eq_grow, Go.Sort.grow_grow]
  rfl
end Go.Proofs.Ytncbofjgcapcjaa
