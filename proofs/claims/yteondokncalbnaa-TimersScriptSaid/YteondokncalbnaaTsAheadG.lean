/- ahead at int, its world written out: draws and new blocks alone. -/
import Derived.Test.YteondokncalbnaaHpT1
import Derived.Sort.Grow
import Derived.Deep.Draws
namespace Go.Proofs.Yteondokncalbnaa
open Go.RowKit Go.Sort

theorem grow3 (w : World) (o1 o2 o3 : Obj) : ((((w.alloc o1).alloc o2).alloc o3).drew) = grow (w.drewN 1) #[o1, o2, o3] := by
  rw [alloc_eq_grow, alloc_eq_grow, alloc_eq_grow, grow_grow, grow_grow]
  rfl

/-- which of two triples (key, number, value) is ahead -/
def cmpTri (x y : Int × Int × Int × ByteArray × Int) : Int := orII (cmpII x.1 y.1) (cmpII x.2.1 y.2.1)
theorem cmpTri_lt (x y : Int × Int × Int × ByteArray × Int) : cmpTri x y < 0 ↔ x.1 < y.1 ∨ (x.1 = y.1 ∧ x.2.1 < y.2.1) := by
  unfold cmpTri orII cmpII
  repeat' split
  all_goals omega

set_option maxRecDepth 20000 in
set_option maxHeartbeats 800000 in
theorem aheadGI (a b : Int × Int × Int × ByteArray × Int) (w : World) : Calls Try.prog 66 #[.agg #[.int .i64 a.1, .int .i64 a.2.1, .int .i64 a.2.2.1, .string a.2.2.2.1, .int .i64 a.2.2.2.2], .agg #[.int .i64 b.1, .int .i64 b.2.1, .int .i64 b.2.2.1, .string b.2.2.2.1, .int .i64 b.2.2.2.2]] w fun e w' => e = .returned (.int .i64 (cmpTri a b)) ∧ ∃ q os, w' = grow (w.drewN q) os := by
  go_enter Try.func66, Try.ntmps66
  go_wp2_with fail
  refine wp_tail 10 (by kernel_rfl) (by kernel_rfl) ?_
  simp only [List.take_succ_cons, List.take_zero, List.drop_succ_cons, List.drop_zero]
  repeat (first | still_step | still_call (cmp64 _ _ _) | still_call (cmpI _ _ _))
  refine wpStill_nil ?_
  go_wp2_with fail
  refine (or_any (cmpII a.1 b.1) (cmpII a.2.1 b.2.1) (w.heap.size + 1 + 1) _ (Blk.new3 w _ _ 3 [.int .i64 (cmpII a.1 b.1), .int .i64 (cmpII a.2.1 b.2.1)]).drew).mono ?_
  rintro e w' ⟨rfl, rfl⟩
  go_wp2_with fail
  go_ret
  exact ⟨rfl, 1, _, grow3 w _ _ _⟩
end Go.Proofs.Yteondokncalbnaa
