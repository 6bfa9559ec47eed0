/- through of EventKnown's histories. -/
import Derived.Test.YticipdjfkpakpaaEvKnown2
import Derived.Handy
import Derived.Carry
namespace Go.Proofs.Yticipdjfkpakpaa
open Go.RowKit
attribute [local go_sem] run_store_cx'

set_option maxRecDepth 20000 in
set_option maxHeartbeats 1600000 in
theorem through_long (w : World) (A : Option Addr) (cap : Nat) : 
  Calls Try.prog 31 #[.slice A 4097 cap] w fun e w' => ∃ st, e = .returned (.tuple #[st, .int .i64 4096, .int .i64 2]) ∧ Below w.heap.size w w' := by
  have hmm := @run_makeMap Try.prog
  go_enter Try.func31, Try.ntmps31
  go_wp2_with fail
  have kF : Blk (((w.alloc (.cells #[.bool false, .bool false, .int .i64 0, .int .i64 (-1), .map (some (w.heap.size + 1))] 66)).alloc (.map #[] 0)).alloc (.cells #[.bool false, .bool false, .int .i64 0, .int .i64 (-1), .map (some (w.heap.size + 1))] 66)) w.heap.size 66 [.bool false, .bool false, .int .i64 0, .int .i64 (-1), .map (some (w.heap.size + 1))] := Blk.alloc (Blk.alloc (heap_alloc_new w _) _) _
  refine bodyPost_ret (results_cell_row3 (h := rfl) (g := w.heap.size) (t := 66) (cs := ([.bool false, .bool false, .int .i64 0, .int .i64 (-1), .map (some (w.heap.size + 1))] : List Value).toArray) (fr := (0, 0)) (hp := rfl) (hg := kF) (hu := Try.underlying66) (hd := rfl) (hi := by kernel_rfl) _ _) rfl ?_
  exact ⟨_, rfl, (((Below.refl _ _).alloc (Nat.le_refl _) _).alloc (by simp) _).alloc (by simp; omega) _⟩

end Go.Proofs.Yticipdjfkpakpaa
