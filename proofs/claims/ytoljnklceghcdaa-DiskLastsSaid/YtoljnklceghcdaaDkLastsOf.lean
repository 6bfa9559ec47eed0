/- DiskLasts at what the frame tells of the steps that came in. -/
import Derived.Test.YtoljnklceghcdaaDkLastsW
import Derived.Test.YtoljnklceghcdaaDkStepsOf
namespace Go.Proofs.Ytoljnklceghcdaa
open Go.RowKit Go.ChangeShapes Go.WideShapes Go.Deep
set_option maxRecDepth 20000 in
set_option maxHeartbeats 1600000 in
theorem lasts_out (w : World) (a : Option Addr) (n c : Nat) (S : Nat → Stp) (h : Stps w a n S) (hn40 : 40 < n) : Calls Try.prog 3 #[.slice a n c] w fun e w' => e = .returned (.bool true) ∧ Below w.heap.size w w' := by
  have HS := Lib.hid h
  have HA := Lib.hid (awake_any w)
  have hn41 : decide (40 < (n : Int)) = true := decide_eq_true (by omega)
  clear h
  go_enter Try.func3, Try.ntmps3
  go_upto_region 3 with (go_at_call 7; refine HA.out.mono ?_; rintro e w1 ⟨rfl, hb1⟩; have HB1 := Lib.hid hb1; clear hb1)
  have HL := Lib.hid (long_any w1 a n c S (HS.out.bel HB1.out))
  go_wp2_with (go_at_call 8; refine HL.out.mono ?_; rintro e w1' ⟨b, rfl, hb, rfl⟩; clear hb; cases b)
  all_goals
    go_wp2_with fail
    go_ret
    exact ⟨rfl, HB1.out⟩
theorem lasts_any (w : World) (a : Option Addr) (n c : Nat) (S : Nat → Stp) (h : Stps w a n S) : Calls Try.prog 3 #[.slice a n c] w fun e w' => e = .returned (.bool true) ∧ Below w.heap.size w w' := by
  by_cases hn : n ≤ 40
  · exact lasts_in w a n c S h hn
  · exact lasts_out w a n c S h (by omega)
end Go.Proofs.Ytoljnklceghcdaa
