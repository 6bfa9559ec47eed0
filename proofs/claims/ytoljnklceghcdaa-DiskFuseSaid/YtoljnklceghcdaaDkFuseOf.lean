/- DiskFuse at what the frame tells. -/
import Derived.Test.YtoljnklceghcdaaDkFuseW
import Derived.Test.YtoljnklceghcdaaDkStepsOf
namespace Go.Proofs.Ytoljnklceghcdaa
open Go.RowKit Go.ChangeShapes Go.WideShapes Go.Deep
set_option maxRecDepth 20000 in
set_option maxHeartbeats 1600000 in
theorem fuse_out (w : World) (a : Option Addr) (len c : Nat) (S : Nat → Stp) (n : Int) (h : Stps w a len S) (hn : 40 < len ∨ n < 0) : Calls Try.prog 4 #[.slice a len c, .int .i64 n] w fun e w' => e = .returned (.bool true) ∧ Below w.heap.size w w' := by
  have HS := Lib.hid h
  have HA := Lib.hid (awake_any w)
  clear h
  by_cases h40 : 40 < len
  all_goals
    try have hn41 : decide (40 < (len : Int)) = true := decide_eq_true (by omega)
    try have hn42 : decide (40 < (len : Int)) = false := decide_eq_false (by omega)
    try have hn43 : decide (n < 0) = true := decide_eq_true (by omega)
    clear hn
    go_enter Try.func4, Try.ntmps4
    go_upto_region 3 with (go_at_call 7; refine HA.out.mono ?_; rintro e w1 ⟨rfl, hb1⟩; have HB1 := Lib.hid hb1; clear hb1)
    have HL := Lib.hid (long_any w1 a len c S (HS.out.bel HB1.out))
    go_wp2_with (go_at_call 8; refine HL.out.mono ?_; rintro e w1' ⟨b, rfl, hb, rfl⟩; clear hb; cases b)
    all_goals
      go_wp2_with fail
      go_ret
      exact ⟨rfl, HB1.out⟩
theorem fuse_any (w : World) (a : Option Addr) (len c : Nat) (S : Nat → Stp) (n : Int) (h : Stps w a len S) (hw : (Lit.int .i64 n).wf = true) : Calls Try.prog 4 #[.slice a len c, .int .i64 n] w fun e w' => e = .returned (.bool true) ∧ Below w.heap.size w w' := by
  have hb := bounds_i64 hw
  by_cases hn : 40 < len ∨ n < 0
  · exact fuse_out w a len c S n h hn
  · exact fuse_in w a len c S n h (by omega) (by omega) hb.2
end Go.Proofs.Ytoljnklceghcdaa
