/- wal: what is told of a disk that is none; a deed that may be kept in. -/
import Derived.Test.YteihedfmmiihiaaGreatWlOpen
namespace Go.Proofs.YteihedfmmiihiaaGreat
open Go.RowKit Go.Maps Go.Sort Go.Shelf

theorem read_no (w : World) (a : Option Addr) (h : NoDisk w a) (k : ByteArray) : Calls Tryz.prog 36 #[.pointer a, .string k] w fun e w' => e = .returned (.tuple #[.slice none 0 0, .int .i64 1]) ∧ w' = w := by
  have HM := Lib.hid (there_no w a h k)
  clear h
  go_enter Tryz.func36, Tryz.ntmps36
  go_wp2_with (go_at_call 48; refine HM.out.mono ?_; rintro e w' ⟨rfl, rfl⟩)
  go_ret2
  exact ⟨rfl, rfl⟩
set_option maxRecDepth 20000 in
set_option maxHeartbeats 4000000 in
theorem open_no (w : World) (a : Option Addr) (h : NoDisk w a) :
    Calls Tryz.prog 17 #[.pointer a] w fun e w' => e = .returned (.tuple #[.pointer none, svV 0 0 none 0 0, .int .i64 1]) ∧ Below w.heap.size w w' := by
  have B0 := Below.new w (.cells #[.int .i64 0, .int .i64 0, .slice none 0 0] 27)
  have K0 := Lib.hid (Blk.new w 27 [.int .i64 0, .int .i64 0, .slice none 0 0])
  have HR := read_no _ a (h.bel B0) kW
  unfold kW at HR
  have HR := Lib.hid HR
  have HB0 := Lib.hid B0
  clear h B0
  go_enter Tryz.func17, Tryz.ntmps17
  go_wp2_with fail
  refine HR.out.mono ?_
  rintro e W ⟨rfl, rfl⟩
  go_wp2_with fail
  refine bodyPost_ret (results_tct (h := rfl) (g := w.heap.size) (t := 27) (cs := ([.int .i64 0, .int .i64 0, .slice none 0 0] : List Value).toArray) (fr := (0, 0)) (hp := rfl) (hg := K0.out) (hu := Tryz.underlying27) (hd := rfl) (hi := by kernel_rfl) _ _) rfl ?_
  exact ⟨rfl, HB0.out⟩
end Go.Proofs.YteihedfmmiihiaaGreat
