/- DiskNobody: a disk that nobody made. -/
import Derived.Test.YtoljnklceghcdaaDkAwake
namespace Go.Proofs.Ytoljnklceghcdaa
open Go.RowKit

structure NbS (w0 X : World) (z l : Nat) : Prop where
  kb : Below w0.heap.size w0 X
  kz : Blk X z 51 [.map none, .bool false, .int .i64 0]
  kl : Blk X l 52 [.pointer none, .pointer (some ⟨z, 0, none⟩)]
theorem NbS.bel {w0 X Y : World} {z l : Nat} (h : NbS w0 X z l) (k : Below X.heap.size X Y) : NbS w0 Y z l := ⟨below_trans' h.kb k, h.kz.bel k, h.kl.bel k⟩
set_option maxRecDepth 20000 in
set_option maxHeartbeats 8000000 in
theorem nobody_any (name to_ : ByteArray) (n : Int) (w : World) : Calls Try.prog 6 #[.string name, .string to_, .int .i64 n] w fun e w' => e = .returned (.bool true) ∧ Below w.heap.size w w' := by
  go_enter Try.func6, Try.ntmps6
  go_wp2_with fail
  have hS : Hid (NbS w ((w.alloc (.cells #[.map none, .bool false, .int .i64 0] 51)).alloc (.cells #[.pointer none, .pointer (some ⟨w.heap.size, 0, none⟩)] 52)) w.heap.size (w.heap.size + 1)) := Lib.hid (NbS.mk (Below.new2 w (.cells #[.map none, .bool false, .int .i64 0] 51) (.cells #[.pointer none, .pointer (some ⟨w.heap.size, 0, none⟩)] 52)) ((Blk.new w 51 [.map none, .bool false, .int .i64 0]).alloc (.cells #[.pointer none, .pointer (some ⟨w.heap.size, 0, none⟩)] 52)) (Blk.new2 w (.cells #[.map none, .bool false, .int .i64 0] 51) 52 [.pointer none, .pointer (some ⟨w.heap.size, 0, none⟩)]))
  generalize (w.alloc (.cells #[.map none, .bool false, .int .i64 0] 51)).alloc (.cells #[.pointer none, .pointer (some ⟨w.heap.size, 0, none⟩)] 52) = X at *
  refine wp_loop_rounds 3 ?_
  rw [rounds_succ]
  have c0 := hS.out.kl.cell 0
  simp only [List.getElem?_cons_succ, List.getElem?_cons_zero] at c0
  have hN := Lib.hid (show NoDisk X none from .inl rfl)
  go_wp2_with (first | (go_at_call 13; refine (read_no _ _ hN.out _).mono ?_; rintro e w' ⟨rfl, rfl⟩) | (go_at_call 19; refine (names_no _ _ hN.out ).mono ?_; rintro e w' ⟨rfl, rfl⟩) | (go_at_call 12; refine (crash_no _ _ hN.out _ _ _).mono ?_; rintro e w' ⟨rfl, rfl⟩) | (go_at_call 21; refine (twin_no _ _ hN.out ).mono ?_; rintro e w' ⟨rfl, rfl⟩) | (go_at_call 15; refine (waits_no _ _ hN.out _).mono ?_; rintro e w' ⟨rfl, rfl⟩) | (go_at_call 18; refine (off_no _ _ hN.out ).mono ?_; rintro e w' ⟨rfl, rfl⟩) | (go_at_call 16; refine (fuse_no _ _ hN.out _).mono ?_; rintro e w' ⟨rfl, rfl⟩) | (go_at_call 10; refine (append_no _ _ hN.out _ _ _ _).mono ?_; rintro e w' ⟨rfl, hb⟩; have hN2 := Lib.hid (hN.out.bel hb); have hS2 := Lib.hid (hS.out.bel hb); clear hN hS hb; have hN := hN2; have hS := hS2; clear hN2 hS2) | (go_at_call 11; refine (sync_no _ _ hN.out _).mono ?_; rintro e w' ⟨rfl, hb⟩; have hN2 := Lib.hid (hN.out.bel hb); have hS2 := Lib.hid (hS.out.bel hb); clear hN hS hb; have hN := hN2; have hS := hS2; clear hN2 hS2) | (go_at_call 25; refine (rename_no _ _ hN.out _ _).mono ?_; rintro e w' ⟨rfl, hb⟩; have hN2 := Lib.hid (hN.out.bel hb); have hS2 := Lib.hid (hS.out.bel hb); clear hN hS hb; have hN := hN2; have hS := hS2; clear hN2 hS2) | (go_at_call 22; refine (remove_no _ _ hN.out _).mono ?_; rintro e w' ⟨rfl, hb⟩; have hN2 := Lib.hid (hN.out.bel hb); have hS2 := Lib.hid (hS.out.bel hb); clear hN hS hb; have hN := hN2; have hS := hS2; clear hN2 hS2))
  rw [rounds_succ]
  clear hN c0
  have c1 := hS.out.kl.cell 1
  simp only [List.getElem?_cons_succ, List.getElem?_cons_zero] at c1
  have hN := Lib.hid (show NoDisk _ (some ⟨w.heap.size, 0, none⟩) from .inr ⟨_, rfl, hS.out.kz⟩)
  go_wp2_with (first | (go_at_call 13; refine (read_no _ _ hN.out _).mono ?_; rintro e w' ⟨rfl, rfl⟩) | (go_at_call 19; refine (names_no _ _ hN.out ).mono ?_; rintro e w' ⟨rfl, rfl⟩) | (go_at_call 12; refine (crash_no _ _ hN.out _ _ _).mono ?_; rintro e w' ⟨rfl, rfl⟩) | (go_at_call 21; refine (twin_no _ _ hN.out ).mono ?_; rintro e w' ⟨rfl, rfl⟩) | (go_at_call 15; refine (waits_no _ _ hN.out _).mono ?_; rintro e w' ⟨rfl, rfl⟩) | (go_at_call 18; refine (off_no _ _ hN.out ).mono ?_; rintro e w' ⟨rfl, rfl⟩) | (go_at_call 16; refine (fuse_no _ _ hN.out _).mono ?_; rintro e w' ⟨rfl, rfl⟩) | (go_at_call 10; refine (append_no _ _ hN.out _ _ _ _).mono ?_; rintro e w' ⟨rfl, hb⟩; have hN2 := Lib.hid (hN.out.bel hb); have hS2 := Lib.hid (hS.out.bel hb); clear hN hS hb; have hN := hN2; have hS := hS2; clear hN2 hS2) | (go_at_call 11; refine (sync_no _ _ hN.out _).mono ?_; rintro e w' ⟨rfl, hb⟩; have hN2 := Lib.hid (hN.out.bel hb); have hS2 := Lib.hid (hS.out.bel hb); clear hN hS hb; have hN := hN2; have hS := hS2; clear hN2 hS2) | (go_at_call 25; refine (rename_no _ _ hN.out _ _).mono ?_; rintro e w' ⟨rfl, hb⟩; have hN2 := Lib.hid (hN.out.bel hb); have hS2 := Lib.hid (hS.out.bel hb); clear hN hS hb; have hN := hN2; have hS := hS2; clear hN2 hS2) | (go_at_call 22; refine (remove_no _ _ hN.out _).mono ?_; rintro e w' ⟨rfl, hb⟩; have hN2 := Lib.hid (hN.out.bel hb); have hS2 := Lib.hid (hS.out.bel hb); clear hN hS hb; have hN := hN2; have hS := hS2; clear hN2 hS2))
  rw [rounds_succ]
  go_wp2_with fail
  refine (awake_any _).mono ?_
  rintro e w1 ⟨rfl, hb⟩
  have HB2 := Lib.hid (below_trans' hS.out.kb hb)
  clear hb
  go_wp2_with fail
  go_ret
  exact ⟨rfl, HB2.out⟩
end Go.Proofs.Ytoljnklceghcdaa
