/- QueueNobody: a queue that nobody made. (Written by hand out of arms.) -/
import Derived.Test.YtpbheicfplpemaaQuAwake
namespace Go.Proofs.Ytpbheicfplpemaa
open Go.RowKit

structure NbS (w0 X : World) (z l : Nat) : Prop where
  kb : Below w0.heap.size w0 X
  kz : Blk X z 61 [.int .i64 0, .int .i64 0, .int .i64 0, .slice none 0 0, .map none, .map none]
  kl : Blk X l 62 [.pointer none, .pointer (some ⟨z, 0, none⟩)]
theorem NbS.bel {w0 X Y : World} {z l : Nat} (h : NbS w0 X z l) (k : Below X.heap.size X Y) : NbS w0 Y z l := ⟨below_trans' h.kb k, h.kz.bel k, h.kl.bel k⟩
set_option maxRecDepth 20000 in
set_option maxHeartbeats 8000000 in
theorem nobody_any (key who : ByteArray) (now lease token : Int) (w : World) : Calls Try.prog 6 #[.string key, .string who, .int .i64 now, .int .i64 lease, .int .i64 token] w fun e w' => e = .returned (.bool true) ∧ Below w.heap.size w w' := by
  go_enter Try.func6, Try.ntmps6
  go_wp2_with fail
  have hS : Hid (NbS w ((w.alloc (.cells #[.int .i64 0, .int .i64 0, .int .i64 0, .slice none 0 0, .map none, .map none] 61)).alloc (.cells #[.pointer none, .pointer (some ⟨w.heap.size, 0, none⟩)] 62)) w.heap.size (w.heap.size + 1)) := Lib.hid (NbS.mk (Below.new2 w (.cells #[.int .i64 0, .int .i64 0, .int .i64 0, .slice none 0 0, .map none, .map none] 61) (.cells #[.pointer none, .pointer (some ⟨w.heap.size, 0, none⟩)] 62)) ((Blk.new w 61 [.int .i64 0, .int .i64 0, .int .i64 0, .slice none 0 0, .map none, .map none]).alloc (.cells #[.pointer none, .pointer (some ⟨w.heap.size, 0, none⟩)] 62)) (Blk.new2 w (.cells #[.int .i64 0, .int .i64 0, .int .i64 0, .slice none 0 0, .map none, .map none] 61) 62 [.pointer none, .pointer (some ⟨w.heap.size, 0, none⟩)]))
  generalize (w.alloc (.cells #[.int .i64 0, .int .i64 0, .int .i64 0, .slice none 0 0, .map none, .map none] 61)).alloc (.cells #[.pointer none, .pointer (some ⟨w.heap.size, 0, none⟩)] 62) = X at *
  refine wp_loop_rounds 3 ?_
  rw [rounds_succ]
  have c0 := hS.out.kl.cell 0
  simp only [List.getElem?_cons_succ, List.getElem?_cons_zero] at c0
  have hN := Lib.hid (unm_nil X)
  go_wp2_with (first | (go_at_call 12; refine (pollN _ _ hN.out _ _ _).mono ?_; rintro e w' ⟨rfl, hb⟩; have hN2 := Lib.hid (hN.out.bel hb); have hS2 := Lib.hid (hS.out.bel hb); clear hN hS hb; have hN := hN2; have hS := hS2; clear hN2 hS2) | (go_at_call 14; refine (doneE _ _ _ 1 (by decide) (findN _ _ hN.out _)).mono ?_; rintro e w' ⟨rfl, hb⟩; have hN2 := Lib.hid (hN.out.bel hb); have hS2 := Lib.hid (hS.out.bel hb); clear hN hS hb; have hN := hN2; have hS := hS2; clear hN2 hS2) | (go_at_call 13; refine (backE _ _ _ _ 1 (by decide) (findN _ _ hN.out _)).mono ?_; rintro e w' ⟨rfl, hb⟩; have hN2 := Lib.hid (hN.out.bel hb); have hS2 := Lib.hid (hS.out.bel hb); clear hN hS hb; have hN := hN2; have hS := hS2; clear hN2 hS2) | (go_at_call 23; refine (nextN _ _ hN.out).mono ?_; rintro e w' ⟨rfl, hb⟩; have hN2 := Lib.hid (hN.out.bel hb); have hS2 := Lib.hid (hS.out.bel hb); clear hN hS hb; have hN := hN2; have hS := hS2; clear hN2 hS2) | (go_at_call 10; refine (putN _ _ hN.out _ _ _).mono ?_; rintro e w' ⟨rfl, hb⟩; have hN2 := Lib.hid (hN.out.bel hb); have hS2 := Lib.hid (hS.out.bel hb); clear hN hS hb; have hN := hN2; have hS := hS2; clear hN2 hS2) | (go_at_call 16; refine (beatN _ _ hN.out _ _ _).mono ?_; rintro e w' ⟨rfl, hb⟩; have hN2 := Lib.hid (hN.out.bel hb); have hS2 := Lib.hid (hS.out.bel hb); clear hN hS hb; have hN := hN2; have hS := hS2; clear hN2 hS2) | (go_at_call 24; refine (dropN _ _ hN.out _).mono ?_; rintro e w' ⟨rfl, hb⟩; have hN2 := Lib.hid (hN.out.bel hb); have hS2 := Lib.hid (hS.out.bel hb); clear hN hS hb; have hN := hN2; have hS := hS2; clear hN2 hS2) | (go_at_call 11; refine (lenN _ _ hN.out).mono ?_; rintro e w' ⟨rfl, rfl⟩) | (go_at_call 15; refine (twinN _ _ hN.out).mono ?_; rintro e w' ⟨rfl, hb⟩; have hN2 := Lib.hid (hN.out.bel hb); have hS2 := Lib.hid (hS.out.bel hb); clear hN hS hb; have hN := hN2; have hS := hS2; clear hN2 hS2) | (go_at_call 17; refine (expireN _ _ hN.out _).mono ?_; rintro e w' ⟨rfl, hb⟩; have hN2 := Lib.hid (hN.out.bel hb); have hS2 := Lib.hid (hS.out.bel hb); clear hN hS hb; have hN := hN2; have hS := hS2; clear hN2 hS2) | (go_at_call 18; refine (outsN _ _ hN.out).mono ?_; rintro e w' ⟨rfl, rfl⟩) | (go_at_call 25; refine (waitsN _ _ hN.out).mono ?_; rintro e w' ⟨rfl, hb⟩; have hN2 := Lib.hid (hN.out.bel hb); have hS2 := Lib.hid (hS.out.bel hb); clear hN hS hb; have hN := hN2; have hS := hS2; clear hN2 hS2) | (go_at_call 26; refine (bytesN _ _ hN.out).mono ?_; rintro e w' ⟨rfl, hb⟩; have hN2 := Lib.hid (hN.out.bel hb); have hS2 := Lib.hid (hS.out.bel hb); clear hN hS hb; have hN := hN2; have hS := hS2; clear hN2 hS2))
  rw [rounds_succ]
  clear hN c0
  have c1 := hS.out.kl.cell 1
  simp only [List.getElem?_cons_succ, List.getElem?_cons_zero] at c1
  have hN := Lib.hid (unm_zero _ w.heap.size hS.out.kz.lt (by have := hS.out.kz.cell 2; simpa using this))
  go_wp2_with (first | (go_at_call 12; refine (pollN _ _ hN.out _ _ _).mono ?_; rintro e w' ⟨rfl, hb⟩; have hN2 := Lib.hid (hN.out.bel hb); have hS2 := Lib.hid (hS.out.bel hb); clear hN hS hb; have hN := hN2; have hS := hS2; clear hN2 hS2) | (go_at_call 14; refine (doneE _ _ _ 1 (by decide) (findN _ _ hN.out _)).mono ?_; rintro e w' ⟨rfl, hb⟩; have hN2 := Lib.hid (hN.out.bel hb); have hS2 := Lib.hid (hS.out.bel hb); clear hN hS hb; have hN := hN2; have hS := hS2; clear hN2 hS2) | (go_at_call 13; refine (backE _ _ _ _ 1 (by decide) (findN _ _ hN.out _)).mono ?_; rintro e w' ⟨rfl, hb⟩; have hN2 := Lib.hid (hN.out.bel hb); have hS2 := Lib.hid (hS.out.bel hb); clear hN hS hb; have hN := hN2; have hS := hS2; clear hN2 hS2) | (go_at_call 23; refine (nextN _ _ hN.out).mono ?_; rintro e w' ⟨rfl, hb⟩; have hN2 := Lib.hid (hN.out.bel hb); have hS2 := Lib.hid (hS.out.bel hb); clear hN hS hb; have hN := hN2; have hS := hS2; clear hN2 hS2) | (go_at_call 10; refine (putN _ _ hN.out _ _ _).mono ?_; rintro e w' ⟨rfl, hb⟩; have hN2 := Lib.hid (hN.out.bel hb); have hS2 := Lib.hid (hS.out.bel hb); clear hN hS hb; have hN := hN2; have hS := hS2; clear hN2 hS2) | (go_at_call 16; refine (beatN _ _ hN.out _ _ _).mono ?_; rintro e w' ⟨rfl, hb⟩; have hN2 := Lib.hid (hN.out.bel hb); have hS2 := Lib.hid (hS.out.bel hb); clear hN hS hb; have hN := hN2; have hS := hS2; clear hN2 hS2) | (go_at_call 24; refine (dropN _ _ hN.out _).mono ?_; rintro e w' ⟨rfl, hb⟩; have hN2 := Lib.hid (hN.out.bel hb); have hS2 := Lib.hid (hS.out.bel hb); clear hN hS hb; have hN := hN2; have hS := hS2; clear hN2 hS2) | (go_at_call 11; refine (lenN _ _ hN.out).mono ?_; rintro e w' ⟨rfl, rfl⟩) | (go_at_call 15; refine (twinN _ _ hN.out).mono ?_; rintro e w' ⟨rfl, hb⟩; have hN2 := Lib.hid (hN.out.bel hb); have hS2 := Lib.hid (hS.out.bel hb); clear hN hS hb; have hN := hN2; have hS := hS2; clear hN2 hS2) | (go_at_call 17; refine (expireN _ _ hN.out _).mono ?_; rintro e w' ⟨rfl, hb⟩; have hN2 := Lib.hid (hN.out.bel hb); have hS2 := Lib.hid (hS.out.bel hb); clear hN hS hb; have hN := hN2; have hS := hS2; clear hN2 hS2) | (go_at_call 18; refine (outsN _ _ hN.out).mono ?_; rintro e w' ⟨rfl, rfl⟩) | (go_at_call 25; refine (waitsN _ _ hN.out).mono ?_; rintro e w' ⟨rfl, hb⟩; have hN2 := Lib.hid (hN.out.bel hb); have hS2 := Lib.hid (hS.out.bel hb); clear hN hS hb; have hN := hN2; have hS := hS2; clear hN2 hS2) | (go_at_call 26; refine (bytesN _ _ hN.out).mono ?_; rintro e w' ⟨rfl, hb⟩; have hN2 := Lib.hid (hN.out.bel hb); have hS2 := Lib.hid (hS.out.bel hb); clear hN hS hb; have hN := hN2; have hS := hS2; clear hN2 hS2))
  rw [rounds_succ]
  go_wp2_with fail
  refine (awake_any _).mono ?_
  rintro e w1 ⟨rfl, hb⟩
  have HB2 := Lib.hid (below_trans' hS.out.kb hb)
  clear hb
  go_wp2_with fail
  go_ret
  exact ⟨rfl, HB2.out⟩
end Go.Proofs.Ytpbheicfplpemaa
