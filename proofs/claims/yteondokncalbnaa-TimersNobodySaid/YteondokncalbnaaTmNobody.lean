/- TimersNobody: a table that nobody made. -/
import Derived.Test.YteondokncalbnaaTmAwake
namespace Go.Proofs.Yteondokncalbnaa
open Go.RowKit

/-- no table, or one that nobody made -/
def Nob (w : World) (a : Option Addr) : Prop := a = none ∨ ∃ z, a = some ⟨z, 0, none⟩ ∧ Blk w z 39 [.pointer none, .map none]
theorem Nob.bel {w w' : World} {a : Option Addr} (h : Nob w a) (hb : Below w.heap.size w w') : Nob w' a := h.imp id fun ⟨z, e, k⟩ => ⟨z, e, k.bel hb⟩
theorem nob_made (w : World) (a : Option Addr) (h : Nob w a) : Calls Try.prog 32 #[.pointer a] w fun e w' => e = .returned (.bool false) ∧ w' = w := by
  rcases h with rfl | ⟨z, rfl, hz⟩
  · exact made_nil w
  · exact made_zero w z (by have := hz.cell 0; simpa using this)
set_option maxRecDepth 20000 in
theorem nob_set (w : World) (a : Option Addr) (h : Nob w a) (due : Int) (o : ByteArray) (k : Int) : Calls Try.prog 14 #[.pointer a, .int .i64 due, .string o, .int .i64 k] w fun e w' => e = .returned (.int .i64 1) ∧ w' = w := by
  have hM := Lib.hid (nob_made w a h)
  clear h
  go_enter Try.func14, Try.ntmps14
  go_wp2_with (go_at_call 32; refine hM.out.mono ?_; rintro e w' ⟨rfl, rfl⟩)
  go_ret
  exact ⟨rfl, rfl⟩
set_option maxRecDepth 20000 in
theorem nob_drop (w : World) (a : Option Addr) (h : Nob w a) (o : ByteArray) (k : Int) : Calls Try.prog 15 #[.pointer a, .string o, .int .i64 k] w fun e w' => e = .returned (.bool false) ∧ w' = w := by
  have hM := Lib.hid (nob_made w a h)
  clear h
  go_enter Try.func15, Try.ntmps15
  go_wp2_with (go_at_call 32; refine hM.out.mono ?_; rintro e w' ⟨rfl, rfl⟩)
  go_ret
  exact ⟨rfl, rfl⟩
set_option maxRecDepth 20000 in
theorem nob_next (w : World) (a : Option Addr) (h : Nob w a) : Calls Try.prog 12 #[.pointer a] w fun e w' => e = .returned (.tuple #[.int .i64 0, .bool false]) ∧ w' = w := by
  have hM := Lib.hid (nob_made w a h)
  clear h
  go_enter Try.func12, Try.ntmps12
  go_wp2_with (go_at_call 32; refine hM.out.mono ?_; rintro e w' ⟨rfl, rfl⟩)
  go_ret2
  exact ⟨rfl, rfl⟩
set_option maxRecDepth 20000 in
theorem nob_len (w : World) (a : Option Addr) (h : Nob w a) : Calls Try.prog 13 #[.pointer a] w fun e w' => e = .returned (.int .i64 0) ∧ w' = w := by
  have hM := Lib.hid (nob_made w a h)
  clear h
  go_enter Try.func13, Try.ntmps13
  go_wp2_with (go_at_call 32; refine hM.out.mono ?_; rintro e w' ⟨rfl, rfl⟩)
  go_ret
  exact ⟨rfl, rfl⟩
set_option maxRecDepth 20000 in
theorem nob_all (w : World) (a : Option Addr) (h : Nob w a) : Calls Try.prog 17 #[.pointer a] w fun e w' => e = .returned (.slice none 0 0) ∧ w' = w := by
  have hM := Lib.hid (nob_made w a h)
  clear h
  go_enter Try.func17, Try.ntmps17
  go_wp2_with (go_at_call 32; refine hM.out.mono ?_; rintro e w' ⟨rfl, rfl⟩)
  go_ret
  exact ⟨rfl, rfl⟩
set_option maxRecDepth 20000 in
theorem nob_twin (w : World) (a : Option Addr) (h : Nob w a) : Calls Try.prog 18 #[.pointer a] w fun e w' => e = .returned (.pointer none) ∧ w' = w := by
  have hM := Lib.hid (nob_made w a h)
  clear h
  go_enter Try.func18, Try.ntmps18
  go_wp2_with (go_at_call 32; refine hM.out.mono ?_; rintro e w' ⟨rfl, rfl⟩)
  go_ret
  exact ⟨rfl, rfl⟩
set_option maxRecDepth 20000 in
theorem nob_bytes (w : World) (a : Option Addr) (h : Nob w a) : Calls Try.prog 19 #[.pointer a] w fun e w' => e = .returned (.slice none 0 0) ∧ w' = w := by
  have hM := Lib.hid (nob_made w a h)
  clear h
  go_enter Try.func19, Try.ntmps19
  go_wp2_with (go_at_call 32; refine hM.out.mono ?_; rintro e w' ⟨rfl, rfl⟩)
  go_ret
  exact ⟨rfl, rfl⟩
set_option maxRecDepth 20000 in
theorem nob_due (w : World) (a : Option Addr) (h : Nob w a) (now : Int) : Calls Try.prog 11 #[.pointer a, .int .i64 now] w fun e w' => e = .returned (.slice none 0 0) ∧ w' = w := by
  have hM := Lib.hid (nob_next w a h)
  clear h
  go_enter Try.func11, Try.ntmps11
  go_wp2_with (go_at_call 12; refine hM.out.mono ?_; rintro e w' ⟨rfl, rfl⟩)
  refine wp_loop_rounds 1 ?_
  rw [rounds_succ]
  go_wp2_with fail
  go_ret
  exact ⟨rfl, rfl⟩
set_option maxRecDepth 20000 in
theorem nob_dropAll (w : World) (a : Option Addr) (h : Nob w a) (o : ByteArray) : Calls Try.prog 16 #[.pointer a, .string o] w fun e w' => e = .returned (.int .i64 0) ∧ w' = w := by
  have hM := Lib.hid (nob_all w a h)
  clear h
  go_enter Try.func16, Try.ntmps16
  go_wp2_with (go_at_call 17; refine hM.out.mono ?_; rintro e w' ⟨rfl, rfl⟩)
  refine wp_loop_rounds 1 ?_
  rw [rounds_succ]
  go_wp2_with fail
  go_ret
  exact ⟨rfl, rfl⟩
set_option maxRecDepth 20000 in
set_option maxHeartbeats 8000000 in
theorem nobody_any (now : Int) (o : ByteArray) (id : Int) (w : World) : Calls Try.prog 4 #[.int .i64 now, .string o, .int .i64 id] w fun e w' => e = .returned (.bool true) ∧ Below w.heap.size w w' := by
  go_enter Try.func4, Try.ntmps4
  go_wp2_with fail
  have W0 := Blk.new w 39 [.pointer none, .map none]
  have W1 := W0.alloc (.cells #[.pointer none, .pointer (some ⟨w.heap.size, 0, none⟩)] 40)
  have L1 := Blk.new2 w (.cells #[.pointer none, .map none] 39) 40 [.pointer none, .pointer (some ⟨w.heap.size, 0, none⟩)]
  have HB := Lib.hid (Below.new2 w (.cells #[.pointer none, .map none] 39) (.cells #[.pointer none, .pointer (some ⟨w.heap.size, 0, none⟩)] 40))
  have HZ := Lib.hid W1
  have HL := Lib.hid L1
  clear W0 W1 L1
  generalize (w.alloc (.cells #[.pointer none, .map none] 39)).alloc (.cells #[.pointer none, .pointer (some ⟨w.heap.size, 0, none⟩)] 40) = X at *
  refine wp_loop_rounds 3 ?_
  rw [rounds_succ]
  have c0 := HL.out.cell 0
  have c1 := HL.out.cell 1
  simp only [List.getElem?_cons_succ, List.getElem?_cons_zero] at c0 c1
  have hN := Lib.hid (show Nob X none from (.inl rfl))
  go_wp2_with (first | (go_at_call 12; refine (nob_next _ _ hN.out).mono ?_; rintro e w' ⟨rfl, rfl⟩) | (go_at_call 14; refine (nob_set _ _ hN.out _ _ _).mono ?_; rintro e w' ⟨rfl, rfl⟩) | (go_at_call 15; refine (nob_drop _ _ hN.out _ _).mono ?_; rintro e w' ⟨rfl, rfl⟩) | (go_at_call 16; refine (nob_dropAll _ _ hN.out _).mono ?_; rintro e w' ⟨rfl, rfl⟩) | (go_at_call 11; refine (nob_due _ _ hN.out _).mono ?_; rintro e w' ⟨rfl, rfl⟩) | (go_at_call 13; refine (nob_len _ _ hN.out).mono ?_; rintro e w' ⟨rfl, rfl⟩) | (go_at_call 17; refine (nob_all _ _ hN.out).mono ?_; rintro e w' ⟨rfl, rfl⟩) | (go_at_call 18; refine (nob_twin _ _ hN.out).mono ?_; rintro e w' ⟨rfl, rfl⟩) | (go_at_call 19; refine (nob_bytes _ _ hN.out).mono ?_; rintro e w' ⟨rfl, rfl⟩))
  rw [rounds_succ]
  clear hN
  have hN := Lib.hid (show Nob _ (some ⟨w.heap.size, 0, none⟩) from (.inr ⟨_, rfl, HZ.out⟩))
  go_wp2_with (first | (go_at_call 12; refine (nob_next _ _ hN.out).mono ?_; rintro e w' ⟨rfl, rfl⟩) | (go_at_call 14; refine (nob_set _ _ hN.out _ _ _).mono ?_; rintro e w' ⟨rfl, rfl⟩) | (go_at_call 15; refine (nob_drop _ _ hN.out _ _).mono ?_; rintro e w' ⟨rfl, rfl⟩) | (go_at_call 16; refine (nob_dropAll _ _ hN.out _).mono ?_; rintro e w' ⟨rfl, rfl⟩) | (go_at_call 11; refine (nob_due _ _ hN.out _).mono ?_; rintro e w' ⟨rfl, rfl⟩) | (go_at_call 13; refine (nob_len _ _ hN.out).mono ?_; rintro e w' ⟨rfl, rfl⟩) | (go_at_call 17; refine (nob_all _ _ hN.out).mono ?_; rintro e w' ⟨rfl, rfl⟩) | (go_at_call 18; refine (nob_twin _ _ hN.out).mono ?_; rintro e w' ⟨rfl, rfl⟩) | (go_at_call 19; refine (nob_bytes _ _ hN.out).mono ?_; rintro e w' ⟨rfl, rfl⟩))
  rw [rounds_succ]
  go_wp2_with fail
  refine (awake_any _).mono ?_
  rintro e w1 ⟨rfl, hb⟩
  have HB2 := Lib.hid (HB.out.trans (hb.mono HB.out.size))
  clear hb
  go_wp2_with fail
  go_ret
  exact ⟨rfl, HB2.out⟩
end Go.Proofs.Yteondokncalbnaa
