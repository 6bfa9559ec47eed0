/- event.Form of EventKnown's histories. -/
import Derived.Test.YticipdjfkpakpaaEvKnown4
namespace Go.Proofs.Yticipdjfkpakpaa
open Go.RowKit
attribute [local go_sem] run_store_cx'

set_option maxRecDepth 20000 in
set_option maxHeartbeats 1600000 in
theorem through_two0 (w : World) (b : Nat) (hl : Blk w b 27 [.int .u8 2, .int .i64 0, .string ⟨#[]⟩, .slice none 0 0, .int .i64 2]) : 
  Calls Try.prog 31 #[.slice (some ⟨b, 0, none⟩) 1 1] w fun e w' => ∃ st, e = .returned (.tuple #[st, .int .i64 0, .int .i64 3]) ∧ Below w.heap.size w w' := by
  have hmm := @run_makeMap Try.prog
  have HL := Lib.hid hl
  clear hl
  go_enter Try.func31, Try.ntmps31
  go_wp2_with fail
  have S0 : Blk ((((w.alloc (.cells #[.bool false, .bool false, .int .i64 0, .int .i64 0, .map none] 66))).alloc (.map #[] 0)).alloc (.cells #[.bool false, .bool false, .int .i64 0, .int .i64 (-1), .map (some (w.heap.size + 1))] 66)) w.heap.size 66 [.bool false, .bool false, .int .i64 0, .int .i64 0, .map none] := by
    refine Blk.alloc (Blk.alloc (heap_alloc_new w _) _) _
  have S1 : Blk ((((w.alloc (.cells #[.bool false, .bool false, .int .i64 0, .int .i64 0, .map none] 66))).alloc (.map #[] 0)).alloc (.cells #[.bool false, .bool false, .int .i64 0, .int .i64 (-1), .map (some (w.heap.size + 1))] 66)) (w.heap.size + 1 + 1) 66 [.bool false, .bool false, .int .i64 0, .int .i64 (-1), .map (some (w.heap.size + 1))] := by
    have := heap_alloc_new ((w.alloc (.cells #[.bool false, .bool false, .int .i64 0, .int .i64 0, .map none] 66)).alloc (.map #[] 0)) (.cells #[.bool false, .bool false, .int .i64 0, .int .i64 (-1), .map (some (w.heap.size + 1))] 66)
    rw [show ((w.alloc (.cells #[.bool false, .bool false, .int .i64 0, .int .i64 0, .map none] 66)).alloc (.map #[] 0)).heap.size = w.heap.size + 1 + 1 from by simp] at this
    exact this
  have B0 : Below w.heap.size w ((((w.alloc (.cells #[.bool false, .bool false, .int .i64 0, .int .i64 0, .map none] 66))).alloc (.map #[] 0)).alloc (.cells #[.bool false, .bool false, .int .i64 0, .int .i64 (-1), .map (some (w.heap.size + 1))] 66)) := (((Below.refl _ _).alloc (Nat.le_refl _) _).alloc (by simp) _).alloc (by simp; omega) _
  have hsz : ((((w.alloc (.cells #[.bool false, .bool false, .int .i64 0, .int .i64 0, .map none] 66))).alloc (.map #[] 0)).alloc (.cells #[.bool false, .bool false, .int .i64 0, .int .i64 (-1), .map (some (w.heap.size + 1))] 66)).heap.size = w.heap.size + 3 := by simp
  generalize ((((w.alloc (.cells #[.bool false, .bool false, .int .i64 0, .int .i64 0, .map none] 66))).alloc (.map #[] 0)).alloc (.cells #[.bool false, .bool false, .int .i64 0, .int .i64 (-1), .map (some (w.heap.size + 1))] 66)) = W at S0 S1 B0 hsz ⊢
  generalize hq : w.heap.size + 1 + 1 = q at *
  have hb := HL.out.bel B0
  have e0 := hb.cell 0
  have e1 := hb.cell 1
  have e2 := hb.cell 2
  have e3 := hb.cell 3
  have e4 := hb.cell 4
  simp only [List.getElem?_cons_succ, List.getElem?_cons_zero] at e0 e1 e2 e3 e4
  refine wp_loop_rounds 2 ?_
  rw [rounds_succ]
  go_wp2_with fail
  have hb1 : Below W.heap.size W (W.alloc (.cells #[.int .u8 2, .int .i64 0, .string ⟨#[]⟩, .slice none 0 0, .int .i64 2] 27)) := (Below.refl _ _).alloc (Nat.le_refl _) _
  refine (takes_two0 _ q q none (some (w.heap.size + 1)) (S1.bel hb1) (Nat.le_refl _) (by simp; omega) ?_).mono ?_
  · intro w' hw'
    have := evCheck_any ⟨2, 0, [], [], 2⟩ ⟨by decide, by decide, by decide, by decide, by decide, by decide, ⟨by decide, by decide⟩, by decide, fun h => absurd h (by decide)⟩ none 0 0 w' (.inl ⟨rfl, rfl⟩)
    rw [show evOk ⟨2, 0, [], [], 2⟩ = true from by decide] at this
    exact this
  rintro e w5 ⟨rfl, k1, B5⟩
  have B1q : Below q W w5 := (hb1.mono (by omega)).trans B5
  have k0 : Blk w5 w.heap.size 66 [.bool false, .bool false, .int .i64 0, .int .i64 0, .map none] := (B1q.block w.heap.size (by omega)).trans S0
  have hB5 : Below w.heap.size w w5 := B0.trans (B1q.mono (by omega))
  clear e0 e1 e2 e3 e4 hb hb1 B5 B1q
  have c0 := k1.cell 0
  have c1 := k1.cell 1
  have c2 := k1.cell 2
  have c3 := k1.cell 3
  have c4 := k1.cell 4
  have t0 := k0.cell 0
  have t1 := k0.cell 1
  have t2 := k0.cell 2
  have t3 := k0.cell 3
  have t4 := k0.cell 4
  simp only [List.getElem?_cons_succ, List.getElem?_cons_zero] at c0 c1 c2 c3 c4 t0 t1 t2 t3 t4
  have z0 := k0.fz 0
  have z1 := k0.fz 1
  have z2 := k0.fz 2
  have z3 := k0.fz 3
  have z4 := k0.fz 4
  go_wp2_with fail
  have kF := ((((k0.set 0 (.bool false)).set 1 (.bool false)).set 2 (.int .i64 0)).set 3 (.int .i64 (-1))).set 4 (.map (some (w.heap.size + 1)))
  refine bodyPost_ret (results_cell_row3 (h := rfl) (g := w.heap.size) (t := 66) (cs := ([.bool false, .bool false, .int .i64 0, .int .i64 (-1), .map (some (w.heap.size + 1))] : List Value).toArray) (fr := (0, 0)) (hp := rfl) (hg := kF) (hu := Try.underlying66) (hd := rfl) (hi := by kernel_rfl) _ _) rfl ?_
  refine ⟨_, rfl, ?_⟩
  exact ((((hB5.setCell (p := ⟨w.heap.size, 0, none⟩) (Nat.le_refl _) _).setCell (p := ⟨w.heap.size, 1, none⟩) (Nat.le_refl _) _).setCell (p := ⟨w.heap.size, 2, none⟩) (Nat.le_refl _) _).setCell (p := ⟨w.heap.size, 3, none⟩) (Nat.le_refl _) _).setCell (p := ⟨w.heap.size, 4, none⟩) (Nat.le_refl _) _

theorem form_3 (w : World) (b a a2 : Nat) (hl : Blk w b 27 [.int .u8 1, .int .i64 0, .string ⟨#[102]⟩, .slice (some ⟨a, 0, none⟩) 1 1, .int .i64 1, .int .u8 2, .int .i64 0, .string ⟨#[]⟩, .slice none 0 0, .int .i64 2, .int .u8 3, .int .i64 0, .string ⟨#[112, 97, 121]⟩, .slice (some ⟨a2, 0, none⟩) 1 1, .int .i64 0]) (hv : VIn w (some ⟨a, 0, none⟩) 1 evS.val) (hv2 : VIn w (some ⟨a2, 0, none⟩) 1 evS.val) :
    Calls Try.prog 13 #[.slice (some ⟨b, 0, none⟩) 3 3] w fun e w' => e = .returned (.tuple #[.int .i64 3, .int .i64 4]) ∧ Below w.heap.size w w' := by
  go_enter Try.func13, Try.ntmps13
  go_wp2_with fail
  refine (through_3 w b a a2 hl hv hv2).mono ?_
  rintro e w1 ⟨m, rfl, B⟩
  go_wp2_with fail
  go_ret2
  exact ⟨rfl, B⟩
theorem form_4 (w : World) (b a a2 : Nat) (hl : Blk w b 27 [.int .u8 1, .int .i64 0, .string ⟨#[102]⟩, .slice (some ⟨a, 0, none⟩) 1 1, .int .i64 1, .int .u8 2, .int .i64 0, .string ⟨#[]⟩, .slice none 0 0, .int .i64 2, .int .u8 3, .int .i64 0, .string ⟨#[112, 97, 121]⟩, .slice (some ⟨a2, 0, none⟩) 1 1, .int .i64 0, .int .u8 3, .int .i64 0, .string ⟨#[112, 97, 121]⟩, .slice (some ⟨a2, 0, none⟩) 1 1, .int .i64 0]) (hv : VIn w (some ⟨a, 0, none⟩) 1 evS.val) (hv2 : VIn w (some ⟨a2, 0, none⟩) 1 evS.val) :
    Calls Try.prog 13 #[.slice (some ⟨b, 0, none⟩) 4 4] w fun e w' => e = .returned (.tuple #[.int .i64 3, .int .i64 3]) ∧ Below w.heap.size w w' := by
  go_enter Try.func13, Try.ntmps13
  go_wp2_with fail
  refine (through_4 w b a a2 hl hv hv2).mono ?_
  rintro e w1 ⟨m, rfl, B⟩
  go_wp2_with fail
  go_ret2
  exact ⟨rfl, B⟩
theorem form_two (w : World) (b : Nat) (hl : Blk w b 27 [.int .u8 2, .int .i64 0, .string ⟨#[]⟩, .slice none 0 0, .int .i64 2]) :
    Calls Try.prog 13 #[.slice (some ⟨b, 0, none⟩) 1 1] w fun e w' => e = .returned (.tuple #[.int .i64 0, .int .i64 3]) ∧ Below w.heap.size w w' := by
  go_enter Try.func13, Try.ntmps13
  go_wp2_with fail
  refine (through_two0 w b hl).mono ?_
  rintro e w1 ⟨m, rfl, B⟩
  go_wp2_with fail
  go_ret2
  exact ⟨rfl, B⟩
theorem form_long (w : World) (A : Option Addr) (cap : Nat) :
    Calls Try.prog 13 #[.slice A 4097 cap] w fun e w' => e = .returned (.tuple #[.int .i64 4096, .int .i64 2]) ∧ Below w.heap.size w w' := by
  go_enter Try.func13, Try.ntmps13
  go_wp2_with fail
  refine (through_long w A cap).mono ?_
  rintro e w1 ⟨m, rfl, B⟩
  go_wp2_with fail
  go_ret2
  exact ⟨rfl, B⟩
end Go.Proofs.Yticipdjfkpakpaa
