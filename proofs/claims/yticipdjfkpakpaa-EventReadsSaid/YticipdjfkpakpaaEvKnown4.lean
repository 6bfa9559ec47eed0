/- through of EventKnown's longer histories (under way). -/
import Derived.Test.YticipdjfkpakpaaEvKnown3
import Derived.Handy
import Derived.Carry
namespace Go.Proofs.Yticipdjfkpakpaa
open Go.RowKit
attribute [local go_sem] run_store_cx'

def evP : Ev := ⟨3, 0, [112, 97, 121], [nd0 5], 0⟩
theorem evP_raw : EvRaw evP :=
  ⟨by decide, by decide, by decide, by decide, by decide, by decide, ⟨by decide, by decide⟩, by decide, fun _ => evS_seq⟩
theorem evP_ok : evOk evP = true := by decide
set_option maxRecDepth 20000 in
set_option maxHeartbeats 1600000 in
theorem through_3 (w : World) (b a a2 : Nat) (hl : Blk w b 27 [.int .u8 1, .int .i64 0, .string ⟨#[102]⟩, .slice (some ⟨a, 0, none⟩) 1 1, .int .i64 1, .int .u8 2, .int .i64 0, .string ⟨#[]⟩, .slice none 0 0, .int .i64 2, .int .u8 3, .int .i64 0, .string ⟨#[112, 97, 121]⟩, .slice (some ⟨a2, 0, none⟩) 1 1, .int .i64 0]) (hv : VIn w (some ⟨a, 0, none⟩) 1 evS.val) (hv2 : VIn w (some ⟨a2, 0, none⟩) 1 evS.val) : 
  Calls Try.prog 31 #[.slice (some ⟨b, 0, none⟩) 3 3] w fun e w' => ∃ st, e = .returned (.tuple #[st, .int .i64 3, .int .i64 4]) ∧ Below w.heap.size w w' := by
  have hmm := @run_makeMap Try.prog
  have HL := Lib.hid hl
  have HV := Lib.hid hv
  have HV2 := Lib.hid hv2
  clear hl hv hv2
  go_enter Try.func31, Try.ntmps31
  go_wp2_with fail
  have S0 : Blk ((((w.alloc (.cells #[.bool false, .bool false, .int .i64 0, .int .i64 0, .map none] 66))).alloc (.map #[] 0)).alloc (.cells #[.bool false, .bool false, .int .i64 0, .int .i64 (-1), .map (some (w.heap.size + 1))] 66)) w.heap.size 66 [.bool false, .bool false, .int .i64 0, .int .i64 0, .map none] := by
    refine Blk.alloc (Blk.alloc (heap_alloc_new w _) _) _
  have S1 : Blk ((((w.alloc (.cells #[.bool false, .bool false, .int .i64 0, .int .i64 0, .map none] 66))).alloc (.map #[] 0)).alloc (.cells #[.bool false, .bool false, .int .i64 0, .int .i64 (-1), .map (some (w.heap.size + 1))] 66)) (w.heap.size + 1 + 1) 66 [.bool false, .bool false, .int .i64 0, .int .i64 (-1), .map (some (w.heap.size + 1))] := by
    have := heap_alloc_new ((w.alloc (.cells #[.bool false, .bool false, .int .i64 0, .int .i64 0, .map none] 66)).alloc (.map #[] 0)) (.cells #[.bool false, .bool false, .int .i64 0, .int .i64 (-1), .map (some (w.heap.size + 1))] 66)
    rw [show ((w.alloc (.cells #[.bool false, .bool false, .int .i64 0, .int .i64 0, .map none] 66)).alloc (.map #[] 0)).heap.size = w.heap.size + 1 + 1 from by simp] at this
    exact this
  have B0 : Below w.heap.size w ((((w.alloc (.cells #[.bool false, .bool false, .int .i64 0, .int .i64 0, .map none] 66))).alloc (.map #[] 0)).alloc (.cells #[.bool false, .bool false, .int .i64 0, .int .i64 (-1), .map (some (w.heap.size + 1))] 66)) := (((Below.refl _ _).alloc (Nat.le_refl _) _).alloc (by simp) _).alloc (by simp; omega) _
  have hsz : ((((w.alloc (.cells #[.bool false, .bool false, .int .i64 0, .int .i64 0, .map none] 66))).alloc (.map #[] 0)).alloc (.cells #[.bool false, .bool false, .int .i64 0, .int .i64 (-1), .map (some (w.heap.size + 1))] 66)).heap.size = w.heap.size + 3 := by simp
  have MW : (((((w.alloc (.cells #[.bool false, .bool false, .int .i64 0, .int .i64 0, .map none] 66))).alloc (.map #[] 0)).alloc (.cells #[.bool false, .bool false, .int .i64 0, .int .i64 (-1), .map (some (w.heap.size + 1))] 66))).heap[w.heap.size + 1]? = some (.map #[] 0) := (Below.heap_alloc _ _ _ (by simp)).trans (by have := heap_alloc_new (w.alloc (.cells #[.bool false, .bool false, .int .i64 0, .int .i64 0, .map none] 66)) (.map #[] 0); rwa [show (w.alloc (.cells #[.bool false, .bool false, .int .i64 0, .int .i64 0, .map none] 66)).heap.size = w.heap.size + 1 from by simp] at this)
  generalize ((((w.alloc (.cells #[.bool false, .bool false, .int .i64 0, .int .i64 0, .map none] 66))).alloc (.map #[] 0)).alloc (.cells #[.bool false, .bool false, .int .i64 0, .int .i64 (-1), .map (some (w.heap.size + 1))] 66)) = W at S0 S1 B0 hsz MW ⊢
  generalize hq : w.heap.size + 1 + 1 = q at *
  have hmW : W.heap[w.heap.size + 1]? = some (.map #[] 0) := MW
  have hb := HL.out.bel B0
  have e0 := hb.cell 0
  have e1 := hb.cell 1
  have e2 := hb.cell 2
  have e3 := hb.cell 3
  have e4 := hb.cell 4
  simp only [List.getElem?_cons_succ, List.getElem?_cons_zero] at e0 e1 e2 e3 e4
  refine wp_loop_rounds 4 ?_
  rw [rounds_succ]
  go_wp2_with fail
  have hb1 : Below W.heap.size W (W.alloc (.cells #[.int .u8 1, .int .i64 0, .string ⟨#[102]⟩, .slice (some ⟨a, 0, none⟩) 1 1, .int .i64 1] 27)) := (Below.refl _ _).alloc (Nat.le_refl _) _
  refine (takes_1 _ q (some ⟨a, 0, none⟩) _ (S1.bel hb1) ?_).mono ?_
  · intro w' hw'
    have := evCheck_any evS evS_raw (some ⟨a, 0, none⟩) 1 1 w' (HV.out.below (B0.trans ((hb1.mono (by omega)).trans (hw'.mono (by simp; omega)))))
    rw [evS_ok] at this
    exact this
  rintro e w5 ⟨rfl, k1, G⟩
  have k0 := (S0.bel hb1).grown G (by omega)
  have hG : W.grownBy w5 (some q) := ⟨G.os.trans hb1.os, G.tape.trans hb1.tape, G.output.trans hb1.output, Nat.le_trans hb1.size G.size, fun i hi hne => (G.block i (Nat.lt_of_lt_of_le hi hb1.size) hne).trans (hb1.block i hi)⟩
  have hB5 : Below w.heap.size w w5 := ⟨hG.os.trans B0.os, hG.tape.trans B0.tape, hG.output.trans B0.output, Nat.le_trans B0.size hG.size, fun i hi => (hG.block i (by omega) (by intro h; injection h with h; omega)).trans (B0.block i hi)⟩
  clear G hb1 e0 e1 e2 e3 e4 hb S0 S1 B0
  have c0 := k1.cell 0
  have c1 := k1.cell 1
  have c2 := k1.cell 2
  have c3 := k1.cell 3
  have c4 := k1.cell 4
  simp only [List.getElem?_cons_succ, List.getElem?_cons_zero] at c0 c1 c2 c3 c4
  have t0 := k0.cell 0
  have t1 := k0.cell 1
  have t2 := k0.cell 2
  have t3 := k0.cell 3
  have t4 := k0.cell 4
  simp only [List.getElem?_cons_succ, List.getElem?_cons_zero] at t0 t1 t2 t3 t4
  have z0 := k0.fz 0
  have z1 := k0.fz 1
  have z2 := k0.fz 2
  have z3 := k0.fz 3
  have z4 := k0.fz 4
  have hne : q ≠ w.heap.size := by omega
  have hm5 : w5.heap[w.heap.size + 1]? = some (.map #[] 0) := (hG.block _ (by omega) (by intro h; injection h with h; omega)).trans hmW
  have hb := HL.out.bel hB5
  have e0 := hb.cell 5
  have e1 := hb.cell 6
  have e2 := hb.cell 7
  have e3 := hb.cell 8
  have e4 := hb.cell 9
  simp only [List.getElem?_cons_succ, List.getElem?_cons_zero] at e0 e1 e2 e3 e4
  go_wp2_with fail
  rw [rounds_succ]
  go_wp2_with fail
  have hb2 : Below w5.heap.size w5 (w5.alloc (.cells #[.int .u8 2, .int .i64 0, .string ⟨#[]⟩, .slice none 0 0, .int .i64 2] 27)) := (Below.refl _ _).alloc (Nat.le_refl _) _
  have hs5 := k1.lt
  refine (takes_two _ q q none (some (w.heap.size + 1)) (k1.bel hb2) (Nat.le_refl _) (by simp; omega) ?_).mono ?_
  · intro w' hw'
    have := evCheck_any ⟨2, 0, [], [], 2⟩ ⟨by decide, by decide, by decide, by decide, by decide, by decide, ⟨by decide, by decide⟩, by decide, fun h => absurd h (by decide)⟩ none 0 0 w' (.inl ⟨rfl, rfl⟩)
    rw [show evOk ⟨2, 0, [], [], 2⟩ = true from by decide] at this
    exact this
  rintro e w6 ⟨rfl, k6, B6⟩
  have B56 : Below q w5 w6 := (hb2.mono (by omega)).trans B6
  have k06 : Blk w6 w.heap.size 66 [.bool false, .bool false, .int .i64 0, .int .i64 0, .map none] := (B56.block w.heap.size (by omega)).trans k0
  have hm6 : w6.heap[w.heap.size + 1]? = some (.map #[] 0) := (B56.block _ (by omega)).trans hm5
  have hB6 : Below w.heap.size w w6 := hB5.trans (B56.mono (by omega))
  clear e0 e1 e2 e3 e4 c0 c1 c2 c3 c4 t0 t1 t2 t3 t4 z0 z1 z2 z3 z4 hb hb2 B6
  have hb := HL.out.bel hB6
  have e0 := hb.cell 10
  have e1 := hb.cell 11
  have e2 := hb.cell 12
  have e3 := hb.cell 13
  have e4 := hb.cell 14
  simp only [List.getElem?_cons_succ, List.getElem?_cons_zero] at e0 e1 e2 e3 e4
  go_wp2_with fail
  rw [rounds_succ]
  go_wp2_with fail
  have hb2 : Below w6.heap.size w6 (w6.alloc (.cells #[.int .u8 3, .int .i64 0, .string ⟨#[112, 97, 121]⟩, .slice (some ⟨a2, 0, none⟩) 1 1, .int .i64 0] 27)) := (Below.refl _ _).alloc (Nat.le_refl _) _
  have hs6 := k6.lt
  refine (takes_pay1 _ q (w.heap.size + 1) (some ⟨a2, 0, none⟩) (w.heap.size + 1) (k6.bel hb2) (by omega) (by simp; omega) ((hb2.block _ (by omega)).trans hm6) (Nat.le_refl _) ?_).mono ?_
  · intro w' hw'
    have := evCheck_any evP evP_raw (some ⟨a2, 0, none⟩) 1 1 w' (HV2.out.below (hB6.trans ((hb2.mono (by omega)).trans (hw'.mono (by simp; omega)))))
    rw [evP_ok] at this
    exact this
  rintro e w7 ⟨rfl, k7, B7⟩
  have B67 : Below (w.heap.size + 1) w6 w7 := (hb2.mono (by omega)).trans B7
  have k07 : Blk w7 w.heap.size 66 [.bool false, .bool false, .int .i64 0, .int .i64 0, .map none] := (B67.block w.heap.size (by omega)).trans k06
  have hB7 : Below w.heap.size w w7 := hB6.trans (B67.mono (by omega))
  clear e0 e1 e2 e3 e4 hb hb2 B7
  have c0 := k7.cell 0
  have c1 := k7.cell 1
  have c2 := k7.cell 2
  have c3 := k7.cell 3
  have c4 := k7.cell 4
  have t0 := k07.cell 0
  have t1 := k07.cell 1
  have t2 := k07.cell 2
  have t3 := k07.cell 3
  have t4 := k07.cell 4
  simp only [List.getElem?_cons_succ, List.getElem?_cons_zero] at c0 c1 c2 c3 c4 t0 t1 t2 t3 t4
  have z0 := k07.fz 0
  have z1 := k07.fz 1
  have z2 := k07.fz 2
  have z3 := k07.fz 3
  have z4 := k07.fz 4
  go_wp2_with fail
  rw [rounds_succ]
  go_wp2_with fail
  have kF := ((((k07.set 0 (.bool true)).set 1 (.bool false)).set 2 (.int .i64 1)).set 3 (.int .i64 0)).set 4 (.map (some (w.heap.size + 1)))
  refine bodyPost_ret (results_cell_row3 (h := rfl) (g := w.heap.size) (t := 66) (cs := ([.bool true, .bool false, .int .i64 1, .int .i64 0, .map (some (w.heap.size + 1))] : List Value).toArray) (fr := (0, 0)) (hp := rfl) (hg := kF) (hu := Try.underlying66) (hd := rfl) (hi := by kernel_rfl) _ _) rfl ?_
  refine ⟨_, rfl, ?_⟩
  exact ((((hB7.setCell (p := ⟨w.heap.size, 0, none⟩) (Nat.le_refl _) _).setCell (p := ⟨w.heap.size, 1, none⟩) (Nat.le_refl _) _).setCell (p := ⟨w.heap.size, 2, none⟩) (Nat.le_refl _) _).setCell (p := ⟨w.heap.size, 3, none⟩) (Nat.le_refl _) _).setCell (p := ⟨w.heap.size, 4, none⟩) (Nat.le_refl _) _
set_option maxRecDepth 20000 in
set_option maxHeartbeats 1600000 in
theorem through_4 (w : World) (b a a2 : Nat) (hl : Blk w b 27 [.int .u8 1, .int .i64 0, .string ⟨#[102]⟩, .slice (some ⟨a, 0, none⟩) 1 1, .int .i64 1, .int .u8 2, .int .i64 0, .string ⟨#[]⟩, .slice none 0 0, .int .i64 2, .int .u8 3, .int .i64 0, .string ⟨#[112, 97, 121]⟩, .slice (some ⟨a2, 0, none⟩) 1 1, .int .i64 0, .int .u8 3, .int .i64 0, .string ⟨#[112, 97, 121]⟩, .slice (some ⟨a2, 0, none⟩) 1 1, .int .i64 0]) (hv : VIn w (some ⟨a, 0, none⟩) 1 evS.val) (hv2 : VIn w (some ⟨a2, 0, none⟩) 1 evS.val) : 
  Calls Try.prog 31 #[.slice (some ⟨b, 0, none⟩) 4 4] w fun e w' => ∃ st, e = .returned (.tuple #[st, .int .i64 3, .int .i64 3]) ∧ Below w.heap.size w w' := by
  have hmm := @run_makeMap Try.prog
  have HL := Lib.hid hl
  have HV := Lib.hid hv
  have HV2 := Lib.hid hv2
  clear hl hv hv2
  go_enter Try.func31, Try.ntmps31
  go_wp2_with fail
  have S0 : Blk ((((w.alloc (.cells #[.bool false, .bool false, .int .i64 0, .int .i64 0, .map none] 66))).alloc (.map #[] 0)).alloc (.cells #[.bool false, .bool false, .int .i64 0, .int .i64 (-1), .map (some (w.heap.size + 1))] 66)) w.heap.size 66 [.bool false, .bool false, .int .i64 0, .int .i64 0, .map none] := by
    refine Blk.alloc (Blk.alloc (heap_alloc_new w _) _) _
  have S1 : Blk ((((w.alloc (.cells #[.bool false, .bool false, .int .i64 0, .int .i64 0, .map none] 66))).alloc (.map #[] 0)).alloc (.cells #[.bool false, .bool false, .int .i64 0, .int .i64 (-1), .map (some (w.heap.size + 1))] 66)) (w.heap.size + 1 + 1) 66 [.bool false, .bool false, .int .i64 0, .int .i64 (-1), .map (some (w.heap.size + 1))] := by
    have := heap_alloc_new ((w.alloc (.cells #[.bool false, .bool false, .int .i64 0, .int .i64 0, .map none] 66)).alloc (.map #[] 0)) (.cells #[.bool false, .bool false, .int .i64 0, .int .i64 (-1), .map (some (w.heap.size + 1))] 66)
    rw [show ((w.alloc (.cells #[.bool false, .bool false, .int .i64 0, .int .i64 0, .map none] 66)).alloc (.map #[] 0)).heap.size = w.heap.size + 1 + 1 from by simp] at this
    exact this
  have B0 : Below w.heap.size w ((((w.alloc (.cells #[.bool false, .bool false, .int .i64 0, .int .i64 0, .map none] 66))).alloc (.map #[] 0)).alloc (.cells #[.bool false, .bool false, .int .i64 0, .int .i64 (-1), .map (some (w.heap.size + 1))] 66)) := (((Below.refl _ _).alloc (Nat.le_refl _) _).alloc (by simp) _).alloc (by simp; omega) _
  have hsz : ((((w.alloc (.cells #[.bool false, .bool false, .int .i64 0, .int .i64 0, .map none] 66))).alloc (.map #[] 0)).alloc (.cells #[.bool false, .bool false, .int .i64 0, .int .i64 (-1), .map (some (w.heap.size + 1))] 66)).heap.size = w.heap.size + 3 := by simp
  have MW : (((((w.alloc (.cells #[.bool false, .bool false, .int .i64 0, .int .i64 0, .map none] 66))).alloc (.map #[] 0)).alloc (.cells #[.bool false, .bool false, .int .i64 0, .int .i64 (-1), .map (some (w.heap.size + 1))] 66))).heap[w.heap.size + 1]? = some (.map #[] 0) := (Below.heap_alloc _ _ _ (by simp)).trans (by have := heap_alloc_new (w.alloc (.cells #[.bool false, .bool false, .int .i64 0, .int .i64 0, .map none] 66)) (.map #[] 0); rwa [show (w.alloc (.cells #[.bool false, .bool false, .int .i64 0, .int .i64 0, .map none] 66)).heap.size = w.heap.size + 1 from by simp] at this)
  generalize ((((w.alloc (.cells #[.bool false, .bool false, .int .i64 0, .int .i64 0, .map none] 66))).alloc (.map #[] 0)).alloc (.cells #[.bool false, .bool false, .int .i64 0, .int .i64 (-1), .map (some (w.heap.size + 1))] 66)) = W at S0 S1 B0 hsz MW ⊢
  generalize hq : w.heap.size + 1 + 1 = q at *
  have hmW : W.heap[w.heap.size + 1]? = some (.map #[] 0) := MW
  have hb := HL.out.bel B0
  have e0 := hb.cell 0
  have e1 := hb.cell 1
  have e2 := hb.cell 2
  have e3 := hb.cell 3
  have e4 := hb.cell 4
  simp only [List.getElem?_cons_succ, List.getElem?_cons_zero] at e0 e1 e2 e3 e4
  refine wp_loop_rounds 5 ?_
  rw [rounds_succ]
  go_wp2_with fail
  have hb1 : Below W.heap.size W (W.alloc (.cells #[.int .u8 1, .int .i64 0, .string ⟨#[102]⟩, .slice (some ⟨a, 0, none⟩) 1 1, .int .i64 1] 27)) := (Below.refl _ _).alloc (Nat.le_refl _) _
  refine (takes_1 _ q (some ⟨a, 0, none⟩) _ (S1.bel hb1) ?_).mono ?_
  · intro w' hw'
    have := evCheck_any evS evS_raw (some ⟨a, 0, none⟩) 1 1 w' (HV.out.below (B0.trans ((hb1.mono (by omega)).trans (hw'.mono (by simp; omega)))))
    rw [evS_ok] at this
    exact this
  rintro e w5 ⟨rfl, k1, G⟩
  have k0 := (S0.bel hb1).grown G (by omega)
  have hG : W.grownBy w5 (some q) := ⟨G.os.trans hb1.os, G.tape.trans hb1.tape, G.output.trans hb1.output, Nat.le_trans hb1.size G.size, fun i hi hne => (G.block i (Nat.lt_of_lt_of_le hi hb1.size) hne).trans (hb1.block i hi)⟩
  have hB5 : Below w.heap.size w w5 := ⟨hG.os.trans B0.os, hG.tape.trans B0.tape, hG.output.trans B0.output, Nat.le_trans B0.size hG.size, fun i hi => (hG.block i (by omega) (by intro h; injection h with h; omega)).trans (B0.block i hi)⟩
  clear G hb1 e0 e1 e2 e3 e4 hb S0 S1 B0
  have c0 := k1.cell 0
  have c1 := k1.cell 1
  have c2 := k1.cell 2
  have c3 := k1.cell 3
  have c4 := k1.cell 4
  simp only [List.getElem?_cons_succ, List.getElem?_cons_zero] at c0 c1 c2 c3 c4
  have t0 := k0.cell 0
  have t1 := k0.cell 1
  have t2 := k0.cell 2
  have t3 := k0.cell 3
  have t4 := k0.cell 4
  simp only [List.getElem?_cons_succ, List.getElem?_cons_zero] at t0 t1 t2 t3 t4
  have z0 := k0.fz 0
  have z1 := k0.fz 1
  have z2 := k0.fz 2
  have z3 := k0.fz 3
  have z4 := k0.fz 4
  have hne : q ≠ w.heap.size := by omega
  have hm5 : w5.heap[w.heap.size + 1]? = some (.map #[] 0) := (hG.block _ (by omega) (by intro h; injection h with h; omega)).trans hmW
  have hb := HL.out.bel hB5
  have e0 := hb.cell 5
  have e1 := hb.cell 6
  have e2 := hb.cell 7
  have e3 := hb.cell 8
  have e4 := hb.cell 9
  simp only [List.getElem?_cons_succ, List.getElem?_cons_zero] at e0 e1 e2 e3 e4
  go_wp2_with fail
  rw [rounds_succ]
  go_wp2_with fail
  have hb2 : Below w5.heap.size w5 (w5.alloc (.cells #[.int .u8 2, .int .i64 0, .string ⟨#[]⟩, .slice none 0 0, .int .i64 2] 27)) := (Below.refl _ _).alloc (Nat.le_refl _) _
  have hs5 := k1.lt
  refine (takes_two _ q q none (some (w.heap.size + 1)) (k1.bel hb2) (Nat.le_refl _) (by simp; omega) ?_).mono ?_
  · intro w' hw'
    have := evCheck_any ⟨2, 0, [], [], 2⟩ ⟨by decide, by decide, by decide, by decide, by decide, by decide, ⟨by decide, by decide⟩, by decide, fun h => absurd h (by decide)⟩ none 0 0 w' (.inl ⟨rfl, rfl⟩)
    rw [show evOk ⟨2, 0, [], [], 2⟩ = true from by decide] at this
    exact this
  rintro e w6 ⟨rfl, k6, B6⟩
  have B56 : Below q w5 w6 := (hb2.mono (by omega)).trans B6
  have k06 : Blk w6 w.heap.size 66 [.bool false, .bool false, .int .i64 0, .int .i64 0, .map none] := (B56.block w.heap.size (by omega)).trans k0
  have hm6 : w6.heap[w.heap.size + 1]? = some (.map #[] 0) := (B56.block _ (by omega)).trans hm5
  have hB6 : Below w.heap.size w w6 := hB5.trans (B56.mono (by omega))
  clear e0 e1 e2 e3 e4 c0 c1 c2 c3 c4 t0 t1 t2 t3 t4 z0 z1 z2 z3 z4 hb hb2 B6
  have hb := HL.out.bel hB6
  have e0 := hb.cell 10
  have e1 := hb.cell 11
  have e2 := hb.cell 12
  have e3 := hb.cell 13
  have e4 := hb.cell 14
  simp only [List.getElem?_cons_succ, List.getElem?_cons_zero] at e0 e1 e2 e3 e4
  go_wp2_with fail
  rw [rounds_succ]
  go_wp2_with fail
  have hb2 : Below w6.heap.size w6 (w6.alloc (.cells #[.int .u8 3, .int .i64 0, .string ⟨#[112, 97, 121]⟩, .slice (some ⟨a2, 0, none⟩) 1 1, .int .i64 0] 27)) := (Below.refl _ _).alloc (Nat.le_refl _) _
  have hs6 := k6.lt
  refine (takes_pay1 _ q (w.heap.size + 1) (some ⟨a2, 0, none⟩) (w.heap.size + 1) (k6.bel hb2) (by omega) (by simp; omega) ((hb2.block _ (by omega)).trans hm6) (Nat.le_refl _) ?_).mono ?_
  · intro w' hw'
    have := evCheck_any evP evP_raw (some ⟨a2, 0, none⟩) 1 1 w' (HV2.out.below (hB6.trans ((hb2.mono (by omega)).trans (hw'.mono (by simp; omega)))))
    rw [evP_ok] at this
    exact this
  rintro e w7 ⟨rfl, k7, B7⟩
  have B67 : Below (w.heap.size + 1) w6 w7 := (hb2.mono (by omega)).trans B7
  have k07 : Blk w7 w.heap.size 66 [.bool false, .bool false, .int .i64 0, .int .i64 0, .map none] := (B67.block w.heap.size (by omega)).trans k06
  have hB7 : Below w.heap.size w w7 := hB6.trans (B67.mono (by omega))
  clear e0 e1 e2 e3 e4 hb hb2 B7
  have c0 := k7.cell 0
  have c1 := k7.cell 1
  have c2 := k7.cell 2
  have c3 := k7.cell 3
  have c4 := k7.cell 4
  have t0 := k07.cell 0
  have t1 := k07.cell 1
  have t2 := k07.cell 2
  have t3 := k07.cell 3
  have t4 := k07.cell 4
  simp only [List.getElem?_cons_succ, List.getElem?_cons_zero] at c0 c1 c2 c3 c4 t0 t1 t2 t3 t4
  have z0 := k07.fz 0
  have z1 := k07.fz 1
  have z2 := k07.fz 2
  have z3 := k07.fz 3
  have z4 := k07.fz 4
  have hb := HL.out.bel hB7
  have e0 := hb.cell 15
  have e1 := hb.cell 16
  have e2 := hb.cell 17
  have e3 := hb.cell 18
  have e4 := hb.cell 19
  simp only [List.getElem?_cons_succ, List.getElem?_cons_zero] at e0 e1 e2 e3 e4
  go_wp2_with fail
  rw [rounds_succ]
  go_wp2_with fail
  have hb2 : Below w7.heap.size w7 (w7.alloc (.cells #[.int .u8 3, .int .i64 0, .string ⟨#[112, 97, 121]⟩, .slice (some ⟨a2, 0, none⟩) 1 1, .int .i64 0] 27)) := (Below.refl _ _).alloc (Nat.le_refl _) _
  have hs7 := k7.lt
  refine (takes_pay0 _ q (w.heap.size + 1) (some ⟨a2, 0, none⟩) (some (w.heap.size + 1)) (k7.bel hb2) (by omega) (by simp; omega) ?_).mono ?_
  · intro w' hw'
    have := evCheck_any evP evP_raw (some ⟨a2, 0, none⟩) 1 1 w' (HV2.out.below (hB7.trans ((hb2.mono (by omega)).trans (hw'.mono (by simp; omega)))))
    rw [evP_ok] at this
    exact this
  rintro e w8 ⟨rfl, k8, B8⟩
  have B78 : Below (w.heap.size + 1) w7 w8 := (hb2.mono (by omega)).trans B8
  have k08 : Blk w8 w.heap.size 66 [.bool false, .bool false, .int .i64 0, .int .i64 0, .map none] := (B78.block w.heap.size (by omega)).trans k07
  have hB8 : Below w.heap.size w w8 := hB7.trans (B78.mono (by omega))
  clear e0 e1 e2 e3 e4 hb hb2 B8 c0 c1 c2 c3 c4 t0 t1 t2 t3 t4 z0 z1 z2 z3 z4
  have c0 := k8.cell 0
  have c1 := k8.cell 1
  have c2 := k8.cell 2
  have c3 := k8.cell 3
  have c4 := k8.cell 4
  have t0 := k08.cell 0
  have t1 := k08.cell 1
  have t2 := k08.cell 2
  have t3 := k08.cell 3
  have t4 := k08.cell 4
  simp only [List.getElem?_cons_succ, List.getElem?_cons_zero] at c0 c1 c2 c3 c4 t0 t1 t2 t3 t4
  have z0 := k08.fz 0
  have z1 := k08.fz 1
  have z2 := k08.fz 2
  have z3 := k08.fz 3
  have z4 := k08.fz 4
  go_wp2_with fail
  have kF := ((((k08.set 0 (.bool true)).set 1 (.bool false)).set 2 (.int .i64 0)).set 3 (.int .i64 0)).set 4 (.map (some (w.heap.size + 1)))
  refine bodyPost_ret (results_cell_row3 (h := rfl) (g := w.heap.size) (t := 66) (cs := ([.bool true, .bool false, .int .i64 0, .int .i64 0, .map (some (w.heap.size + 1))] : List Value).toArray) (fr := (0, 0)) (hp := rfl) (hg := kF) (hu := Try.underlying66) (hd := rfl) (hi := by kernel_rfl) _ _) rfl ?_
  refine ⟨_, rfl, ?_⟩
  exact ((((hB8.setCell (p := ⟨w.heap.size, 0, none⟩) (Nat.le_refl _) _).setCell (p := ⟨w.heap.size, 1, none⟩) (Nat.le_refl _) _).setCell (p := ⟨w.heap.size, 2, none⟩) (Nat.le_refl _) _).setCell (p := ⟨w.heap.size, 3, none⟩) (Nat.le_refl _) _).setCell (p := ⟨w.heap.size, 4, none⟩) (Nat.le_refl _) _
end Go.Proofs.Yticipdjfkpakpaa
