/- What each statement of chapter 17 begins with: awake() is true. -/
import Derived.Test.YticipdjfkpakpaaEvRead1
import Derived.RegionTactic
import Derived.Handy
import Derived.Carry
import Derived.ChangeAlike
import Derived.StillTailTactics
namespace Go.Proofs.Yticipdjfkpakpaa
open Go.RowKit
attribute [local go_sem] run_store_cx'

set_option maxRecDepth 20000 in
set_option maxHeartbeats 800000 in
theorem order_1 (w : World) : Calls Try.prog 73 #[.int .u8 1] w fun e w' => e = .returned (.bool false) ∧ w' = w := by
  go_enter Try.func73, Try.ntmps73
  go_wp2_with fail
  all_goals go_ret
  all_goals exact ⟨rfl, rfl⟩
theorem last_1 (w : World) : Calls Try.prog 74 #[.int .u8 1] w fun e w' => e = .returned (.bool false) ∧ w' = w := by
  go_enter Try.func74, Try.ntmps74
  go_wp2_with fail
  all_goals go_ret
  all_goals exact ⟨rfl, rfl⟩


set_option maxRecDepth 20000 in
set_option maxHeartbeats 1600000 in
theorem takes_1 (w : World) (s : Nat) (A : Option Addr) (m : Value) (hs : Blk w s 66 [.bool false, .bool false, .int .i64 0, .int .i64 (-1), m]) 
  (hc : ∀ w', Below w.heap.size w w' → Calls Try.prog 16 #[.agg #[.int .u8 1, .int .i64 0, .string ⟨#[102]⟩, .slice A 1 1, .int .i64 1]] w' fun e w'' => e = .returned (.int .i64 0) ∧ Below w'.heap.size w' w'') :
  Calls Try.prog 53 #[.pointer (some ⟨s, 0, none⟩), .agg #[.int .u8 1, .int .i64 0, .string ⟨#[102]⟩, .slice A 1 1, .int .i64 1]] w fun e w' => e = .returned (.bool true) ∧ Blk w' s 66 [.bool true, .bool false, .int .i64 0, .int .i64 (-1), m] ∧ w.grownBy w' (some s) := by
  have hlt := hs.lt
  have W0 : Blk (w.alloc (.cells #[.int .u8 1, .int .i64 0, .string ⟨#[102]⟩, .slice A 1 1, .int .i64 1] 27)) w.heap.size 27 [.int .u8 1, .int .i64 0, .string ⟨#[102]⟩, .slice A 1 1, .int .i64 1] := heap_alloc_new w _
  have B0 : Below w.heap.size w (w.alloc (.cells #[.int .u8 1, .int .i64 0, .string ⟨#[102]⟩, .slice A 1 1, .int .i64 1] 27)) := (Below.refl _ _).alloc (Nat.le_refl _) _
  have hs0 := hs.bel B0
  have HC := Lib.hid hc
  clear hc
  go_enter Try.func53, Try.ntmps53
  go_wp2_with fail
  have hg0 : w.heap.size < (w.alloc (.cells #[.int .u8 1, .int .i64 0, .string ⟨#[102]⟩, .slice A 1 1, .int .i64 1] 27)).heap.size := by simp
  generalize (w.alloc (.cells #[.int .u8 1, .int .i64 0, .string ⟨#[102]⟩, .slice A 1 1, .int .i64 1] 27)) = W at W0 B0 hs0 hg0 ⊢
  generalize hgg : w.heap.size = g at *
  have c0 := hs0.cell 0
  have c1 := hs0.cell 1
  have c2 := hs0.cell 2
  have g0 := W0.cell 0
  have g1 := W0.cell 1
  have g2 := W0.cell 2
  have g3 := W0.cell 3
  have g4 := W0.cell 4
  simp only [List.getElem?_cons_succ, List.getElem?_cons_zero] at c0 c1 c2 g0 g1 g2 g3 g4
  have hlt0 := hs0.lt
  have hk5 : ∀ X, Below W.heap.size W X → X.cell? ⟨s, 0, none⟩ = some (.bool false) ∧ X.cell? ⟨s, 1, none⟩ = some (.bool false) ∧ X.cell? ⟨s, 2, none⟩ = some (.int .i64 0) ∧ X.cell? ⟨g, 0, none⟩ = some (.int .u8 1) ∧ X.cell? ⟨g, 1, none⟩ = some (.int .i64 0) ∧ X.cell? ⟨g, 2, none⟩ = some (.string ⟨#[102]⟩) ∧ X.cell? ⟨g, 3, none⟩ = some (.slice A 1 1) ∧ X.cell? ⟨g, 4, none⟩ = some (.int .i64 1) := fun X hX =>
    ⟨(hX.cell (p := ⟨s, 0, none⟩) hlt0).trans c0, (hX.cell (p := ⟨s, 1, none⟩) hlt0).trans c1, (hX.cell (p := ⟨s, 2, none⟩) hlt0).trans c2, (hX.cell (p := ⟨g, 0, none⟩) hg0).trans g0, (hX.cell (p := ⟨g, 1, none⟩) hg0).trans g1, (hX.cell (p := ⟨g, 2, none⟩) hg0).trans g2, (hX.cell (p := ⟨g, 3, none⟩) hg0).trans g3, (hX.cell (p := ⟨g, 4, none⟩) hg0).trans g4⟩
  go_region_held3 (fun X => X.cell? ⟨s, 0, none⟩ = some (.bool false) ∧ X.cell? ⟨s, 1, none⟩ = some (.bool false) ∧ X.cell? ⟨s, 2, none⟩ = some (.int .i64 0) ∧ X.cell? ⟨g, 0, none⟩ = some (.int .u8 1) ∧ X.cell? ⟨g, 1, none⟩ = some (.int .i64 0) ∧ X.cell? ⟨g, 2, none⟩ = some (.string ⟨#[102]⟩) ∧ X.cell? ⟨g, 3, none⟩ = some (.slice A 1 1) ∧ X.cell? ⟨g, 4, none⟩ = some (.int .i64 1)) (first | exact ⟨c0, c1, c2, g0, g1, g2, g3, g4⟩ | exact hS5) (first | (go_at_call 16; refine (HC.out _ (below_drewN B0 1)).mono ?_; rintro e w5 ⟨rfl, B5⟩; have hB5 : Below W.heap.size W w5 := (below_drewN (Below.refl _ W) 1).trans B5; have hS5 := hk5 w5 hB5) | (go_at_call 73; refine (order_1 _).mono ?_; rintro e wo ⟨rfl, rfl⟩))
  obtain ⟨k0, k1, k2, n0, n1, n2, n3, n4⟩ := hS5
  have hbs := hs0.bel hB5
  have hbg := W0.bel hB5
  have z0 := hbs.fz 0
  have z1 := hbs.fz 1
  have z2 := hbs.fz 2
  have hgw : g < wo.heap.size := hbg.lt
  have hne : s ≠ g := by omega
  go_wp2_with (first | (go_at_call 73; refine (order_1 _).mono ?_; rintro e wp ⟨rfl, rfl⟩) | (go_at_call 74; refine (last_1 _).mono ?_; rintro e wp ⟨rfl, rfl⟩))
  go_ret
  exact ⟨rfl, (hbs.set 0 (.bool true)).set 1 (.bool false), grown_set (grown_set (grown_of_below (by rw [hgg]; exact B0.trans (hB5.mono (by omega))) _) _ _) _ _⟩

def evS : Ev := ⟨1, 0, [102], [nd0 5], 1⟩
theorem evS_seq : ValOk evS.val ∧ ∀ y ∈ evS.val, I64 y.int := by
  have h : rdValue [5, 0] = .ok ([nd0 5], 2) := by rfl
  obtain ⟨sz, hI⟩ := rdValue_inv h
  exact ⟨hI.valOk, fun x hx => (hI.ok x hx).2.1⟩
theorem evS_raw : EvRaw evS :=
  ⟨by decide, by decide, by decide, by decide, by decide, by decide, ⟨by decide, by decide⟩, by decide, fun _ => evS_seq⟩
theorem evS_ok : evOk evS = true := by decide
set_option maxRecDepth 20000 in
set_option maxHeartbeats 1600000 in
theorem through_1 (w : World) (b a : Nat) (hl : Blk w b 27 [.int .u8 1, .int .i64 0, .string ⟨#[102]⟩, .slice (some ⟨a, 0, none⟩) 1 1, .int .i64 1]) (hv : VIn w (some ⟨a, 0, none⟩) 1 evS.val) : 
  Calls Try.prog 31 #[.slice (some ⟨b, 0, none⟩) 1 1] w fun e w' => ∃ m, e = .returned (.tuple #[.agg #[.bool true, .bool false, .int .i64 0, .int .i64 (-1), .map m], .int .i64 0, .int .i64 0]) ∧ Below w.heap.size w w' := by
  have hmm := @run_makeMap Try.prog
  have HL := Lib.hid hl
  have HV := Lib.hid hv
  clear hl hv
  go_enter Try.func31, Try.ntmps31
  go_wp2_with fail
  have S0 : Blk ((((w.alloc (.cells #[.bool false, .bool false, .int .i64 0, .int .i64 0, .map none] 66))).alloc (.map #[] 0)).alloc (.cells #[.bool false, .bool false, .int .i64 0, .int .i64 (-1), .map (some (w.heap.size + 1))] 66)) w.heap.size 66 [.bool false, .bool false, .int .i64 0, .int .i64 0, .map none] := by
    refine Blk.alloc (Blk.alloc (heap_alloc_new w _) _) _
  have S1 : Blk ((((w.alloc (.cells #[.bool false, .bool false, .int .i64 0, .int .i64 0, .map none] 66))).alloc (.map #[] 0)).alloc (.cells #[.bool false, .bool false, .int .i64 0, .int .i64 (-1), .map (some (w.heap.size + 1))] 66)) (w.heap.size + 1 + 1) 66 [.bool false, .bool false, .int .i64 0, .int .i64 (-1), .map (some (w.heap.size + 1))] := by
    have := heap_alloc_new ((w.alloc (.cells #[.bool false, .bool false, .int .i64 0, .int .i64 0, .map none] 66)).alloc (.map #[] 0)) (.cells #[.bool false, .bool false, .int .i64 0, .int .i64 (-1), .map (some (w.heap.size + 1))] 66)
    rw [show ((w.alloc (.cells #[.bool false, .bool false, .int .i64 0, .int .i64 0, .map none] 66)).alloc (.map #[] 0)).heap.size = w.heap.size + 1 + 1 from by simp] at this
    exact this
  have B0 : Below w.heap.size w ((((w.alloc (.cells #[.bool false, .bool false, .int .i64 0, .int .i64 0, .map none] 66))).alloc (.map #[] 0)).alloc (.cells #[.bool false, .bool false, .int .i64 0, .int .i64 (-1), .map (some (w.heap.size + 1))] 66)) := (((Below.refl _ _).alloc (Nat.le_refl _) _).alloc (by simp) _).alloc (by simp; omega) _
  have hsz : ((((w.alloc (.cells #[.bool false, .bool false, .int .i64 0, .int .i64 0, .map none] 66))).alloc (.map #[] 0)).alloc (.cells #[.bool false, .bool false, .int .i64 0, .int .i64 (-1), .map (some (w.heap.size + 1))] 66)).heap.size = w.heap.size + 3 := by simp
  generalize ((((w.alloc (.cells #[.bool false, .bool false, .int .i64 0, .int .i64 0, .map none] 66))).alloc (.map #[] 0)).alloc (.cells #[.bool false, .bool false, .int .i64 0, .int .i64 (-1), .map (some (w.heap.size + 1))] 66)) = W at S0 S1 B0 hsz ⊢
  generalize hq : w.heap.size + 1 + 1 = q at *
  have hb := HL.out.bel B0
  have e0 := hb.cell 0
  have e1 := hb.cell 1
  have e2 := hb.cell 2
  have e3 := hb.cell 3
  have e4 := hb.cell 4
  simp only [List.getElem?_cons_succ, List.getElem?_cons_zero] at e0 e1 e2 e3 e4
  refine wp_loop_rounds 2 ?_
  rw [rounds_succ]
  go_wp2_with fail
  have hb1 : Below W.heap.size W (W.alloc (.cells #[.int .u8 1, .int .i64 0, .string ⟨#[102]⟩, .slice (some ⟨a, 0, none⟩) 1 1, .int .i64 1] 27)) := (Below.refl _ _).alloc (Nat.le_refl _) _
  refine (takes_1 _ q (some ⟨a, 0, none⟩) _ (S1.bel hb1) ?_).mono ?_
  · intro w' hw'
    have := evCheck_any evS evS_raw (some ⟨a, 0, none⟩) 1 1 w' (HV.out.below (B0.trans ((hb1.mono (by omega)).trans (hw'.mono (by simp; omega)))))
    rw [evS_ok] at this
    exact this
  rintro e w5 ⟨rfl, k1, G⟩
  have k0 := (S0.bel hb1).grown G (by omega)
  have hG : W.grownBy w5 (some q) := ⟨G.os.trans hb1.os, G.tape.trans hb1.tape, G.output.trans hb1.output, Nat.le_trans hb1.size G.size, fun i hi hne => (G.block i (Nat.lt_of_lt_of_le hi hb1.size) hne).trans (hb1.block i hi)⟩
  have hB5 : Below w.heap.size w w5 := ⟨hG.os.trans B0.os, hG.tape.trans B0.tape, hG.output.trans B0.output, Nat.le_trans B0.size hG.size, fun i hi => (hG.block i (by omega) (by intro h; injection h with h; omega)).trans (B0.block i hi)⟩
  clear G hb1 e0 e1 e2 e3 e4 hb S0 S1 B0
  have c0 := k1.cell 0
  have c1 := k1.cell 1
  have c2 := k1.cell 2
  have c3 := k1.cell 3
  have c4 := k1.cell 4
  simp only [List.getElem?_cons_succ, List.getElem?_cons_zero] at c0 c1 c2 c3 c4
  have t0 := k0.cell 0
  have t1 := k0.cell 1
  have t2 := k0.cell 2
  have t3 := k0.cell 3
  have t4 := k0.cell 4
  simp only [List.getElem?_cons_succ, List.getElem?_cons_zero] at t0 t1 t2 t3 t4
  have z0 := k0.fz 0
  have z1 := k0.fz 1
  have z2 := k0.fz 2
  have z3 := k0.fz 3
  have z4 := k0.fz 4
  have hne : q ≠ w.heap.size := by omega
  go_wp2_with fail
  rw [rounds_succ]
  go_wp2_with fail
  have kF := ((((k0.set 0 (.bool true)).set 1 (.bool false)).set 2 (.int .i64 0)).set 3 (.int .i64 (-1))).set 4 (.map (some (w.heap.size + 1)))
  refine bodyPost_ret (results_cell_row3 (h := rfl) (g := w.heap.size) (t := 66) (cs := ([.bool true, .bool false, .int .i64 0, .int .i64 (-1), .map (some (w.heap.size + 1))] : List Value).toArray) (fr := (0, 0)) (hp := rfl) (hg := kF) (hu := Try.underlying66) (hd := rfl) (hi := by kernel_rfl) _ _) rfl ?_
  refine ⟨_, rfl, ?_⟩
  exact ((((hB5.setCell (p := ⟨w.heap.size, 0, none⟩) (Nat.le_refl _) _).setCell (p := ⟨w.heap.size, 1, none⟩) (Nat.le_refl _) _).setCell (p := ⟨w.heap.size, 2, none⟩) (Nat.le_refl _) _).setCell (p := ⟨w.heap.size, 3, none⟩) (Nat.le_refl _) _).setCell (p := ⟨w.heap.size, 4, none⟩) (Nat.le_refl _) _

theorem form_1 (w : World) (b a : Nat) (hl : Blk w b 27 [.int .u8 1, .int .i64 0, .string ⟨#[102]⟩, .slice (some ⟨a, 0, none⟩) 1 1, .int .i64 1]) (hv : VIn w (some ⟨a, 0, none⟩) 1 evS.val) : 
  Calls Try.prog 13 #[.slice (some ⟨b, 0, none⟩) 1 1] w fun e w' => e = .returned (.tuple #[.int .i64 0, .int .i64 0]) ∧ Below w.heap.size w w' := by
  go_enter Try.func13, Try.ntmps13
  go_wp2_with fail
  refine (through_1 w b a hl hv).mono ?_
  rintro e w1 ⟨m, rfl, B⟩
  go_wp2_with fail
  go_ret2
  exact ⟨rfl, B⟩
set_option maxRecDepth 20000 in
set_option maxHeartbeats 800000 in
theorem ended_1 (w : World) (b a : Nat) (hl : Blk w b 27 [.int .u8 1, .int .i64 0, .string ⟨#[102]⟩, .slice (some ⟨a, 0, none⟩) 1 1, .int .i64 1]) (hv : VIn w (some ⟨a, 0, none⟩) 1 evS.val) : 
  Calls Try.prog 18 #[.slice (some ⟨b, 0, none⟩) 1 1] w fun e w' => e = .returned (.bool false) ∧ Below w.heap.size w w' := by
  go_enter Try.func18, Try.ntmps18
  go_wp2_with fail
  refine (through_1 w b a hl hv).mono ?_
  rintro e w1 ⟨m, rfl, B⟩
  go_wp2_with fail
  go_ret
  exact ⟨rfl, B.alloc B.size _⟩
set_option maxRecDepth 20000 in
set_option maxHeartbeats 800000 in
theorem slicesEqual_1 (w : World) (a : Nat) (hl : Blk w a 40 [.int .u8 5, .int .i64 0, .int .i64 0, .string ⟨#[]⟩, .complex .f64 0 0]) : 
  Calls Try.prog 41 #[.slice (some ⟨a, 0, none⟩) 1 1, .slice (some ⟨a, 0, none⟩) 1 1] w fun e w' => e = .returned (.bool true) ∧ Below w.heap.size w w' := by
  have e0 := hl.cell 0
  have e1 := hl.cell 1
  have e2 := hl.cell 2
  have e3 := hl.cell 3
  have e4 := hl.cell 4
  simp only [List.getElem?_cons_succ, List.getElem?_cons_zero] at e0 e1 e2 e3 e4
  go_enter Try.func41, Try.ntmps41
  go_wp2_with fail
  have hq : ∀ w, (Op.equalIn 10000 40 (.agg #[.int .u8 5, .int .i64 0, .int .i64 0, .string ⟨#[]⟩, .complex .f64 0 0]) (.agg #[.int .u8 5, .int .i64 0, .int .i64 0, .string ⟨#[]⟩, .complex .f64 0 0])).run Try.prog w = .ok true w := fun w => eq_node (nd0 5) ⟨by decide, by decide⟩ w
  refine wp_loop_rounds 2 ?_
  rw [rounds_succ]
  go_wp2_with fail
  go_quiet (fail)
  go_wp2_with fail
  rw [rounds_succ]
  go_wp2_with fail
  go_ret
  exact ⟨rfl, below_drewN (Below.refl _ _) _⟩

def evSV (a : Nat) : Value := .agg #[.int .u8 1, .int .i64 0, .string ⟨#[102]⟩, .slice (some ⟨a, 0, none⟩) 1 1, .int .i64 1]
set_option maxRecDepth 20000 in
set_option maxHeartbeats 800000 in
theorem same1_1 (w : World) (a : Nat) (hl : Blk w a 40 [.int .u8 5, .int .i64 0, .int .i64 0, .string ⟨#[]⟩, .complex .f64 0 0]) : 
  Calls Try.prog 40 #[evSV a, evSV a] w fun e w' => e = .returned (.bool true) ∧ Below w.heap.size w w' := by
  have HL := Lib.hid hl
  clear hl
  unfold evSV
  go_enter Try.func40, Try.ntmps40
  go_wp2_with (first | (go_at_call 41; refine (slicesEqual_1 _ a ((HL.out.alloc _).alloc _)).mono ?_; rintro e w5 ⟨rfl, B5⟩))
  go_ret
  exact ⟨rfl, (((Below.refl _ _).alloc (Nat.le_refl _) _).alloc (by simp) _).trans (B5.mono (by simp; omega))⟩
set_option maxRecDepth 20000 in
set_option maxHeartbeats 800000 in
theorem equalFunc_1 (w : World) (b a : Nat) (hl : Blk w b 27 [.int .u8 1, .int .i64 0, .string ⟨#[102]⟩, .slice (some ⟨a, 0, none⟩) 1 1, .int .i64 1]) (ha : Blk w a 40 [.int .u8 5, .int .i64 0, .int .i64 0, .string ⟨#[]⟩, .complex .f64 0 0]) : 
  Calls Try.prog 39 #[.slice (some ⟨b, 0, none⟩) 1 1, .slice (some ⟨b, 0, none⟩) 1 1, .func (.func 40) #[] #[]] w fun e w' => e = .returned (.bool true) ∧ Below w.heap.size w w' := by
  have e0 := hl.cell 0
  have e1 := hl.cell 1
  have e2 := hl.cell 2
  have e3 := hl.cell 3
  have e4 := hl.cell 4
  simp only [List.getElem?_cons_succ, List.getElem?_cons_zero] at e0 e1 e2 e3 e4
  have hb := hl.lt
  have HA := Lib.hid ha
  clear ha
  go_enter Try.func39, Try.ntmps39
  go_wp2_with fail
  refine wp_loop_rounds 2 ?_
  rw [rounds_succ]
  go_wp2_with fail
  refine (same1_1 _ a ((HA.out.alloc _).alloc _)).mono ?_
  rintro e w5 ⟨rfl, B5⟩
  go_wp2_with fail
  rw [rounds_succ]
  go_wp2_with fail
  go_ret
  exact ⟨rfl, (((Below.refl _ _).alloc (Nat.le_refl _) _).alloc (by simp) _).trans (B5.mono (by simp; omega))⟩
theorem same_1 (w : World) (b a : Nat) (hl : Blk w b 27 [.int .u8 1, .int .i64 0, .string ⟨#[102]⟩, .slice (some ⟨a, 0, none⟩) 1 1, .int .i64 1]) (ha : Blk w a 40 [.int .u8 5, .int .i64 0, .int .i64 0, .string ⟨#[]⟩, .complex .f64 0 0]) : 
  Calls Try.prog 17 #[.slice (some ⟨b, 0, none⟩) 1 1, .slice (some ⟨b, 0, none⟩) 1 1] w fun e w' => e = .returned (.bool true) ∧ Below w.heap.size w w' := by
  go_enter Try.func17, Try.ntmps17
  go_wp2_with fail
  refine (equalFunc_1 w b a hl ha).mono ?_
  rintro e w5 ⟨rfl, B5⟩
  go_wp2_with fail
  go_ret
  exact ⟨rfl, B5⟩

theorem started_any (w : World) : Calls Try.prog 12 #[] w fun e w' => ∃ a, e = .returned (evSV a) ∧ Blk w' a 40 [.int .u8 5, .int .i64 0, .int .i64 0, .string ⟨#[]⟩, .complex .f64 0 0] ∧ Below w.heap.size w w' := by
  go_enter Try.func12, Try.ntmps12
  go_wp2_with fail
  have kF : Blk ((w.alloc (.cells #[.int .u8 1, .int .i64 0, .string ⟨#[102]⟩, .slice (some ⟨w.heap.size + 1, 0, none⟩) 1 1, .int .i64 1] 27)).alloc (.cells #[.int .u8 5, .int .i64 0, .int .i64 0, .string ⟨#[]⟩, .complex .f64 0 0] 40)) w.heap.size 27 [.int .u8 1, .int .i64 0, .string ⟨#[102]⟩, .slice (some ⟨w.heap.size + 1, 0, none⟩) 1 1, .int .i64 1] := heap_alloc2_old w _ _
  refine bodyPost_ret (results_cell_row (h := rfl) (g := w.heap.size) (t := 27) (cs := ([.int .u8 1, .int .i64 0, .string ⟨#[102]⟩, .slice (some ⟨w.heap.size + 1, 0, none⟩) 1 1, .int .i64 1] : List Value).toArray) (fr := (0, 0)) (hp := rfl) (hg := kF) (hu := Try.underlying27) (hd := rfl) (hi := by kernel_rfl) _ _) rfl ?_
  exact ⟨w.heap.size + 1, rfl, heap_alloc2_new w _ _, ((Below.refl _ _).alloc (Nat.le_refl _) _).alloc (by simp) _⟩
theorem vin_S {w : World} {a : Nat} (ha : Blk w a 40 [.int .u8 5, .int .i64 0, .int .i64 0, .string ⟨#[]⟩, .complex .f64 0 0]) : VIn w (some ⟨a, 0, none⟩) 1 evS.val := by
  refine .inr ⟨a, rfl, rfl, ha.lt, ?_⟩
  intro k hk j hj
  obtain rfl : k = 0 := by have : evS.val.length = 1 := rfl; omega
  rw [Nat.zero_mul, Nat.zero_add]
  exact ha.cell j

set_option maxRecDepth 20000 in
set_option maxHeartbeats 800000 in
theorem awake_any (w : World) : Calls Try.prog 6 #[] w fun e w' => e = .returned (.bool true) ∧ Below w.heap.size w w' := by
  go_enter Try.func6, Try.ntmps6
  go_wp2_with fail
  refine (started_any w).mono ?_
  rintro e w1 ⟨a, rfl, hA, B1⟩
  unfold evSV
  go_wp2_with fail
  have hE : Blk (w1.alloc (.cells #[.int .u8 1, .int .i64 0, .string ⟨#[102]⟩, .slice (some ⟨a, 0, none⟩) 1 1, .int .i64 1] 27)) w1.heap.size 27 [.int .u8 1, .int .i64 0, .string ⟨#[102]⟩, .slice (some ⟨a, 0, none⟩) 1 1, .int .i64 1] := heap_alloc_new w1 _
  have hA2 := hA.alloc (.cells #[.int .u8 1, .int .i64 0, .string ⟨#[102]⟩, .slice (some ⟨a, 0, none⟩) 1 1, .int .i64 1] 27)
  have B2 : Below w.heap.size w (w1.alloc (.cells #[.int .u8 1, .int .i64 0, .string ⟨#[102]⟩, .slice (some ⟨a, 0, none⟩) 1 1, .int .i64 1] 27)) := B1.alloc B1.size _
  generalize (w1.alloc (.cells #[.int .u8 1, .int .i64 0, .string ⟨#[102]⟩, .slice (some ⟨a, 0, none⟩) 1 1, .int .i64 1] 27)) = W at hE hA2 B2 ⊢
  generalize w1.heap.size = b at hE ⊢
  clear hA B1
  refine (form_1 W b a hE (vin_S hA2)).mono ?_
  rintro e w2 ⟨rfl, B⟩
  have hE2 := hE.bel B
  have hA3 := hA2.bel B
  have B3 := B2.trans (B.mono B2.size)
  clear hE hA2 B B2
  go_wp2_with fail
  refine (same_1 w2 b a hE2 hA3).mono ?_
  rintro e w3 ⟨rfl, B⟩
  have hE := hE2.bel B
  have hA := hA3.bel B
  have B2 := B3.trans (B.mono B3.size)
  clear hE2 hA3 B B3
  go_wp2_with fail
  refine (ended_1 w3 b a hE (vin_S hA)).mono ?_
  rintro e w4 ⟨rfl, B⟩
  have B3 := B2.trans (B.mono B2.size)
  go_wp2_with fail
  go_ret
  exact ⟨rfl, B3⟩

end Go.Proofs.Yticipdjfkpakpaa
