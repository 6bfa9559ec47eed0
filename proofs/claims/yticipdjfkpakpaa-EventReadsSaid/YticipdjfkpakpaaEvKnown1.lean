/- takes and through of the events of EventKnown. -/
import Derived.Test.YticipdjfkpakpaaEvAwake
import Derived.Test.YticipdjfkpakpaaEvPack
import Derived.WideMake
import Derived.Test.YticipdjfkpakpaaQuietBelow
namespace Go.Proofs.Yticipdjfkpakpaa
open Go.RowKit
attribute [local go_sem] run_store_cx'

theorem run_mapUpdate_first_int {P : Program} (w : World) (mty kt et : TypeId) (r clock : Nat) (s : Int) (val : Value) (hm : P.underlying mty = some (.map kt et)) (hk : P.underlying kt = some (.int .i64)) (hb : w.heap[r]? = some (.map #[] clock)) :
    (Instr.mapUpdate mty (.map (some r)) (.int .i64 s) val).run P w = .ok () { w with heap := w.heap.setIfInBounds r (.map #[{ key := .int .i64 s, val := val, born := clock }] (clock + 1)) } := by
  have hf : Instr.findNow (.int .i64) (.int .i64 s) ([] : List MapEntry) 0 = some none := rfl
  have hc : (Instr.checkKey false 10000 kt (.int .i64 s)).run P w = .ok () w := MapKept.run_checkKey (k := .int .i64 s) hk (by simp [MapKept.IsKey]) false 9999
  simp [Instr.mapUpdate, run_underlying hm, MapKept.run_getObj_map hb, hc, MapKept.run_findKey hk hf, MapKept.run_setObj_map _ hb, Result.andThen]

theorem order_k (w : World) (k : Nat) (b : Bool) (hb : (k = 2 ∧ b = false) ∨ (k = 3 ∧ b = true)) : Calls Try.prog 73 #[.int .u8 (k : Int)] w fun e w' => e = .returned (.bool b) ∧ w' = w := by
  rcases hb with ⟨rfl, rfl⟩ | ⟨rfl, rfl⟩
  all_goals go_enter Try.func73, Try.ntmps73
  all_goals go_wp2_with fail
  all_goals go_ret
  all_goals exact ⟨rfl, rfl⟩
theorem last_k (w : World) (k : Nat) (hb : k = 2 ∨ k = 3) : Calls Try.prog 74 #[.int .u8 (k : Int)] w fun e w' => e = .returned (.bool false) ∧ w' = w := by
  rcases hb with rfl | rfl
  all_goals go_enter Try.func74, Try.ntmps74
  all_goals go_wp2_with fail
  all_goals go_ret
  all_goals exact ⟨rfl, rfl⟩

theorem order_b {P : Program} {f : FuncId} {args : Array Value} {w : World} {v : Value} (h : Calls P f args w fun e w' => e = .returned v ∧ w' = w) : Calls P f args w fun e w' => e = .returned v ∧ Below w.heap.size w w' :=
  h.mono fun _ _ ⟨he, hw⟩ => ⟨he, by rw [hw]; exact Below.refl _ _⟩

set_option maxRecDepth 20000 in
set_option maxHeartbeats 1600000 in
theorem takes_two0 (w : World) (s n0 : Nat) (A : Option Addr) (m : Option Nat) (hs : Blk w s 66 [.bool false, .bool false, .int .i64 0, .int .i64 (-1), .map m]) (hn : n0 ≤ s) (hn2 : n0 ≤ w.heap.size) 
  (hc : ∀ w', Below w.heap.size w w' → Calls Try.prog 16 #[.agg #[.int .u8 2, .int .i64 0, .string ⟨#[]⟩, .slice none 0 0, .int .i64 2]] w' fun e w'' => e = .returned (.int .i64 0) ∧ Below w'.heap.size w' w'') :
  Calls Try.prog 53 #[.pointer (some ⟨s, 0, none⟩), .agg #[.int .u8 2, .int .i64 0, .string ⟨#[]⟩, .slice none 0 0, .int .i64 2]] w fun e w' => e = .returned (.bool false) ∧ Blk w' s 66 [.bool false, .bool false, .int .i64 0, .int .i64 (-1), .map m] ∧ Below n0 w w' := by
  have hlt := hs.lt
  have W0 : Blk (w.alloc (.cells #[.int .u8 2, .int .i64 0, .string ⟨#[]⟩, .slice none 0 0, .int .i64 2] 27)) w.heap.size 27 [.int .u8 2, .int .i64 0, .string ⟨#[]⟩, .slice none 0 0, .int .i64 2] := heap_alloc_new w _
  have B0 : Below w.heap.size w (w.alloc (.cells #[.int .u8 2, .int .i64 0, .string ⟨#[]⟩, .slice none 0 0, .int .i64 2] 27)) := (Below.refl _ _).alloc (Nat.le_refl _) _
  have hs0 := hs.bel B0
  have HC := Lib.hid hc
  clear hc
  go_enter Try.func53, Try.ntmps53
  go_wp2_with fail
  have hg0 : w.heap.size < (w.alloc (.cells #[.int .u8 2, .int .i64 0, .string ⟨#[]⟩, .slice none 0 0, .int .i64 2] 27)).heap.size := by simp
  generalize (w.alloc (.cells #[.int .u8 2, .int .i64 0, .string ⟨#[]⟩, .slice none 0 0, .int .i64 2] 27)) = W at W0 B0 hs0 hg0 ⊢
  generalize hgg : w.heap.size = g at *
  have c0 := hs0.cell 0
  have c1 := hs0.cell 1
  have c2 := hs0.cell 2
  have c3 := hs0.cell 3
  have c4 := hs0.cell 4
  have g0 := W0.cell 0
  have g1 := W0.cell 1
  have g2 := W0.cell 2
  have g3 := W0.cell 3
  have g4 := W0.cell 4
  simp only [List.getElem?_cons_succ, List.getElem?_cons_zero] at c0 c1 c2 c3 c4 g0 g1 g2 g3 g4
  have hlt0 := hs0.lt
  have q0 := BelowW.cell hlt0 c0
  have q1 := BelowW.cell hlt0 c1
  have q2 := BelowW.cell hlt0 c2
  have q3 := BelowW.cell hlt0 c3
  have q4 := BelowW.cell hlt0 c4
  have r0 := BelowW.cell hg0 g0
  have r1 := BelowW.cell hg0 g1
  have r2 := BelowW.cell hg0 g2
  have r3 := BelowW.cell hg0 g3
  have r4 := BelowW.cell hg0 g4
  refine wp_region_quiet_below (by kernel_rfl) (by kernel_rfl) ?_
  repeat (go_big_quiet_step (first | (go_at_call 16; refine Calls.below_of (HC.out _ ?_); exact B0.trans ((BelowW.h _).mono (Nat.le_of_lt hg0)))))
  refine wpQuiet_nil ?_
  intro wq hw'
  have hq := belowW_out hw'
  clear hw'
  clear q0 q1 q2 q3 q4 r0 r1 r2 r3 r4 c0 c1 c2 c3 c4 g0 g1 g2 g3 g4
  have hbs := hs0.bel hq
  have hbg := W0.bel hq
  have c0 := hbs.cell 0
  have c1 := hbs.cell 1
  have c2 := hbs.cell 2
  have c3 := hbs.cell 3
  have c4 := hbs.cell 4
  have g0 := hbg.cell 0
  have g1 := hbg.cell 1
  have g2 := hbg.cell 2
  have g3 := hbg.cell 3
  have g4 := hbg.cell 4
  simp only [List.getElem?_cons_succ, List.getElem?_cons_zero] at c0 c1 c2 c3 c4 g0 g1 g2 g3 g4
  have hB5 := hq
  go_wp2_with fail
  go_ret
  exact ⟨rfl, hbs, by rw [← hgg] at B0; exact (B0.mono (by omega)).trans (hB5.mono (by omega))⟩

set_option maxRecDepth 20000 in
set_option maxHeartbeats 1600000 in
theorem takes_two (w : World) (s n0 : Nat) (A : Option Addr) (m : Option Nat) (hs : Blk w s 66 [.bool true, .bool false, .int .i64 0, .int .i64 (-1), .map m]) (hn : n0 ≤ s) (hn2 : n0 ≤ w.heap.size) 
  (hc : ∀ w', Below w.heap.size w w' → Calls Try.prog 16 #[.agg #[.int .u8 2, .int .i64 0, .string ⟨#[]⟩, .slice none 0 0, .int .i64 2]] w' fun e w'' => e = .returned (.int .i64 0) ∧ Below w'.heap.size w' w'') :
  Calls Try.prog 53 #[.pointer (some ⟨s, 0, none⟩), .agg #[.int .u8 2, .int .i64 0, .string ⟨#[]⟩, .slice none 0 0, .int .i64 2]] w fun e w' => e = .returned (.bool true) ∧ Blk w' s 66 [.bool true, .bool false, .int .i64 2, .int .i64 (-1), .map m] ∧ Below n0 w w' := by
  have hlt := hs.lt
  have W0 : Blk (w.alloc (.cells #[.int .u8 2, .int .i64 0, .string ⟨#[]⟩, .slice none 0 0, .int .i64 2] 27)) w.heap.size 27 [.int .u8 2, .int .i64 0, .string ⟨#[]⟩, .slice none 0 0, .int .i64 2] := heap_alloc_new w _
  have B0 : Below w.heap.size w (w.alloc (.cells #[.int .u8 2, .int .i64 0, .string ⟨#[]⟩, .slice none 0 0, .int .i64 2] 27)) := (Below.refl _ _).alloc (Nat.le_refl _) _
  have hs0 := hs.bel B0
  have HC := Lib.hid hc
  clear hc
  go_enter Try.func53, Try.ntmps53
  go_wp2_with fail
  have hg0 : w.heap.size < (w.alloc (.cells #[.int .u8 2, .int .i64 0, .string ⟨#[]⟩, .slice none 0 0, .int .i64 2] 27)).heap.size := by simp
  generalize (w.alloc (.cells #[.int .u8 2, .int .i64 0, .string ⟨#[]⟩, .slice none 0 0, .int .i64 2] 27)) = W at W0 B0 hs0 hg0 ⊢
  generalize hgg : w.heap.size = g at *
  have c0 := hs0.cell 0
  have c1 := hs0.cell 1
  have c2 := hs0.cell 2
  have c3 := hs0.cell 3
  have c4 := hs0.cell 4
  have g0 := W0.cell 0
  have g1 := W0.cell 1
  have g2 := W0.cell 2
  have g3 := W0.cell 3
  have g4 := W0.cell 4
  simp only [List.getElem?_cons_succ, List.getElem?_cons_zero] at c0 c1 c2 c3 c4 g0 g1 g2 g3 g4
  have hlt0 := hs0.lt
  have q0 := BelowW.cell hlt0 c0
  have q1 := BelowW.cell hlt0 c1
  have q2 := BelowW.cell hlt0 c2
  have q3 := BelowW.cell hlt0 c3
  have q4 := BelowW.cell hlt0 c4
  have r0 := BelowW.cell hg0 g0
  have r1 := BelowW.cell hg0 g1
  have r2 := BelowW.cell hg0 g2
  have r3 := BelowW.cell hg0 g3
  have r4 := BelowW.cell hg0 g4
  refine wp_region_quiet_below (by kernel_rfl) (by kernel_rfl) ?_
  repeat (go_big_quiet_step (first | (go_at_call 16; refine Calls.below_of (HC.out _ ?_); exact B0.trans ((BelowW.h _).mono (Nat.le_of_lt hg0))) | (go_at_call 73; exact Calls.below_of (order_b (order_k _ 2 false (.inl ⟨rfl, rfl⟩))))))
  refine wpQuiet_nil ?_
  intro wq hw'
  have hq := belowW_out hw'
  clear hw'
  clear q0 q1 q2 q3 q4 r0 r1 r2 r3 r4 c0 c1 c2 c3 c4 g0 g1 g2 g3 g4
  have hbs := hs0.bel hq
  have hbg := W0.bel hq
  have c0 := hbs.cell 0
  have c1 := hbs.cell 1
  have c2 := hbs.cell 2
  have c3 := hbs.cell 3
  have c4 := hbs.cell 4
  have g0 := hbg.cell 0
  have g1 := hbg.cell 1
  have g2 := hbg.cell 2
  have g3 := hbg.cell 3
  have g4 := hbg.cell 4
  simp only [List.getElem?_cons_succ, List.getElem?_cons_zero] at c0 c1 c2 c3 c4 g0 g1 g2 g3 g4
  have hB5 := hq
  have z0 := hbs.fz 0
  have z1 := hbs.fz 1
  have z2 := hbs.fz 2
  have z3 := hbs.fz 3
  have hgw : g < wq.heap.size := hbg.lt
  have hne : s ≠ g := by omega
  go_wp2_with (first | (go_at_call 73; refine (order_k _ 2 false (.inl ⟨rfl, rfl⟩)).mono ?_; rintro e wp ⟨rfl, rfl⟩) | (go_at_call 74; refine (last_k _ 2 (.inl rfl)).mono ?_; rintro e wp ⟨rfl, rfl⟩))
  go_ret
  exact ⟨rfl, ((hbs.set 0 (.bool true)).set 2 (.int .i64 2)).set 1 (.bool false), (((B0.mono hn2).trans (hB5.mono (by omega))).setCell (p := ⟨s, 0, none⟩) hn _ |>.setCell (p := ⟨s, 2, none⟩) hn _).setCell (p := ⟨s, 1, none⟩) hn _⟩

set_option maxRecDepth 20000 in
set_option maxHeartbeats 1600000 in
theorem takes_pay0 (w : World) (s n0 : Nat) (A : Option Addr) (m : Option Nat) (hs : Blk w s 66 [.bool true, .bool false, .int .i64 1, .int .i64 (0), .map m]) (hn : n0 ≤ s) (hn2 : n0 ≤ w.heap.size) 
  (hc : ∀ w', Below w.heap.size w w' → Calls Try.prog 16 #[.agg #[.int .u8 3, .int .i64 0, .string ⟨#[112, 97, 121]⟩, .slice A 1 1, .int .i64 0]] w' fun e w'' => e = .returned (.int .i64 0) ∧ Below w'.heap.size w' w'') :
  Calls Try.prog 53 #[.pointer (some ⟨s, 0, none⟩), .agg #[.int .u8 3, .int .i64 0, .string ⟨#[112, 97, 121]⟩, .slice A 1 1, .int .i64 0]] w fun e w' => e = .returned (.bool false) ∧ Blk w' s 66 [.bool true, .bool false, .int .i64 0, .int .i64 (0), .map m] ∧ Below n0 w w' := by
  have hlt := hs.lt
  have W0 : Blk (w.alloc (.cells #[.int .u8 3, .int .i64 0, .string ⟨#[112, 97, 121]⟩, .slice A 1 1, .int .i64 0] 27)) w.heap.size 27 [.int .u8 3, .int .i64 0, .string ⟨#[112, 97, 121]⟩, .slice A 1 1, .int .i64 0] := heap_alloc_new w _
  have B0 : Below w.heap.size w (w.alloc (.cells #[.int .u8 3, .int .i64 0, .string ⟨#[112, 97, 121]⟩, .slice A 1 1, .int .i64 0] 27)) := (Below.refl _ _).alloc (Nat.le_refl _) _
  have hs0 := hs.bel B0
  have HC := Lib.hid hc
  clear hc
  go_enter Try.func53, Try.ntmps53
  go_wp2_with fail
  have hg0 : w.heap.size < (w.alloc (.cells #[.int .u8 3, .int .i64 0, .string ⟨#[112, 97, 121]⟩, .slice A 1 1, .int .i64 0] 27)).heap.size := by simp
  generalize (w.alloc (.cells #[.int .u8 3, .int .i64 0, .string ⟨#[112, 97, 121]⟩, .slice A 1 1, .int .i64 0] 27)) = W at W0 B0 hs0 hg0 ⊢
  generalize hgg : w.heap.size = g at *
  have c0 := hs0.cell 0
  have c1 := hs0.cell 1
  have c2 := hs0.cell 2
  have c3 := hs0.cell 3
  have c4 := hs0.cell 4
  have g0 := W0.cell 0
  have g1 := W0.cell 1
  have g2 := W0.cell 2
  have g3 := W0.cell 3
  have g4 := W0.cell 4
  simp only [List.getElem?_cons_succ, List.getElem?_cons_zero] at c0 c1 c2 c3 c4 g0 g1 g2 g3 g4
  have hlt0 := hs0.lt
  have q0 := BelowW.cell hlt0 c0
  have q1 := BelowW.cell hlt0 c1
  have q2 := BelowW.cell hlt0 c2
  have q3 := BelowW.cell hlt0 c3
  have q4 := BelowW.cell hlt0 c4
  have r0 := BelowW.cell hg0 g0
  have r1 := BelowW.cell hg0 g1
  have r2 := BelowW.cell hg0 g2
  have r3 := BelowW.cell hg0 g3
  have r4 := BelowW.cell hg0 g4
  refine wp_region_quiet_below (by kernel_rfl) (by kernel_rfl) ?_
  repeat (go_big_quiet_step (first | (go_at_call 16; refine Calls.below_of (HC.out _ ?_); exact B0.trans ((BelowW.h _).mono (Nat.le_of_lt hg0))) | (go_at_call 73; exact Calls.below_of (order_b (order_k _ 3 true (.inr ⟨rfl, rfl⟩))))))
  refine wpQuiet_nil ?_
  intro wq hw'
  have hq := belowW_out hw'
  clear hw'
  clear q0 q1 q2 q3 q4 r0 r1 r2 r3 r4 c0 c1 c2 c3 c4 g0 g1 g2 g3 g4
  have hbs := hs0.bel hq
  have hbg := W0.bel hq
  have c0 := hbs.cell 0
  have c1 := hbs.cell 1
  have c2 := hbs.cell 2
  have c3 := hbs.cell 3
  have c4 := hbs.cell 4
  have g0 := hbg.cell 0
  have g1 := hbg.cell 1
  have g2 := hbg.cell 2
  have g3 := hbg.cell 3
  have g4 := hbg.cell 4
  simp only [List.getElem?_cons_succ, List.getElem?_cons_zero] at c0 c1 c2 c3 c4 g0 g1 g2 g3 g4
  have hB5 := hq
  have z0 := hbs.fz 0
  have z1 := hbs.fz 1
  have z2 := hbs.fz 2
  have z3 := hbs.fz 3
  have hgw : g < wq.heap.size := hbg.lt
  have hne : s ≠ g := by omega
  go_wp2_with (first | (go_at_call 73; refine (order_k _ 3 true (.inr ⟨rfl, rfl⟩)).mono ?_; rintro e wp ⟨rfl, rfl⟩) | (go_at_call 74; refine (last_k _ 3 (.inr rfl)).mono ?_; rintro e wp ⟨rfl, rfl⟩))
  go_quiet (fail)
  go_wp2_with fail
  go_ret
  exact ⟨rfl, (hbs.set 0 (.bool true)).set 2 (.int .i64 0), (((B0.mono hn2).trans (hB5.mono (by omega))).setCell (p := ⟨s, 0, none⟩) hn _ |>.setCell (p := ⟨s, 2, none⟩) hn _).trans (below_drewN (Below.refl _ _) _)⟩

end Go.Proofs.Yticipdjfkpakpaa
