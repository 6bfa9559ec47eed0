/- the first pay -/
import Derived.Test.YticipdjfkpakpaaEvKnown1
namespace Go.Proofs.Yticipdjfkpakpaa
open Go.RowKit
attribute [local go_sem] run_store_cx'

set_option maxRecDepth 20000 in
set_option maxHeartbeats 1600000 in
theorem takes_pay1 (w : World) (s n0 : Nat) (A : Option Addr) (mm : Nat) (hs : Blk w s 66 [.bool true, .bool false, .int .i64 2, .int .i64 (-1), .map (some mm)]) (hn : n0 ≤ s) (hn2 : n0 ≤ w.heap.size) (hm : w.heap[mm]? = some (.map #[] 0)) (hnm : n0 ≤ mm)
  (hc : ∀ w', Below w.heap.size w w' → Calls Try.prog 16 #[.agg #[.int .u8 3, .int .i64 0, .string ⟨#[112, 97, 121]⟩, .slice A 1 1, .int .i64 0]] w' fun e w'' => e = .returned (.int .i64 0) ∧ Below w'.heap.size w' w'') :
  Calls Try.prog 53 #[.pointer (some ⟨s, 0, none⟩), .agg #[.int .u8 3, .int .i64 0, .string ⟨#[112, 97, 121]⟩, .slice A 1 1, .int .i64 0]] w fun e w' => e = .returned (.bool true) ∧ Blk w' s 66 [.bool true, .bool false, .int .i64 1, .int .i64 (0), .map (some mm)] ∧ Below n0 w w' := by
  have hlt := hs.lt
  have W0 : Blk (w.alloc (.cells #[.int .u8 3, .int .i64 0, .string ⟨#[112, 97, 121]⟩, .slice A 1 1, .int .i64 0] 27)) w.heap.size 27 [.int .u8 3, .int .i64 0, .string ⟨#[112, 97, 121]⟩, .slice A 1 1, .int .i64 0] := heap_alloc_new w _
  have B0 : Below w.heap.size w (w.alloc (.cells #[.int .u8 3, .int .i64 0, .string ⟨#[112, 97, 121]⟩, .slice A 1 1, .int .i64 0] 27)) := (Below.refl _ _).alloc (Nat.le_refl _) _
  have hs0 := hs.bel B0
  have hmw : (w.alloc (.cells #[.int .u8 3, .int .i64 0, .string ⟨#[112, 97, 121]⟩, .slice A 1 1, .int .i64 0] 27)).heap[mm]? = some (.map #[] 0) := (Below.heap_alloc w _ mm (Array.getElem?_eq_some_iff.1 hm).1).trans hm
  have HC := Lib.hid hc
  clear hc
  go_enter Try.func53, Try.ntmps53
  go_wp2_with fail
  have hg0 : w.heap.size < (w.alloc (.cells #[.int .u8 3, .int .i64 0, .string ⟨#[112, 97, 121]⟩, .slice A 1 1, .int .i64 0] 27)).heap.size := by simp
  generalize (w.alloc (.cells #[.int .u8 3, .int .i64 0, .string ⟨#[112, 97, 121]⟩, .slice A 1 1, .int .i64 0] 27)) = W at W0 B0 hs0 hg0 hmw ⊢
  generalize hgg : w.heap.size = g at *
  have c0 := hs0.cell 0
  have c1 := hs0.cell 1
  have c2 := hs0.cell 2
  have c3 := hs0.cell 3
  have c4 := hs0.cell 4
  have g0 := W0.cell 0
  have g1 := W0.cell 1
  have g2 := W0.cell 2
  have g3 := W0.cell 3
  have g4 := W0.cell 4
  simp only [List.getElem?_cons_succ, List.getElem?_cons_zero] at c0 c1 c2 c3 c4 g0 g1 g2 g3 g4
  have hlt0 := hs0.lt
  have q0 := BelowW.cell hlt0 c0
  have q1 := BelowW.cell hlt0 c1
  have q2 := BelowW.cell hlt0 c2
  have q3 := BelowW.cell hlt0 c3
  have q4 := BelowW.cell hlt0 c4
  have r0 := BelowW.cell hg0 g0
  have r1 := BelowW.cell hg0 g1
  have r2 := BelowW.cell hg0 g2
  have r3 := BelowW.cell hg0 g3
  have r4 := BelowW.cell hg0 g4
  refine wp_region_quiet_below (by kernel_rfl) (by kernel_rfl) ?_
  repeat (go_big_quiet_step (first | (go_at_call 16; refine Calls.below_of (HC.out _ ?_); exact B0.trans ((BelowW.h _).mono (Nat.le_of_lt hg0))) | (go_at_call 73; exact Calls.below_of (order_b (order_k _ 3 true (.inr ⟨rfl, rfl⟩))))))
  refine wpQuiet_nil ?_
  intro wq hw'
  have hq := belowW_out hw'
  clear hw'
  clear q0 q1 q2 q3 q4 r0 r1 r2 r3 r4 c0 c1 c2 c3 c4 g0 g1 g2 g3 g4
  have hbs := hs0.bel hq
  have hbg := W0.bel hq
  have c0 := hbs.cell 0
  have c1 := hbs.cell 1
  have c2 := hbs.cell 2
  have c3 := hbs.cell 3
  have c4 := hbs.cell 4
  have g0 := hbg.cell 0
  have g1 := hbg.cell 1
  have g2 := hbg.cell 2
  have g3 := hbg.cell 3
  have g4 := hbg.cell 4
  simp only [List.getElem?_cons_succ, List.getElem?_cons_zero] at c0 c1 c2 c3 c4 g0 g1 g2 g3 g4
  have hB5 := hq
  have z0 := hbs.fz 0
  have z1 := hbs.fz 1
  have z2 := hbs.fz 2
  have z3 := hbs.fz 3
  have hgw : g < wq.heap.size := hbg.lt
  have hne : s ≠ g := by omega
  have hm2 : wq.heap[mm]? = some (.map #[] 0) := (hq.block mm (by have := (Array.getElem?_eq_some_iff.1 hmw).1; exact this)).trans hmw
  go_wp2_with (first | (go_at_call 73; refine (order_k _ 3 true (.inr ⟨rfl, rfl⟩)).mono ?_; rintro e wp ⟨rfl, rfl⟩) | (go_at_call 74; refine (last_k _ 3 (.inr rfl)).mono ?_; rintro e wp ⟨rfl, rfl⟩))
  go_quiet (fail)
  have K := (((hbs.set 0 (.bool true)).set 2 (.int .i64 1)))
  have hmS : mm ≠ s := by
    rintro rfl
    have h1 : wq.heap[mm]? = _ := hbs
    rw [hm2] at h1
    cases h1
  have hmG : mm ≠ g := by
    rintro rfl
    have h1 : wq.heap[mm]? = _ := hbg
    rw [hm2] at h1
    cases h1
  have G2 := ((hbg.far (p := ⟨s, 0, none⟩) (by simp only; omega) (.bool true)).far (p := ⟨s, 2, none⟩) (by simp only; omega) (.int .i64 1))
  have M2 : ((wq.setCell ⟨s, 0, none⟩ (.bool true)).setCell ⟨s, 2, none⟩ (.int .i64 1)).heap[mm]? = some (.map #[] 0) := (Below.heap_setCell _ _ _ _ hmS).trans ((Below.heap_setCell _ _ _ _ hmS).trans hm2)
  have BB : Below n0 w (((wq.setCell ⟨s, 0, none⟩ (.bool true)).setCell ⟨s, 2, none⟩ (.int .i64 1)).drewN nq) := (((by rw [← hgg] at B0; exact (B0.mono (by omega)).trans (hq.mono (by omega)) : Below n0 w wq).setCell (p := ⟨s, 0, none⟩) hn _).setCell (p := ⟨s, 2, none⟩) hn _).trans (below_drewN (Below.refl _ _) nq)
  have K' : Blk (((wq.setCell ⟨s, 0, none⟩ (.bool true)).setCell ⟨s, 2, none⟩ (.int .i64 1)).drewN nq) s 66 [.bool true, .bool false, .int .i64 1, .int .i64 (-1), .map (some mm)] := K
  have G' : Blk (((wq.setCell ⟨s, 0, none⟩ (.bool true)).setCell ⟨s, 2, none⟩ (.int .i64 1)).drewN nq) g 27 [.int .u8 3, .int .i64 0, .string ⟨#[112, 97, 121]⟩, .slice A 1 1, .int .i64 0] := G2
  have M' : (((wq.setCell ⟨s, 0, none⟩ (.bool true)).setCell ⟨s, 2, none⟩ (.int .i64 1)).drewN nq).heap[mm]? = some (.map #[] 0) := M2
  clear K G2 M2 c0 c1 c2 c3 c4 g0 g1 g2 g3 g4 z0 z1 z2 z3 hbs hbg hm2
  generalize (((wq.setCell ⟨s, 0, none⟩ (.bool true)).setCell ⟨s, 2, none⟩ (.int .i64 1)).drewN nq) = V at BB K' G' M' ⊢
  have c3 := K'.cell 3
  have z3 := K'.fz 3
  have g0 := G'.cell 0
  have g1 := G'.cell 1
  simp only [List.getElem?_cons_succ, List.getElem?_cons_zero] at c3 g0 g1
  go_wp2_with fail
  have K3 := K'.set 3 (.int .i64 0)
  have G3 := G'.far (p := ⟨s, 3, none⟩) (by simp only; omega) (.int .i64 0)
  have M3 : (V.setCell ⟨s, 3, none⟩ (.int .i64 0)).heap[mm]? = some (.map #[] 0) := (Below.heap_setCell _ _ _ _ hmS).trans M'
  have B3 : Below n0 w (V.setCell ⟨s, 3, none⟩ (.int .i64 0)) := BB.setCell (p := ⟨s, 3, none⟩) hn _
  clear K' G' M' BB c3 z3 g0 g1
  generalize (V.setCell ⟨s, 3, none⟩ (.int .i64 0)) = X at K3 G3 M3 B3 ⊢
  have hmu := run_mapUpdate_first_int (P := Try.prog) X.drew 64 3 5 mm 0 0 (.int .u8 3) (by kernel_rfl) (by kernel_rfl) M3
  have BY : Below n0 w { X.drew with heap := X.drew.heap.setIfInBounds mm (.map #[{ key := .int .i64 0, val := .int .u8 3, born := 0 }] (0 + 1)) } :=
    ⟨B3.os, B3.tape, B3.output, by simpa using B3.size, fun k hk => by
      have : mm ≠ k := by omega
      simpa [heap_drew, Array.getElem?_setIfInBounds, this] using B3.block k hk⟩
  have KY : Blk { X.drew with heap := X.drew.heap.setIfInBounds mm (.map #[{ key := .int .i64 0, val := .int .u8 3, born := 0 }] (0 + 1)) } s 66 [.bool true, .bool false, .int .i64 1, .int .i64 0, .map (some mm)] := by
    unfold Blk at K3 ⊢
    simpa [heap_drew, Array.getElem?_setIfInBounds, hmS] using K3
  have GY : Blk { X.drew with heap := X.drew.heap.setIfInBounds mm (.map #[{ key := .int .i64 0, val := .int .u8 3, born := 0 }] (0 + 1)) } g 27 [.int .u8 3, .int .i64 0, .string ⟨#[112, 97, 121]⟩, .slice A 1 1, .int .i64 0] := by
    unfold Blk at G3 ⊢
    simpa [heap_drew, Array.getElem?_setIfInBounds, hmG] using G3
  generalize { X.drew with heap := X.drew.heap.setIfInBounds mm (.map #[{ key := .int .i64 0, val := .int .u8 3, born := 0 }] (0 + 1)) } = Y at hmu BY KY GY
  have c4 := K3.cell 4
  have g0 := G3.cell 0
  have g1 := G3.cell 1
  simp only [List.set_cons_succ, List.set_cons_zero, List.getElem?_cons_succ, List.getElem?_cons_zero] at c4 g0 g1
  go_region
  all_goals clear c4 g0 g1
  all_goals have c1 := KY.cell 1
  all_goals have c2 := KY.cell 2
  all_goals have z1 := KY.fz 1
  all_goals have g0 := GY.cell 0
  all_goals simp only [List.getElem?_cons_succ, List.getElem?_cons_zero] at c1 c2 g0
  go_wp2_with (first | (go_at_call 74; refine (last_k _ 3 (.inr rfl)).mono ?_; rintro e wp ⟨rfl, rfl⟩))
  go_ret
  exact ⟨rfl, KY.set 1 (.bool false), BY.setCell (p := ⟨s, 1, none⟩) hn _⟩
end Go.Proofs.Yticipdjfkpakpaa
