/- heap: New, Len, Peek, Push at int (written by gen_heap3.py). -/
import Derived.Test.YtoihhckiacmfcaaHpI3
namespace Go.Proofs.Ytoihhckiacmfcaa
open Go.RowKit

/-- a heap -/
structure HStI (w : World) (p : Nat) (v : Value) (M : Nat) (xs : List Th) (nx : Nat) : Prop where
  raw : ∃ m, HRawI w p v M xs m nx ∧ Pos m xs
  heap : Heap xs
  apart : Apart xs
  lt : ∀ t ∈ xs, t.num < nx
  few : nx ≤ 1000000
  len : xs.length ≤ nx
section
variable {w w' : World} {p : Nat} {v : Value} {M : Nat} {xs : List Th} {nx : Nat}
theorem HStI.keep {S : Nat → Prop} (h : HStI w p v M xs nx) (k : Turns S w w') (hS : ∀ i, HS p v M i → ¬ S i) : HStI w' p v M xs nx := by
  obtain ⟨m, hm, hp⟩ := h.raw
  exact ⟨⟨m, hm.keep k (hS p (.inl rfl)) (hS M (.inr (.inl rfl))) (fun g hg => hS g (.inr (.inr hg))), hp⟩, h.heap, h.apart, h.lt, h.few, h.len⟩
theorem HStI.bel (h : HStI w p v M xs nx) (k : Below w.heap.size w w') : HStI w' p v M xs nx := h.keep (.of_below (S := fun _ => False) k) (fun _ _ => id)
theorem HStI.lts (h : HStI w p v M xs nx) : ∀ i, HS p v M i → i < w.heap.size := by
  obtain ⟨m, hm, hp⟩ := h.raw
  exact hm.lts
end
theorem info_thI : (Try.prog.info? 65).map (fun i => (i.zero, i.size, i.bytes)) = some (some (.agg #[.int .i64 0, .int .i64 0, .int .i64 0]), 3, 24) := by kernel_rfl

set_option maxRecDepth 20000 in
theorem newI (w : World) : Calls Try.prog 15 #[] w fun e w' => ∃ p M, e = .returned (.pointer (some ⟨p, 0, none⟩)) ∧ HStI w' p (.slice none 0 0) M [] 0 ∧ w.heap.size ≤ p ∧ w.heap.size ≤ M ∧ Below w.heap.size w w' := by
  have hmm := @run_makeMap Try.prog
  go_enter Try.func15, Try.ntmps15
  go_wp2_with fail
  go_ret
  refine ⟨_, w.heap.size, rfl, ⟨⟨fun _ => none, ⟨Blk.new2 w _ 56 [.bool true, .slice none 0 0, .map (some w.heap.size), .int .i64 0], World.ownsRow_nil _ _ _ _, ⟨0, (MapIs.empty kInt w).alloc _⟩, by simp, by simp⟩, ⟨fun j hj => absurd hj (by simp), fun _ _ => rfl⟩⟩, fun j hj => absurd hj (by simp), by simp [Apart], by simp, by omega, by simp⟩, by omega, Nat.le_refl _, Below.new2 w _ _⟩

set_option maxRecDepth 20000 in
theorem lenI (w : World) (p : Nat) (v : Value) (M : Nat) (xs : List Th) (nx : Nat) (h : HStI w p v M xs nx) : Calls Try.prog 11 #[.pointer (some ⟨p, 0, none⟩)] w fun e w' => e = .returned (.int .i64 (xs.length : Int)) ∧ w' = w := by
  obtain ⟨m, hm, hp⟩ := h.raw
  have b1 := hm.blk.cell 1
  simp only [List.getElem?_cons_succ, List.getElem?_cons_zero] at b1
  rcases hm.row.2 with ⟨rfl, h0⟩ | ⟨g, cap, cur, rfl, _⟩
  · have hl : xs.length ≤ 0 := by omega
    clear h hm hp
    go_enter Try.func11, Try.ntmps11
    go_wp2_with fail
    go_ret
    exact ⟨ret_i (by omega), rfl⟩
  · clear h hm hp
    go_enter Try.func11, Try.ntmps11
    go_wp2_with fail
    go_ret
    exact ⟨rfl, rfl⟩

set_option maxRecDepth 20000 in
set_option maxHeartbeats 800000 in
theorem peek0I (w : World) (p : Nat) (v : Value) (M : Nat) (nx : Nat) (h : HStI w p v M [] nx) : Calls Try.prog 23 #[.pointer (some ⟨p, 0, none⟩)] w fun e w' => e = .returned (.tuple #[.int .i64 0, .int .i64 0, .int .i64 0, .bool false]) ∧ Below w.heap.size w w' := by
  have hl := lenI w p v M [] nx h
  have hL := Lib.hid hl
  clear hl h
  go_enter Try.func23, Try.ntmps23
  go_wp2_with (go_at_call 11; refine hL.out.mono ?_; rintro e w' ⟨rfl, rfl⟩)
  exact bodyPost_ret (v := .tuple #[.int .i64 0, .int .i64 0, .int .i64 0, .bool false]) (by simp [results, Try.results23, go_sem]) rfl ⟨rfl, Below.refl _ _⟩

set_option maxRecDepth 20000 in
set_option maxHeartbeats 800000 in
theorem peek1I (w : World) (p : Nat) (v : Value) (M : Nat) (xs : List Th) (nx : Nat) (h : HStI w p v M xs nx) (hn : 0 < xs.length) : Calls Try.prog 23 #[.pointer (some ⟨p, 0, none⟩)] w fun e w' => e = .returned (.tuple #[.int .i64 (gT xs 0).key, (gT xs 0).v 0, .int .i64 ((gT xs 0).num : Int), .bool true]) ∧ Below w.heap.size w w' := by
  obtain ⟨m, hm, hp⟩ := h.raw
  obtain ⟨g, cap, rfl, hvb, hg, hnc, hcm⟩ := own_at hm.row hn
  have hl := lenI w p _ M xs nx h
  have hL := Lib.hid hl
  have hone := hm.one_at hn
  generalize hx : gT xs 0 = x at *
  have s0 := store_oneI hone 0 (by omega)
  obtain ⟨r0, r1, r0'⟩ := row_cellsI hm rfl hn hx
  have b1 := hm.blk.cell 1
  simp only [List.getElem?_cons_succ, List.getElem?_cons_zero] at b1
  rw [Nat.zero_mul] at r0 r1 r0'
  simp only [Nat.zero_add] at r1 r0'
  have hn' : (0 : Int) < (xs.length : Int) := by omega
  have hne : ((xs.length : Int) == 0) = false := beq_eq_false_iff_ne.2 (by omega)
  clear hl h hm hp hone hx
  go_enter Try.func23, Try.ntmps23
  go_wp2_with (go_at_call 11; refine hL.out.mono ?_; rintro e w' ⟨rfl, rfl⟩)
  have W0 : Blk (w'.alloc (.cells #[.int .i64 x.key, .int .i64 (x.num : Int), x.v 0] 65)) w'.heap.size 65 [.int .i64 x.key, .int .i64 (x.num : Int), x.v 0] := Blk.new w' _ _
  have hB0 : Below w'.heap.size w' (w'.alloc (.cells #[.int .i64 x.key, .int .i64 (x.num : Int), x.v 0] 65)) := Below.new w' _
  generalize w'.alloc (.cells #[.int .i64 x.key, .int .i64 (x.num : Int), x.v 0] 65) = W at *
  generalize hb : w'.heap.size = b at *
  have a0 := W0.cell 0
  have a1 := W0.cell 1
  have a0' := W0.cell (0 + 2)
  simp only [List.getElem?_cons_succ, List.getElem?_cons_zero] at a0 a1 a0'
  have HB := Lib.hid hb
  clear hb
  go_quiet (fail)
  go_wp2_with fail
  exact bodyPost_ret (v := .tuple #[.int .i64 x.key, x.v 0, .int .i64 (x.num : Int), .bool true]) (by simp [results, Try.results23, go_sem]) rfl ⟨rfl, by rw [HB.out]; exact below_drewN' hB0 _⟩
end Go.Proofs.Ytoihhckiacmfcaa
