/- heap: New, Len, Peek, Push at string (written by gen_heap3.py). -/
import Derived.Test.YtoihhckiacmfcaaHpS3
namespace Go.Proofs.Ytoihhckiacmfcaa
open Go.RowKit

/-- a heap -/
structure HStS (w : World) (p : Nat) (v : Value) (M : Nat) (xs : List Th) (nx : Nat) : Prop where
  raw : ∃ m, HRawS w p v M xs m nx ∧ Pos m xs
  heap : Heap xs
  apart : Apart xs
  lt : ∀ t ∈ xs, t.num < nx
  few : nx ≤ 1000000
  len : xs.length ≤ nx
section
variable {w w' : World} {p : Nat} {v : Value} {M : Nat} {xs : List Th} {nx : Nat}
theorem HStS.keep {S : Nat → Prop} (h : HStS w p v M xs nx) (k : Turns S w w') (hS : ∀ i, HS p v M i → ¬ S i) : HStS w' p v M xs nx := by
  obtain ⟨m, hm, hp⟩ := h.raw
  exact ⟨⟨m, hm.keep k (hS p (.inl rfl)) (hS M (.inr (.inl rfl))) (fun g hg => hS g (.inr (.inr hg))), hp⟩, h.heap, h.apart, h.lt, h.few, h.len⟩
theorem HStS.bel (h : HStS w p v M xs nx) (k : Below w.heap.size w w') : HStS w' p v M xs nx := h.keep (.of_below (S := fun _ => False) k) (fun _ _ => id)
theorem HStS.lts (h : HStS w p v M xs nx) : ∀ i, HS p v M i → i < w.heap.size := by
  obtain ⟨m, hm, hp⟩ := h.raw
  exact hm.lts
end
theorem info_thS : (Try.prog.info? 76).map (fun i => (i.zero, i.size, i.bytes)) = some (some (.agg #[.int .i64 0, .int .i64 0, .string ⟨#[]⟩]), 3, 32) := by kernel_rfl

set_option maxRecDepth 20000 in
theorem newS (w : World) : Calls Try.prog 25 #[] w fun e w' => ∃ p M, e = .returned (.pointer (some ⟨p, 0, none⟩)) ∧ HStS w' p (.slice none 0 0) M [] 0 ∧ w.heap.size ≤ p ∧ w.heap.size ≤ M ∧ Below w.heap.size w w' := by
  have hmm := @run_makeMap Try.prog
  go_enter Try.func25, Try.ntmps25
  go_wp2_with fail
  go_ret
  refine ⟨_, w.heap.size, rfl, ⟨⟨fun _ => none, ⟨Blk.new2 w _ 74 [.bool true, .slice none 0 0, .map (some w.heap.size), .int .i64 0], World.ownsRow_nil _ _ _ _, ⟨0, (MapIs.empty kInt w).alloc _⟩, by simp, by simp⟩, ⟨fun j hj => absurd hj (by simp), fun _ _ => rfl⟩⟩, fun j hj => absurd hj (by simp), by simp [Apart], by simp, by omega, by simp⟩, by omega, Nat.le_refl _, Below.new2 w _ _⟩

set_option maxRecDepth 20000 in
theorem lenS (w : World) (p : Nat) (v : Value) (M : Nat) (xs : List Th) (nx : Nat) (h : HStS w p v M xs nx) : Calls Try.prog 28 #[.pointer (some ⟨p, 0, none⟩)] w fun e w' => e = .returned (.int .i64 (xs.length : Int)) ∧ w' = w := by
  obtain ⟨m, hm, hp⟩ := h.raw
  have b1 := hm.blk.cell 1
  simp only [List.getElem?_cons_succ, List.getElem?_cons_zero] at b1
  rcases hm.row.2 with ⟨rfl, h0⟩ | ⟨g, cap, cur, rfl, _⟩
  · have hl : xs.length ≤ 0 := by omega
    clear h hm hp
    go_enter Try.func28, Try.ntmps28
    go_wp2_with fail
    go_ret
    exact ⟨ret_i (by omega), rfl⟩
  · clear h hm hp
    go_enter Try.func28, Try.ntmps28
    go_wp2_with fail
    go_ret
    exact ⟨rfl, rfl⟩

set_option maxRecDepth 20000 in
set_option maxHeartbeats 800000 in
theorem peek0S (w : World) (p : Nat) (v : Value) (M : Nat) (nx : Nat) (h : HStS w p v M [] nx) : Calls Try.prog 41 #[.pointer (some ⟨p, 0, none⟩)] w fun e w' => e = .returned (.tuple #[.int .i64 0, .string ⟨#[]⟩, .int .i64 0, .bool false]) ∧ Below w.heap.size w w' := by
  have hl := lenS w p v M [] nx h
  have hL := Lib.hid hl
  clear hl h
  go_enter Try.func41, Try.ntmps41
  go_wp2_with (go_at_call 28; refine hL.out.mono ?_; rintro e w' ⟨rfl, rfl⟩)
  exact bodyPost_ret (v := .tuple #[.int .i64 0, .string ⟨#[]⟩, .int .i64 0, .bool false]) (by simp [results, Try.results41, go_sem]) rfl ⟨rfl, Below.refl _ _⟩

set_option maxRecDepth 20000 in
set_option maxHeartbeats 800000 in
theorem peek1S (w : World) (p : Nat) (v : Value) (M : Nat) (xs : List Th) (nx : Nat) (h : HStS w p v M xs nx) (hn : 0 < xs.length) : Calls Try.prog 41 #[.pointer (some ⟨p, 0, none⟩)] w fun e w' => e = .returned (.tuple #[.int .i64 (gT xs 0).key, (gT xs 0).v 0, .int .i64 ((gT xs 0).num : Int), .bool true]) ∧ Below w.heap.size w w' := by
  obtain ⟨m, hm, hp⟩ := h.raw
  obtain ⟨g, cap, rfl, hvb, hg, hnc, hcm⟩ := own_at hm.row hn
  have hl := lenS w p _ M xs nx h
  have hL := Lib.hid hl
  have hone := hm.one_at hn
  generalize hx : gT xs 0 = x at *
  have s0 := store_oneS hone 0 (by omega)
  obtain ⟨r0, r1, r0'⟩ := row_cellsS hm rfl hn hx
  have b1 := hm.blk.cell 1
  simp only [List.getElem?_cons_succ, List.getElem?_cons_zero] at b1
  rw [Nat.zero_mul] at r0 r1 r0'
  simp only [Nat.zero_add] at r1 r0'
  have hn' : (0 : Int) < (xs.length : Int) := by omega
  have hne : ((xs.length : Int) == 0) = false := beq_eq_false_iff_ne.2 (by omega)
  clear hl h hm hp hone hx
  go_enter Try.func41, Try.ntmps41
  go_wp2_with (go_at_call 28; refine hL.out.mono ?_; rintro e w' ⟨rfl, rfl⟩)
  have W0 : Blk (w'.alloc (.cells #[.int .i64 x.key, .int .i64 (x.num : Int), x.v 0] 76)) w'.heap.size 76 [.int .i64 x.key, .int .i64 (x.num : Int), x.v 0] := Blk.new w' _ _
  have hB0 : Below w'.heap.size w' (w'.alloc (.cells #[.int .i64 x.key, .int .i64 (x.num : Int), x.v 0] 76)) := Below.new w' _
  generalize w'.alloc (.cells #[.int .i64 x.key, .int .i64 (x.num : Int), x.v 0] 76) = W at *
  generalize hb : w'.heap.size = b at *
  have a0 := W0.cell 0
  have a1 := W0.cell 1
  have a0' := W0.cell (0 + 2)
  simp only [List.getElem?_cons_succ, List.getElem?_cons_zero] at a0 a1 a0'
  have HB := Lib.hid hb
  clear hb
  go_quiet (fail)
  go_wp2_with fail
  exact bodyPost_ret (v := .tuple #[.int .i64 x.key, x.v 0, .int .i64 (x.num : Int), .bool true]) (by simp [results, Try.results41, go_sem]) rfl ⟨rfl, by rw [HB.out]; exact below_drewN' hB0 _⟩
end Go.Proofs.Ytoihhckiacmfcaa
