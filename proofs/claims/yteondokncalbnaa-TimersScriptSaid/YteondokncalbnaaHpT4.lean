/- heap: New, Len, Peek, Push at prompter/api.Timer (written by gen_heap3.py). -/
import Derived.Test.YteondokncalbnaaHpT3
import Derived.Deep.RegionHeld3
namespace Go.Proofs.Yteondokncalbnaa
open Go.RowKit

/-- a heap -/
structure HStT (w : World) (p : Nat) (v : Value) (M : Nat) (xs : List Th) (nx : Nat) : Prop where
  raw : ∃ m, HRawT w p v M xs m nx ∧ Pos m xs
  heap : Heap xs
  apart : Apart xs
  lt : ∀ t ∈ xs, t.num < nx
  few : nx ≤ 1000000
  len : xs.length ≤ nx
section
variable {w w' : World} {p : Nat} {v : Value} {M : Nat} {xs : List Th} {nx : Nat}
theorem HStT.keep {S : Nat → Prop} (h : HStT w p v M xs nx) (k : Turns S w w') (hS : ∀ i, HS p v M i → ¬ S i) : HStT w' p v M xs nx := by
  obtain ⟨m, hm, hp⟩ := h.raw
  exact ⟨⟨m, hm.keep k (hS p (.inl rfl)) (hS M (.inr (.inl rfl))) (fun g hg => hS g (.inr (.inr hg))), hp⟩, h.heap, h.apart, h.lt, h.few, h.len⟩
theorem HStT.bel (h : HStT w p v M xs nx) (k : Below w.heap.size w w') : HStT w' p v M xs nx := h.keep (.of_below (S := fun _ => False) k) (fun _ _ => id)
theorem HStT.lts (h : HStT w p v M xs nx) : ∀ i, HS p v M i → i < w.heap.size := by
  obtain ⟨m, hm, hp⟩ := h.raw
  exact hm.lts
end
theorem info_thT : (Try.prog.info? 92).map (fun i => (i.zero, i.size, i.bytes)) = some (some (.agg #[.int .i64 0, .int .i64 0, .int .i64 0, .string ⟨#[]⟩, .int .i64 0]), 5, 48) := by kernel_rfl

set_option maxRecDepth 20000 in
theorem newT (w : World) : Calls Try.prog 47 #[] w fun e w' => ∃ p M, e = .returned (.pointer (some ⟨p, 0, none⟩)) ∧ HStT w' p (.slice none 0 0) M [] 0 ∧ w.heap.size ≤ p ∧ w.heap.size ≤ M ∧ Below w.heap.size w w' := by
  have hmm := @run_makeMap Try.prog
  go_enter Try.func47, Try.ntmps47
  go_wp2_with fail
  go_ret
  refine ⟨_, w.heap.size, rfl, ⟨⟨fun _ => none, ⟨Blk.new2 w _ 96 [.bool true, .slice none 0 0, .map (some w.heap.size), .int .i64 0], World.ownsRow_nil _ _ _ _, ⟨0, (MapIs.empty kInt w).alloc _⟩, by simp, by simp⟩, ⟨fun j hj => absurd hj (by simp), fun _ _ => rfl⟩⟩, fun j hj => absurd hj (by simp), by simp [Apart], by simp, by omega, by simp⟩, by omega, Nat.le_refl _, Below.new2 w _ _⟩

set_option maxRecDepth 20000 in
theorem lenT (w : World) (p : Nat) (v : Value) (M : Nat) (xs : List Th) (nx : Nat) (h : HStT w p v M xs nx) : Calls Try.prog 50 #[.pointer (some ⟨p, 0, none⟩)] w fun e w' => e = .returned (.int .i64 (xs.length : Int)) ∧ w' = w := by
  obtain ⟨m, hm, hp⟩ := h.raw
  have b1 := hm.blk.cell 1
  simp only [List.getElem?_cons_succ, List.getElem?_cons_zero] at b1
  rcases hm.row.2 with ⟨rfl, h0⟩ | ⟨g, cap, cur, rfl, _⟩
  · have hl : xs.length ≤ 0 := by omega
    clear h hm hp
    go_enter Try.func50, Try.ntmps50
    go_wp2_with fail
    go_ret
    exact ⟨ret_i (by omega), rfl⟩
  · clear h hm hp
    go_enter Try.func50, Try.ntmps50
    go_wp2_with fail
    go_ret
    exact ⟨rfl, rfl⟩

theorem results_T4 {P : Program} {fn : Func} {a p u v : Tmp} {ty : TypeId} (h : fn.results = #[.tmp a, .cell p ty, .tmp u, .tmp v]) (tmps : Array Value) (w : World) (g : Nat) (t : TypeId) (cs : Array Value) (fr : Nat × Nat) (d : TypeDesc)
    (hp : tmps.getD p undef = .pointer (some ⟨g, 0, none⟩)) (hg : w.heap[g]? = some (.cells cs t fr))
    (hu : P.underlying ty = some d) (hd : (match d with | .struct _ | .array _ _ => true | _ => false) = true) (hi : (P.info? ty).map (·.size) = some cs.size) :
    (results fn tmps).run P w = .ok (.tuple #[tmps.getD a undef, .agg cs, tmps.getD u undef, tmps.getD v undef]) w := by
  have hp' : tmps[p]?.getD undef = .pointer (some ⟨g, 0, none⟩) := by simpa using hp
  simp [results, h, hp', asAddr, run_loadVar_row w g t ty cs fr d hg hu hd hi]
theorem results_T2 {P : Program} {fn : Func} {p u : Tmp} {ty : TypeId} (h : fn.results = #[.cell p ty, .tmp u]) (tmps : Array Value) (w : World) (g : Nat) (t : TypeId) (cs : Array Value) (fr : Nat × Nat) (d : TypeDesc)
    (hp : tmps.getD p undef = .pointer (some ⟨g, 0, none⟩)) (hg : w.heap[g]? = some (.cells cs t fr))
    (hu : P.underlying ty = some d) (hd : (match d with | .struct _ | .array _ _ => true | _ => false) = true) (hi : (P.info? ty).map (·.size) = some cs.size) :
    (results fn tmps).run P w = .ok (.tuple #[.agg cs, tmps.getD u undef]) w := by
  have hp' : tmps[p]?.getD undef = .pointer (some ⟨g, 0, none⟩) := by simpa using hp
  simp [results, h, hp', asAddr, run_loadVar_row w g t ty cs fr d hg hu hd hi]

set_option maxRecDepth 20000 in
set_option maxHeartbeats 6000000 in
theorem peek0T (w : World) (p : Nat) (v : Value) (M : Nat) (nx : Nat) (h : HStT w p v M [] nx) : Calls Try.prog 33 #[.pointer (some ⟨p, 0, none⟩)] w fun e w' => e = .returned (.tuple #[.int .i64 0, .agg #[.int .i64 0, .string ⟨#[]⟩, .int .i64 0], .int .i64 0, .bool false]) ∧ Below w.heap.size w w' := by
  have hL := Lib.hid (lenT (w.alloc (.cells #[.int .i64 0, .string ⟨#[]⟩, .int .i64 0] 31)) p v M [] nx (h.bel (Below.new _ _)))
  clear h
  go_enter Try.func33, Try.ntmps33
  go_wp2_with (go_at_call 50; refine hL.out.mono ?_; rintro e w' ⟨rfl, rfl⟩)
  refine bodyPost_ret (results_T4 (h := rfl) (g := w.heap.size) (t := 31) (cs := ([.int .i64 0, .string ⟨#[]⟩, .int .i64 0] : List Value).toArray) (fr := (0, 0)) (hp := rfl) (hg := Blk.new w 31 [.int .i64 0, .string ⟨#[]⟩, .int .i64 0]) (hu := Try.underlying31) (hd := rfl) (hi := by kernel_rfl) _ _) rfl ?_
  exact ⟨rfl, Below.new _ _⟩

set_option maxRecDepth 20000 in
set_option maxHeartbeats 6000000 in
theorem peek1T (w : World) (p : Nat) (v : Value) (M : Nat) (xs : List Th) (nx : Nat) (h : HStT w p v M xs nx) (hn : 0 < xs.length) : Calls Try.prog 33 #[.pointer (some ⟨p, 0, none⟩)] w fun e w' => e = .returned (.tuple #[.int .i64 (gT xs 0).key, .agg #[(gT xs 0).v 0, (gT xs 0).v 1, (gT xs 0).v 2], .int .i64 ((gT xs 0).num : Int), .bool true]) ∧ Below w.heap.size w w' := by
  have hL := Lib.hid (lenT (w.alloc (.cells #[.int .i64 0, .string ⟨#[]⟩, .int .i64 0] 31)) p v M xs nx (h.bel (Below.new _ _)))
  have W1 := Blk.new w 31 [.int .i64 0, .string ⟨#[]⟩, .int .i64 0]
  have hB1 := Below.new w (.cells #[.int .i64 0, .string ⟨#[]⟩, .int .i64 0] 31)
  have h := h.bel hB1
  obtain ⟨m, hm, hp⟩ := h.raw
  obtain ⟨g, cap, rfl, hvb, hg, hnc, hcm⟩ := own_at hm.row hn
  have hone := hm.one_at hn
  generalize hx : gT xs 0 = x at *
  have s0 := store_oneT hone 0 (by omega)
  have s1 := store_oneT hone 1 (by omega)
  have s2 := store_oneT hone 2 (by omega)
  obtain ⟨r0, r1, r0', r1', r2'⟩ := row_cellsT hm rfl hn hx
  have b1 := hm.blk.cell 1
  simp only [List.getElem?_cons_succ, List.getElem?_cons_zero] at b1
  rw [Nat.zero_mul] at r0 r1 r0' r1' r2'
  simp only [Nat.zero_add] at r1 r0' r1' r2'
  have hn' : (0 : Int) < (xs.length : Int) := by omega
  have hne : ((xs.length : Int) == 0) = false := beq_eq_false_iff_ne.2 (by omega)
  have hb := W1.lt
  have HW1 := Lib.hid W1
  have HB1 := Lib.hid hB1
  clear h hm hp hone hx W1 hB1
  go_enter Try.func33, Try.ntmps33
  go_wp2_with (go_at_call 50; refine hL.out.mono ?_; rintro e w' ⟨rfl, rfl⟩)
  have K1 := HW1.out.alloc (.cells #[.int .i64 x.key, .int .i64 (x.num : Int), x.v 0, x.v 1, x.v 2] 92)
  have W0 := Blk.new2 w (.cells #[.int .i64 0, .string ⟨#[]⟩, .int .i64 0] 31) 92 [.int .i64 x.key, .int .i64 (x.num : Int), x.v 0, x.v 1, x.v 2]
  have hB0 := Below.new2 w (.cells #[.int .i64 0, .string ⟨#[]⟩, .int .i64 0] 31) (.cells #[.int .i64 x.key, .int .i64 (x.num : Int), x.v 0, x.v 1, x.v 2] 92)
  generalize (w.alloc (.cells #[.int .i64 0, .string ⟨#[]⟩, .int .i64 0] 31)).alloc (.cells #[.int .i64 x.key, .int .i64 (x.num : Int), x.v 0, x.v 1, x.v 2] 92) = W at *
  generalize hbq : w.heap.size = b at *
  have HBQ := Lib.hid hbq
  clear hbq
  have a0 := W0.cell 0
  have a1 := W0.cell 1
  have a2 := W0.cell 2
  have a3 := W0.cell 3
  have a4 := W0.cell 4
  have c0 := K1.cell 0
  have c1 := K1.cell 1
  have c2 := K1.cell 2
  have z0 := K1.fz 0
  have z1 := K1.fz 1
  have z2 := K1.fz 2
  simp only [List.getElem?_cons_succ, List.getElem?_cons_zero] at a0 a1 a2 a3 a4 c0 c1 c2
  go_region_held3 (fun X => X.cell? ⟨b + 1, 0, none⟩ = some (.int .i64 x.key) ∧ X.cell? ⟨b + 1, 1, none⟩ = some (.int .i64 (x.num : Int)) ∧ X.cell? ⟨b + 1, 2, none⟩ = some (x.v 0) ∧ X.cell? ⟨b + 1, 3, none⟩ = some (x.v 1) ∧ X.cell? ⟨b + 1, 4, none⟩ = some (x.v 2)) (go_keep) (fail)
  go_wp2_with fail
  have K2 := ((K1.set 0 (x.v 0)).set 1 (x.v 1)).set 2 (x.v 2)
  have hB2 : Below b w ((((W.setCell ⟨b, 0, none⟩ (x.v 0)).setCell ⟨b, 1, none⟩ (x.v 1)).setCell ⟨b, 2, none⟩ (x.v 2)).drewN 1) := below_drewN' (((hB0.setCell (p := ⟨b, 0, none⟩) (Nat.le_refl _) _).setCell (p := ⟨b, 1, none⟩) (Nat.le_refl _) _).setCell (p := ⟨b, 2, none⟩) (Nat.le_refl _) _) 1
  refine bodyPost_ret (results_T4 (h := rfl) (g := b) (t := 31) (cs := ([x.v 0, x.v 1, x.v 2] : List Value).toArray) (fr := (0, 0)) (hp := rfl) (hg := K2) (hu := Try.underlying31) (hd := rfl) (hi := by kernel_rfl) _ _) rfl ?_
  exact ⟨rfl, by rw [HBQ.out]; exact hB2⟩
end Go.Proofs.Yteondokncalbnaa
