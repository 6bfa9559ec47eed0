/- The readers from outside: a panic of a fault is caught by the deferred closure. -/
import Derived.Test.YteihedfmmiihiaaGreatCodeReads
import Derived.Defers
import Derived.Recover
import Derived.Laws.Pointers
import Derived.BigRegion
import Derived.Deep.AppendLies
namespace Go.Proofs.YteihedfmmiihiaaGreat
open Go.RowKit

/-- what the deferred closure leaves: the three results' cells; below block B nothing has turned -/
def Caught (w : World) (B bx ba be : Nat) (x : Value) (p en : Int) (w' : World) : Prop :=
  w'.cell? ⟨bx, 0, none⟩ = some x ∧ w'.cell? ⟨ba, 0, none⟩ = some (.int .i64 p) ∧ w'.cell? ⟨be, 0, none⟩ = some (.int .i64 en) ∧ Below B w w'
theorem cell_set_same {w : World} {b : Nat} {v u : Value} (h : w.cell? ⟨b, 0, none⟩ = some v) : (w.setCell ⟨b, 0, none⟩ u).cell? ⟨b, 0, none⟩ = some u := by
  exact World.cell?_setCell_same w ⟨b, 0, none⟩ u h
theorem cell_set_far {w : World} {b c : Nat} {u : Value} (h : b ≠ c) : (w.setCell ⟨b, 0, none⟩ u).cell? ⟨c, 0, none⟩ = w.cell? ⟨c, 0, none⟩ :=
  World.cell?_of_block (w := w) (Below.heap_setCell _ _ _ _ (fun e => h e.symm))
theorem caught_of {w w1 : World} {B bx ba be : Nat} {x x0 a0 e0 : Value} {p en : Int} (g : Below B w w1) (n1 : bx ≠ ba) (n2 : bx ≠ be) (n3 : ba ≠ be) (hB : B ≤ bx ∧ B ≤ ba ∧ B ≤ be)
    (hx : w1.cell? ⟨bx, 0, none⟩ = some x0) (ha : w1.cell? ⟨ba, 0, none⟩ = some a0) (he : w1.cell? ⟨be, 0, none⟩ = some e0) :
    Caught w B bx ba be x p en (((w1.setCell ⟨bx, 0, none⟩ x).setCell ⟨ba, 0, none⟩ (.int .i64 p)).setCell ⟨be, 0, none⟩ (.int .i64 en)).drew := by
  refine ⟨?_, ?_, ?_, (((g.setCell (p := ⟨bx, 0, none⟩) hB.1 _).setCell (p := ⟨ba, 0, none⟩) hB.2.1 _).setCell (p := ⟨be, 0, none⟩) hB.2.2 _).drew⟩
  · show World.cell? (World.setCell _ _ _) _ = _
    rw [cell_set_far n2.symm, cell_set_far n1.symm]; exact cell_set_same hx
  · show World.cell? (World.setCell _ _ _) _ = _
    rw [cell_set_far n3.symm]; exact cell_set_same (by rw [cell_set_far n1]; exact ha)
  · show World.cell? (World.setCell _ _ _) _ = _
    exact cell_set_same (by rw [cell_set_far n3, cell_set_far n2]; exact he)
theorem assert_fault (v : Value) (w : World) : (Instr.typeAssert (.iface 159 v) 20 159 true).run Tryz.prog w = .ok (.tuple #[v, .bool true]) w := by
  simp [Instr.typeAssert, run_underlying Tryz.underlying159]
theorem assert_nil (w : World) : (Instr.typeAssert .nilIface 20 159 true).run Tryz.prog w = .ok (.tuple #[.agg #[.int .i64 0, .int .i64 0], .bool false]) w := by
  simp [Instr.typeAssert, run_underlying Tryz.underlying159]

set_option maxRecDepth 20000 in
set_option maxHeartbeats 800000 in
theorem catch_int (B bx ba be : Nat) (hB : B ≤ bx ∧ B ≤ ba ∧ B ≤ be) (x : Value) (a c p en : Int) (w : World) (hx : w.cell? ⟨bx, 0, none⟩ = some x) (ha : w.cell? ⟨ba, 0, none⟩ = some (.int .i64 a)) (he : w.cell? ⟨be, 0, none⟩ = some (.int .i64 c))
    (n1 : bx ≠ ba) (n2 : bx ≠ be) (n3 : ba ≠ be) (zx : w.frozen? ⟨bx, 0, none⟩ = false) (za : w.frozen? ⟨ba, 0, none⟩ = false) (ze : w.frozen? ⟨be, 0, none⟩ = false) :
    CallsD Tryz.prog 121 #[.pointer (some ⟨bx, 0, none⟩), .pointer (some ⟨ba, 0, none⟩), .pointer (some ⟨be, 0, none⟩)] (.panicking [{ v := faultV p en, recovered := false }]) w fun e u' w' =>
      e = .returned (.tuple #[]) ∧ u' = .panicking [{ v := faultV p en, recovered := true }] ∧ Caught w B bx ba be (.int .i64 0) p en w' := by
  refine callsD_of_wpS Tryz.func121 rfl fun c₀ cs hu => ?_
  apply wpS_seq
  apply wpS_region
  simp [wpOpsS, go_sem, recoverD, hu, Tryz.ntmps121, Exit.thenS, faultV, assert_fault]
  refine wpS_of_wp ?_
  have lx : bx < w.heap.size := World.block_lt_of_cell? w _ hx
  have la : ba < w.heap.size := World.block_lt_of_cell? w _ ha
  have le : be < w.heap.size := World.block_lt_of_cell? w _ he
  have g1 : w.grownBy (w.alloc (.cells #[.int .i64 p, .int .i64 en] 159)) none := World.grownBy_alloc _ _ _
  have hx' := g1.cell hx (by simp)
  have ha' := g1.cell ha (by simp)
  have he' := g1.cell he (by simp)
  have zx' := (g1.frozen_far ⟨bx, 0, none⟩ lx (by simp)).trans zx
  have za' := (g1.frozen_far ⟨ba, 0, none⟩ la (by simp)).trans za
  have ze' := (g1.frozen_far ⟨be, 0, none⟩ le (by simp)).trans ze
  have f0 : (w.alloc (.cells #[.int .i64 p, .int .i64 en] 159)).cell? ⟨w.heap.size, 0, none⟩ = some (.int .i64 p) := by rw [cell_of_row _ _ 0 _ _ _ (heap_alloc_new w _)]; rfl
  have f1 : (w.alloc (.cells #[.int .i64 p, .int .i64 en] 159)).cell? ⟨w.heap.size, 1, none⟩ = some (.int .i64 en) := by rw [cell_of_row _ _ 1 _ _ _ (heap_alloc_new w _)]; rfl
  have gB : Below B w (w.alloc (.cells #[.int .i64 p, .int .i64 en] 159)) := (Below.refl B w).alloc (by omega) _
  generalize (w.alloc (.cells #[.int .i64 p, .int .i64 en] 159)) = w1 at g1 gB hx' ha' he' zx' za' ze' f0 f1 ⊢
  have m1 : ¬ bx = w.heap.size := by omega
  have m2 : ¬ ba = w.heap.size := by omega
  have m3 : ¬ be = w.heap.size := by omega
  clear hx ha he zx za ze
  simp only [Array.replicate_succ, Array.replicate_zero, List.push_toArray, List.append_toArray, List.nil_append, List.cons_append,
    List.setIfInBounds_toArray, List.set_cons_succ, List.set_cons_zero]
  go_wp2_with fail
  go_region
  exact ⟨rfl, _, rfl, _, results_none rfl _ _ _, rfl, rfl, caught_of gB n1 n2 n3 hB hx' ha' he'⟩

set_option maxRecDepth 20000 in
set_option maxHeartbeats 800000 in
theorem idle_int (bx ba be : Nat) (w : World) :
    CallsD Tryz.prog 121 #[.pointer (some ⟨bx, 0, none⟩), .pointer (some ⟨ba, 0, none⟩), .pointer (some ⟨be, 0, none⟩)] .returning w fun e u' w' =>
      e = .returned (.tuple #[]) ∧ u' = .returning ∧ w.grownBy w' none := by
  refine callsD_of_wpS Tryz.func121 rfl fun c₀ cs hu => ?_
  apply wpS_seq
  apply wpS_region
  simp [wpOpsS, go_sem, recoverD, hu, Tryz.ntmps121, Exit.thenS, assert_nil]
  refine wpS_of_wp ?_
  simp only [Array.replicate_succ, Array.replicate_zero, List.push_toArray, List.append_toArray, List.nil_append, List.cons_append,
    List.setIfInBounds_toArray, List.set_cons_succ, List.set_cons_zero]
  go_wp2_with fail
  refine ⟨rfl, .returning, ?_, _, results_none rfl _ _ _, rfl, rfl, World.grownBy_alloc _ _ _⟩
  cases c₀; simp_all

set_option maxRecDepth 20000 in
set_option maxHeartbeats 800000 in
theorem catch_uint (B bx ba be : Nat) (hB : B ≤ bx ∧ B ≤ ba ∧ B ≤ be) (x : Value) (a c p en : Int) (w : World) (hx : w.cell? ⟨bx, 0, none⟩ = some x) (ha : w.cell? ⟨ba, 0, none⟩ = some (.int .i64 a)) (he : w.cell? ⟨be, 0, none⟩ = some (.int .i64 c))
    (n1 : bx ≠ ba) (n2 : bx ≠ be) (n3 : ba ≠ be) (zx : w.frozen? ⟨bx, 0, none⟩ = false) (za : w.frozen? ⟨ba, 0, none⟩ = false) (ze : w.frozen? ⟨be, 0, none⟩ = false) :
    CallsD Tryz.prog 118 #[.pointer (some ⟨bx, 0, none⟩), .pointer (some ⟨ba, 0, none⟩), .pointer (some ⟨be, 0, none⟩)] (.panicking [{ v := faultV p en, recovered := false }]) w fun e u' w' =>
      e = .returned (.tuple #[]) ∧ u' = .panicking [{ v := faultV p en, recovered := true }] ∧ Caught w B bx ba be (.int .u64 0) p en w' := by
  refine callsD_of_wpS Tryz.func118 rfl fun c₀ cs hu => ?_
  apply wpS_seq
  apply wpS_region
  simp [wpOpsS, go_sem, recoverD, hu, Tryz.ntmps118, Exit.thenS, faultV, assert_fault]
  refine wpS_of_wp ?_
  have lx : bx < w.heap.size := World.block_lt_of_cell? w _ hx
  have la : ba < w.heap.size := World.block_lt_of_cell? w _ ha
  have le : be < w.heap.size := World.block_lt_of_cell? w _ he
  have g1 : w.grownBy (w.alloc (.cells #[.int .i64 p, .int .i64 en] 159)) none := World.grownBy_alloc _ _ _
  have hx' := g1.cell hx (by simp)
  have ha' := g1.cell ha (by simp)
  have he' := g1.cell he (by simp)
  have zx' := (g1.frozen_far ⟨bx, 0, none⟩ lx (by simp)).trans zx
  have za' := (g1.frozen_far ⟨ba, 0, none⟩ la (by simp)).trans za
  have ze' := (g1.frozen_far ⟨be, 0, none⟩ le (by simp)).trans ze
  have f0 : (w.alloc (.cells #[.int .i64 p, .int .i64 en] 159)).cell? ⟨w.heap.size, 0, none⟩ = some (.int .i64 p) := by rw [cell_of_row _ _ 0 _ _ _ (heap_alloc_new w _)]; rfl
  have f1 : (w.alloc (.cells #[.int .i64 p, .int .i64 en] 159)).cell? ⟨w.heap.size, 1, none⟩ = some (.int .i64 en) := by rw [cell_of_row _ _ 1 _ _ _ (heap_alloc_new w _)]; rfl
  have gB : Below B w (w.alloc (.cells #[.int .i64 p, .int .i64 en] 159)) := (Below.refl B w).alloc (by omega) _
  generalize (w.alloc (.cells #[.int .i64 p, .int .i64 en] 159)) = w1 at g1 gB hx' ha' he' zx' za' ze' f0 f1 ⊢
  have m1 : ¬ bx = w.heap.size := by omega
  have m2 : ¬ ba = w.heap.size := by omega
  have m3 : ¬ be = w.heap.size := by omega
  clear hx ha he zx za ze
  simp only [Array.replicate_succ, Array.replicate_zero, List.push_toArray, List.append_toArray, List.nil_append, List.cons_append,
    List.setIfInBounds_toArray, List.set_cons_succ, List.set_cons_zero]
  go_wp2_with fail
  go_region
  exact ⟨rfl, _, rfl, _, results_none rfl _ _ _, rfl, rfl, caught_of gB n1 n2 n3 hB hx' ha' he'⟩

set_option maxRecDepth 20000 in
set_option maxHeartbeats 800000 in
theorem idle_uint (bx ba be : Nat) (w : World) :
    CallsD Tryz.prog 118 #[.pointer (some ⟨bx, 0, none⟩), .pointer (some ⟨ba, 0, none⟩), .pointer (some ⟨be, 0, none⟩)] .returning w fun e u' w' =>
      e = .returned (.tuple #[]) ∧ u' = .returning ∧ w.grownBy w' none := by
  refine callsD_of_wpS Tryz.func118 rfl fun c₀ cs hu => ?_
  apply wpS_seq
  apply wpS_region
  simp [wpOpsS, go_sem, recoverD, hu, Tryz.ntmps118, Exit.thenS, assert_nil]
  refine wpS_of_wp ?_
  simp only [Array.replicate_succ, Array.replicate_zero, List.push_toArray, List.append_toArray, List.nil_append, List.cons_append,
    List.setIfInBounds_toArray, List.set_cons_succ, List.set_cons_zero]
  go_wp2_with fail
  refine ⟨rfl, .returning, ?_, _, results_none rfl _ _ _, rfl, rfl, World.grownBy_alloc _ _ _⟩
  cases c₀; simp_all

set_option maxRecDepth 20000 in
set_option maxHeartbeats 800000 in
theorem catch_text (B bx ba be : Nat) (hB : B ≤ bx ∧ B ≤ ba ∧ B ≤ be) (x : Value) (a c p en : Int) (w : World) (hx : w.cell? ⟨bx, 0, none⟩ = some x) (ha : w.cell? ⟨ba, 0, none⟩ = some (.int .i64 a)) (he : w.cell? ⟨be, 0, none⟩ = some (.int .i64 c))
    (n1 : bx ≠ ba) (n2 : bx ≠ be) (n3 : ba ≠ be) (zx : w.frozen? ⟨bx, 0, none⟩ = false) (za : w.frozen? ⟨ba, 0, none⟩ = false) (ze : w.frozen? ⟨be, 0, none⟩ = false) :
    CallsD Tryz.prog 122 #[.pointer (some ⟨bx, 0, none⟩), .pointer (some ⟨ba, 0, none⟩), .pointer (some ⟨be, 0, none⟩)] (.panicking [{ v := faultV p en, recovered := false }]) w fun e u' w' =>
      e = .returned (.tuple #[]) ∧ u' = .panicking [{ v := faultV p en, recovered := true }] ∧ Caught w B bx ba be (.string ⟨#[]⟩) p en w' := by
  refine callsD_of_wpS Tryz.func122 rfl fun c₀ cs hu => ?_
  apply wpS_seq
  apply wpS_region
  simp [wpOpsS, go_sem, recoverD, hu, Tryz.ntmps122, Exit.thenS, faultV, assert_fault]
  refine wpS_of_wp ?_
  have lx : bx < w.heap.size := World.block_lt_of_cell? w _ hx
  have la : ba < w.heap.size := World.block_lt_of_cell? w _ ha
  have le : be < w.heap.size := World.block_lt_of_cell? w _ he
  have g1 : w.grownBy (w.alloc (.cells #[.int .i64 p, .int .i64 en] 159)) none := World.grownBy_alloc _ _ _
  have hx' := g1.cell hx (by simp)
  have ha' := g1.cell ha (by simp)
  have he' := g1.cell he (by simp)
  have zx' := (g1.frozen_far ⟨bx, 0, none⟩ lx (by simp)).trans zx
  have za' := (g1.frozen_far ⟨ba, 0, none⟩ la (by simp)).trans za
  have ze' := (g1.frozen_far ⟨be, 0, none⟩ le (by simp)).trans ze
  have f0 : (w.alloc (.cells #[.int .i64 p, .int .i64 en] 159)).cell? ⟨w.heap.size, 0, none⟩ = some (.int .i64 p) := by rw [cell_of_row _ _ 0 _ _ _ (heap_alloc_new w _)]; rfl
  have f1 : (w.alloc (.cells #[.int .i64 p, .int .i64 en] 159)).cell? ⟨w.heap.size, 1, none⟩ = some (.int .i64 en) := by rw [cell_of_row _ _ 1 _ _ _ (heap_alloc_new w _)]; rfl
  have gB : Below B w (w.alloc (.cells #[.int .i64 p, .int .i64 en] 159)) := (Below.refl B w).alloc (by omega) _
  generalize (w.alloc (.cells #[.int .i64 p, .int .i64 en] 159)) = w1 at g1 gB hx' ha' he' zx' za' ze' f0 f1 ⊢
  have m1 : ¬ bx = w.heap.size := by omega
  have m2 : ¬ ba = w.heap.size := by omega
  have m3 : ¬ be = w.heap.size := by omega
  clear hx ha he zx za ze
  simp only [Array.replicate_succ, Array.replicate_zero, List.push_toArray, List.append_toArray, List.nil_append, List.cons_append,
    List.setIfInBounds_toArray, List.set_cons_succ, List.set_cons_zero]
  go_wp2_with fail
  go_region
  exact ⟨rfl, _, rfl, _, results_none rfl _ _ _, rfl, rfl, caught_of gB n1 n2 n3 hB hx' ha' he'⟩

set_option maxRecDepth 20000 in
set_option maxHeartbeats 800000 in
theorem idle_text (bx ba be : Nat) (w : World) :
    CallsD Tryz.prog 122 #[.pointer (some ⟨bx, 0, none⟩), .pointer (some ⟨ba, 0, none⟩), .pointer (some ⟨be, 0, none⟩)] .returning w fun e u' w' =>
      e = .returned (.tuple #[]) ∧ u' = .returning ∧ w.grownBy w' none := by
  refine callsD_of_wpS Tryz.func122 rfl fun c₀ cs hu => ?_
  apply wpS_seq
  apply wpS_region
  simp [wpOpsS, go_sem, recoverD, hu, Tryz.ntmps122, Exit.thenS, assert_nil]
  refine wpS_of_wp ?_
  simp only [Array.replicate_succ, Array.replicate_zero, List.push_toArray, List.append_toArray, List.nil_append, List.cons_append,
    List.setIfInBounds_toArray, List.set_cons_succ, List.set_cons_zero]
  go_wp2_with fail
  refine ⟨rfl, .returning, ?_, _, results_none rfl _ _ _, rfl, rfl, World.grownBy_alloc _ _ _⟩
  cases c₀; simp_all

/-- what a reading from outside gives: its three results in a tuple; the memory that was there is as it was -/
def Gets {α : Type} (w : World) (val : α → Value) (zero : Value) (res : Except (Nat × Nat) (α × Nat)) (e : Ending) (w' : World) : Prop :=
  (match res with
  | .ok (x, to) => e = .returned (.tuple #[val x, .int .i64 (to : Int), .int .i64 0])
  | .error (p, en) => e = .returned (.tuple #[zero, .int .i64 (p : Int), .int .i64 (en : Int)])) ∧ Below w.heap.size w w'


theorem cell_new_row (w : World) (b i : Nat) (cs : Array Value) (t : TypeId) (h : w.heap[b]? = some (.cells cs t (0, 0))) : w.cell? ⟨b, i, none⟩ = cs[i]? := cell_of_row w b i cs t (0, 0) h
theorem froz_row (w : World) (b i : Nat) (cs : Array Value) (t : TypeId) (h : w.heap[b]? = some (.cells cs t (0, 0))) : w.frozen? ⟨b, i, none⟩ = false := by simp [World.frozen?, h]

/-- the memory of 'read' as its reader's function begins: three results' cells and the reader -/
structure Desk (w : World) (N : Nat) (z : Value) (tz : TypeId) (W : World) : Prop where
  below : Below N w W
  size : N + 4 ≤ W.heap.size
  b0 : W.heap[N]? = some (.cells #[z] tz (0, 0))
  b1 : W.heap[N + 1]? = some (.cells #[.int .i64 0] 3 (0, 0))
  b2 : W.heap[N + 1 + 1]? = some (.cells #[.int .i64 0] 38 (0, 0))
theorem Desk.grown {w W W' : World} {N : Nat} {z : Value} {tz : TypeId} (h : Desk w N z tz W) (g : W.grownBy W' (some (N + 1 + 1 + 1))) : Desk w N z tz W' where
  below := h.below.grown g (by have := h.size; omega) (fun k e => by injection e with e; omega)
  size := Nat.le_trans h.size g.size
  b0 := (g.block N (by have := h.size; omega) (fun e => by injection e with e; omega)).trans h.b0
  b1 := (g.block (N + 1) (by have := h.size; omega) (by simp)).trans h.b1
  b2 := (g.block (N + 1 + 1) (by have := h.size; omega) (by simp)).trans h.b2
theorem new_at {w : World} {o : Obj} {n : Nat} (h : n = w.heap.size) : (w.alloc o).heap[n]? = some o := by subst h; exact heap_alloc_new w o
theorem desk_new (w : World) (z : Value) (tz : TypeId) (rd : Array Value) :
    Desk w w.heap.size z tz ((((w.alloc (.cells #[z] tz)).alloc (.cells #[.int .i64 0] 3)).alloc (.cells #[.int .i64 0] 38)).alloc (.cells rd 162)) where
  below := ((((Below.refl _ _).alloc (Nat.le_refl _) _).alloc (by simp) _).alloc (by simp; omega) _).alloc (by simp; omega) _
  size := by simp
  b0 := (Below.heap_alloc _ _ _ (by rw [World.size_alloc, World.size_alloc, World.size_alloc]; omega)).trans ((Below.heap_alloc _ _ _ (by rw [World.size_alloc, World.size_alloc]; omega)).trans ((Below.heap_alloc _ _ _ (by rw [World.size_alloc]; omega)).trans (heap_alloc_new w _)))
  b1 := (Below.heap_alloc _ _ _ (by rw [World.size_alloc, World.size_alloc, World.size_alloc]; omega)).trans ((Below.heap_alloc _ _ _ (by rw [World.size_alloc, World.size_alloc]; omega)).trans (new_at (by simp)))
  b2 := (Below.heap_alloc _ _ _ (by rw [World.size_alloc, World.size_alloc, World.size_alloc]; omega)).trans (new_at (by simp))
theorem rd_new (w : World) (z : Value) (tz : TypeId) (A : Option Addr) (len cap : Nat) (l : List UInt8) (hb : Bs w A len l) (hl : ∀ ad, A = some ad → 0 < l.length → ad.block < w.heap.size) (hcap : l.length ≤ cap ∧ cap ≤ maxLen) :
    Rd ((((w.alloc (.cells #[z] tz)).alloc (.cells #[.int .i64 0] 3)).alloc (.cells #[.int .i64 0] 38)).alloc (.cells #[.slice A len cap, .int .i64 0] 162)) (w.heap.size + 1 + 1 + 1) A len cap l 0 where
  blk := new_at (by simp)
  bs := hb.below (desk_new w z tz _).below
  apart := fun ad e h0 => by have := hl ad e h0; omega
  at_le := by omega
  cap_le := hcap

set_option maxRecDepth 20000 in
set_option maxHeartbeats 1600000 in
theorem read_int_of (w : World) (A : Option Addr) (len cap : Nat) (l : List UInt8) (hb : Bs w A len l) (hl : ∀ ad, A = some ad → 0 < l.length → ad.block < w.heap.size) (hcap : l.length ≤ cap ∧ cap ≤ maxLen) (fid : Nat) (res : Except (Nat × Nat) (Int × Nat))
    (hen : ∀ args w, (callFunc fid args).run Tryz.prog w = .ok (.enter fid args) w)
    (hcall : ∀ (w1 : World) (r : Nat), Rd w1 r A len cap l 0 → Calls Tryz.prog fid #[.pointer (some ⟨r, 0, none⟩)] w1 (Gives w1 r A len cap l i64V res)) :
    Calls Tryz.prog 107 #[.slice A len cap, .func (.func fid) #[] #[]] w (Gets w i64V (.int .i64 0) res) := by
  have hmf : ∀ (fn : Fn) (first cap : Array Value) (w : World), (Instr.makeFunc fn first cap).run Tryz.prog w = .ok (.func fn first cap) w := fun _ _ _ _ => rfl
  have HC := Lib.hid hcall
  have HD := Lib.hid (desk_new w (.int .i64 0) 2 #[.slice A len cap, .int .i64 0])
  have HR := Lib.hid (rd_new w (.int .i64 0) 2 A len cap l hb hl hcap)
  clear hcall hl
  go_enter_defers Tryz.func107, Tryz.ntmps107
  go_wp2_with fail
  generalize ((((w.alloc (.cells #[.int .i64 0] 2)).alloc (.cells #[.int .i64 0] 3)).alloc (.cells #[.int .i64 0] 38)).alloc (.cells #[.slice A len cap, .int .i64 0] 162)) = W at HD HR ⊢
  refine (HC.out W _ HR.out).mono ?_
  rcases res with ⟨p, en⟩ | ⟨x, to⟩
  · rintro e w1 ⟨rfl, hg⟩
    have hD := HD.out.grown hg
    go_wp2_with fail
    refine leaves_cons (f := 121) (args := #[.pointer (some ⟨w.heap.size, 0, none⟩), .pointer (some ⟨w.heap.size + 1, 0, none⟩), .pointer (some ⟨w.heap.size + 1 + 1, 0, none⟩)]) (by simp) (by simp [go_sem]) ?_
    refine (catch_int w.heap.size _ _ _ (by omega) _ 0 0 p en w1 (by rw [cell_new_row _ _ _ _ _ hD.b0]; rfl) (by rw [cell_new_row _ _ _ _ _ hD.b1]; rfl) (by rw [cell_new_row _ _ _ _ _ hD.b2]; rfl) (by omega) (by omega) (by omega) (froz_row _ _ _ _ _ hD.b0) (froz_row _ _ _ _ _ hD.b1) (froz_row _ _ _ _ _ hD.b2)).mono ?_
    rintro e u' w2 ⟨rfl, rfl, k1, k2, k3, kb⟩
    refine ⟨_, (by simp [results, Tryz.results107, go_sem, k1, k2, k3]), rfl, hD.below.trans kb⟩
  · rintro e w1 ⟨rfl, hR1, hg⟩
    have hD := HD.out.grown hg
    have c0 := cell_new_row _ _ 0 _ _ hD.b0
    have c1 := cell_new_row _ _ 0 _ _ hD.b1
    have c2 := cell_new_row _ _ 0 _ _ hD.b2
    have z0 := froz_row _ _ 0 _ _ hD.b0
    have z1 := froz_row _ _ 0 _ _ hD.b1
    have z2 := froz_row _ _ 0 _ _ hD.b2
    simp only [List.getElem?_toArray, List.getElem?_cons_zero] at c0 c1 c2
    have r1 := hR1.c1
    unfold i64V
    have kB := hD.below
    have ksz := hD.size
    clear hR1 hg hD HR HD hb hcap
    go_wp2_with fail
    have d0 := cell_set_same (u := .int .i64 x) c0
    have d1 := (cell_set_far (w := w1) (b := w.heap.size) (c := w.heap.size + 1) (u := .int .i64 x) (by omega)).trans c1
    have d2 := (cell_set_far (w := w1) (b := w.heap.size) (c := w.heap.size + 1 + 1) (u := .int .i64 x) (by omega)).trans c2
    have d3 : (w1.setCell ⟨w.heap.size, 0, none⟩ (.int .i64 x)).cell? ⟨w.heap.size + 1 + 1 + 1, 1, none⟩ = _ := (World.cell?_of_block (w := w1) (Below.heap_setCell _ _ _ _ (by simp; omega))).trans r1
    have y0 : (w1.setCell ⟨w.heap.size, 0, none⟩ (.int .i64 x)).frozen? ⟨w.heap.size, 0, none⟩ = false := by rw [World.frozen?_setCell]; exact z0
    have y1 : (w1.setCell ⟨w.heap.size, 0, none⟩ (.int .i64 x)).frozen? ⟨w.heap.size + 1, 0, none⟩ = false := by rw [World.frozen?_setCell]; exact z1
    have y2 : (w1.setCell ⟨w.heap.size, 0, none⟩ (.int .i64 x)).frozen? ⟨w.heap.size + 1 + 1, 0, none⟩ = false := by rw [World.frozen?_setCell]; exact z2
    have kB2 : Below w.heap.size w (w1.setCell ⟨w.heap.size, 0, none⟩ (.int .i64 x)) := kB.setCell (p := ⟨w.heap.size, 0, none⟩) (Nat.le_refl _) _
    have ksz2 : w.heap.size + 4 ≤ (w1.setCell ⟨w.heap.size, 0, none⟩ (.int .i64 x)).heap.size := by simpa [World.setCell] using ksz
    generalize w1.setCell ⟨w.heap.size, 0, none⟩ (.int .i64 x) = W2 at d0 d1 d2 d3 y0 y1 y2 kB2 ksz2 ⊢
    clear c0 c1 c2 r1 z0 z1 z2 kB ksz
    go_region
    have hk := caught_of (x := .int .i64 x) (p := (to : Int)) (en := 0) (Below.refl w.heap.size W2) (bx := w.heap.size) (ba := w.heap.size + 1) (be := w.heap.size + 1 + 1) (by omega) (by omega) (by omega) (by omega) d0 d1 d2
    have hsz : w.heap.size + 4 ≤ (((W2.setCell ⟨w.heap.size, 0, none⟩ (.int .i64 x)).setCell ⟨w.heap.size + 1, 0, none⟩ (.int .i64 (to : Int))).setCell ⟨w.heap.size + 1 + 1, 0, none⟩ (.int .i64 0)).drew.heap.size := by simpa [World.setCell] using ksz2
    generalize (((W2.setCell ⟨w.heap.size, 0, none⟩ (.int .i64 x)).setCell ⟨w.heap.size + 1, 0, none⟩ (.int .i64 (to : Int))).setCell ⟨w.heap.size + 1 + 1, 0, none⟩ (.int .i64 0)).drew = W3 at hk hsz ⊢
    clear d0 d1 d2 d3 y0 y1 y2
    obtain ⟨q0, q1, q2, qb⟩ := hk
    go_wp2_with fail
    refine leaves_cons (f := 121) (args := #[.pointer (some ⟨w.heap.size, 0, none⟩), .pointer (some ⟨w.heap.size + 1, 0, none⟩), .pointer (some ⟨w.heap.size + 1 + 1, 0, none⟩)]) (by simp) (by simp [go_sem]) ?_
    refine (idle_int _ _ _ _).mono ?_
    rintro e u' w2 ⟨rfl, rfl, g⟩
    have k1 := (g.cell_far ⟨w.heap.size, 0, none⟩ (by simp; omega) (by simp)).trans q0
    have k2 := (g.cell_far ⟨w.heap.size + 1, 0, none⟩ (by simp; omega) (by simp)).trans q1
    have k3 := (g.cell_far ⟨w.heap.size + 1 + 1, 0, none⟩ (by simp; omega) (by simp)).trans q2
    refine ⟨_, (by simp [results, Tryz.results107, go_sem, k1, k2, k3]; try rfl), rfl, (kB2.trans qb).grown g (by omega) (by simp)⟩
set_option maxRecDepth 20000 in
set_option maxHeartbeats 1600000 in
theorem read_uint_of (w : World) (A : Option Addr) (len cap : Nat) (l : List UInt8) (hb : Bs w A len l) (hl : ∀ ad, A = some ad → 0 < l.length → ad.block < w.heap.size) (hcap : l.length ≤ cap ∧ cap ≤ maxLen) (fid : Nat) (res : Except (Nat × Nat) (Nat × Nat))
    (hen : ∀ args w, (callFunc fid args).run Tryz.prog w = .ok (.enter fid args) w)
    (hcall : ∀ (w1 : World) (r : Nat), Rd w1 r A len cap l 0 → Calls Tryz.prog fid #[.pointer (some ⟨r, 0, none⟩)] w1 (Gives w1 r A len cap l u64V res)) :
    Calls Tryz.prog 105 #[.slice A len cap, .func (.func fid) #[] #[]] w (Gets w u64V (.int .u64 0) res) := by
  have hmf : ∀ (fn : Fn) (first cap : Array Value) (w : World), (Instr.makeFunc fn first cap).run Tryz.prog w = .ok (.func fn first cap) w := fun _ _ _ _ => rfl
  have HC := Lib.hid hcall
  have HD := Lib.hid (desk_new w (.int .u64 0) 85 #[.slice A len cap, .int .i64 0])
  have HR := Lib.hid (rd_new w (.int .u64 0) 85 A len cap l hb hl hcap)
  clear hcall hl
  go_enter_defers Tryz.func105, Tryz.ntmps105
  go_wp2_with fail
  generalize ((((w.alloc (.cells #[.int .u64 0] 85)).alloc (.cells #[.int .i64 0] 3)).alloc (.cells #[.int .i64 0] 38)).alloc (.cells #[.slice A len cap, .int .i64 0] 162)) = W at HD HR ⊢
  refine (HC.out W _ HR.out).mono ?_
  rcases res with ⟨p, en⟩ | ⟨x, to⟩
  · rintro e w1 ⟨rfl, hg⟩
    have hD := HD.out.grown hg
    go_wp2_with fail
    refine leaves_cons (f := 118) (args := #[.pointer (some ⟨w.heap.size, 0, none⟩), .pointer (some ⟨w.heap.size + 1, 0, none⟩), .pointer (some ⟨w.heap.size + 1 + 1, 0, none⟩)]) (by simp) (by simp [go_sem]) ?_
    refine (catch_uint w.heap.size _ _ _ (by omega) _ 0 0 p en w1 (by rw [cell_new_row _ _ _ _ _ hD.b0]; rfl) (by rw [cell_new_row _ _ _ _ _ hD.b1]; rfl) (by rw [cell_new_row _ _ _ _ _ hD.b2]; rfl) (by omega) (by omega) (by omega) (froz_row _ _ _ _ _ hD.b0) (froz_row _ _ _ _ _ hD.b1) (froz_row _ _ _ _ _ hD.b2)).mono ?_
    rintro e u' w2 ⟨rfl, rfl, k1, k2, k3, kb⟩
    refine ⟨_, (by simp [results, Tryz.results105, go_sem, k1, k2, k3]), rfl, hD.below.trans kb⟩
  · rintro e w1 ⟨rfl, hR1, hg⟩
    have hD := HD.out.grown hg
    have c0 := cell_new_row _ _ 0 _ _ hD.b0
    have c1 := cell_new_row _ _ 0 _ _ hD.b1
    have c2 := cell_new_row _ _ 0 _ _ hD.b2
    have z0 := froz_row _ _ 0 _ _ hD.b0
    have z1 := froz_row _ _ 0 _ _ hD.b1
    have z2 := froz_row _ _ 0 _ _ hD.b2
    simp only [List.getElem?_toArray, List.getElem?_cons_zero] at c0 c1 c2
    have r1 := hR1.c1
    unfold u64V
    have kB := hD.below
    have ksz := hD.size
    clear hR1 hg hD HR HD hb hcap
    go_wp2_with fail
    have d0 := cell_set_same (u := .int .u64 (x : Int)) c0
    have d1 := (cell_set_far (w := w1) (b := w.heap.size) (c := w.heap.size + 1) (u := .int .u64 (x : Int)) (by omega)).trans c1
    have d2 := (cell_set_far (w := w1) (b := w.heap.size) (c := w.heap.size + 1 + 1) (u := .int .u64 (x : Int)) (by omega)).trans c2
    have d3 : (w1.setCell ⟨w.heap.size, 0, none⟩ (.int .u64 (x : Int))).cell? ⟨w.heap.size + 1 + 1 + 1, 1, none⟩ = _ := (World.cell?_of_block (w := w1) (Below.heap_setCell _ _ _ _ (by simp; omega))).trans r1
    have y0 : (w1.setCell ⟨w.heap.size, 0, none⟩ (.int .u64 (x : Int))).frozen? ⟨w.heap.size, 0, none⟩ = false := by rw [World.frozen?_setCell]; exact z0
    have y1 : (w1.setCell ⟨w.heap.size, 0, none⟩ (.int .u64 (x : Int))).frozen? ⟨w.heap.size + 1, 0, none⟩ = false := by rw [World.frozen?_setCell]; exact z1
    have y2 : (w1.setCell ⟨w.heap.size, 0, none⟩ (.int .u64 (x : Int))).frozen? ⟨w.heap.size + 1 + 1, 0, none⟩ = false := by rw [World.frozen?_setCell]; exact z2
    have kB2 : Below w.heap.size w (w1.setCell ⟨w.heap.size, 0, none⟩ (.int .u64 (x : Int))) := kB.setCell (p := ⟨w.heap.size, 0, none⟩) (Nat.le_refl _) _
    have ksz2 : w.heap.size + 4 ≤ (w1.setCell ⟨w.heap.size, 0, none⟩ (.int .u64 (x : Int))).heap.size := by simpa [World.setCell] using ksz
    generalize w1.setCell ⟨w.heap.size, 0, none⟩ (.int .u64 (x : Int)) = W2 at d0 d1 d2 d3 y0 y1 y2 kB2 ksz2 ⊢
    clear c0 c1 c2 r1 z0 z1 z2 kB ksz
    go_region
    have hk := caught_of (x := .int .u64 (x : Int)) (p := (to : Int)) (en := 0) (Below.refl w.heap.size W2) (bx := w.heap.size) (ba := w.heap.size + 1) (be := w.heap.size + 1 + 1) (by omega) (by omega) (by omega) (by omega) d0 d1 d2
    have hsz : w.heap.size + 4 ≤ (((W2.setCell ⟨w.heap.size, 0, none⟩ (.int .u64 (x : Int))).setCell ⟨w.heap.size + 1, 0, none⟩ (.int .i64 (to : Int))).setCell ⟨w.heap.size + 1 + 1, 0, none⟩ (.int .i64 0)).drew.heap.size := by simpa [World.setCell] using ksz2
    generalize (((W2.setCell ⟨w.heap.size, 0, none⟩ (.int .u64 (x : Int))).setCell ⟨w.heap.size + 1, 0, none⟩ (.int .i64 (to : Int))).setCell ⟨w.heap.size + 1 + 1, 0, none⟩ (.int .i64 0)).drew = W3 at hk hsz ⊢
    clear d0 d1 d2 d3 y0 y1 y2
    obtain ⟨q0, q1, q2, qb⟩ := hk
    go_wp2_with fail
    refine leaves_cons (f := 118) (args := #[.pointer (some ⟨w.heap.size, 0, none⟩), .pointer (some ⟨w.heap.size + 1, 0, none⟩), .pointer (some ⟨w.heap.size + 1 + 1, 0, none⟩)]) (by simp) (by simp [go_sem]) ?_
    refine (idle_uint _ _ _ _).mono ?_
    rintro e u' w2 ⟨rfl, rfl, g⟩
    have k1 := (g.cell_far ⟨w.heap.size, 0, none⟩ (by simp; omega) (by simp)).trans q0
    have k2 := (g.cell_far ⟨w.heap.size + 1, 0, none⟩ (by simp; omega) (by simp)).trans q1
    have k3 := (g.cell_far ⟨w.heap.size + 1 + 1, 0, none⟩ (by simp; omega) (by simp)).trans q2
    refine ⟨_, (by simp [results, Tryz.results105, go_sem, k1, k2, k3]; try rfl), rfl, (kB2.trans qb).grown g (by omega) (by simp)⟩
set_option maxRecDepth 20000 in
set_option maxHeartbeats 1600000 in
theorem read_text_of (w : World) (A : Option Addr) (len cap : Nat) (l : List UInt8) (hb : Bs w A len l) (hl : ∀ ad, A = some ad → 0 < l.length → ad.block < w.heap.size) (hcap : l.length ≤ cap ∧ cap ≤ maxLen) (fid : Nat) (res : Except (Nat × Nat) (List UInt8 × Nat))
    (hen : ∀ args w, (callFunc fid args).run Tryz.prog w = .ok (.enter fid args) w)
    (hcall : ∀ (w1 : World) (r : Nat), Rd w1 r A len cap l 0 → Calls Tryz.prog fid #[.pointer (some ⟨r, 0, none⟩)] w1 (Gives w1 r A len cap l strV res)) :
    Calls Tryz.prog 109 #[.slice A len cap, .func (.func fid) #[] #[]] w (Gets w strV (.string ⟨#[]⟩) res) := by
  have hmf : ∀ (fn : Fn) (first cap : Array Value) (w : World), (Instr.makeFunc fn first cap).run Tryz.prog w = .ok (.func fn first cap) w := fun _ _ _ _ => rfl
  have HC := Lib.hid hcall
  have HD := Lib.hid (desk_new w (.string ⟨#[]⟩) 9 #[.slice A len cap, .int .i64 0])
  have HR := Lib.hid (rd_new w (.string ⟨#[]⟩) 9 A len cap l hb hl hcap)
  clear hcall hl
  go_enter_defers Tryz.func109, Tryz.ntmps109
  go_wp2_with fail
  generalize ((((w.alloc (.cells #[.string ⟨#[]⟩] 9)).alloc (.cells #[.int .i64 0] 3)).alloc (.cells #[.int .i64 0] 38)).alloc (.cells #[.slice A len cap, .int .i64 0] 162)) = W at HD HR ⊢
  refine (HC.out W _ HR.out).mono ?_
  rcases res with ⟨p, en⟩ | ⟨x, to⟩
  · rintro e w1 ⟨rfl, hg⟩
    have hD := HD.out.grown hg
    go_wp2_with fail
    refine leaves_cons (f := 122) (args := #[.pointer (some ⟨w.heap.size, 0, none⟩), .pointer (some ⟨w.heap.size + 1, 0, none⟩), .pointer (some ⟨w.heap.size + 1 + 1, 0, none⟩)]) (by simp) (by simp [go_sem]) ?_
    refine (catch_text w.heap.size _ _ _ (by omega) _ 0 0 p en w1 (by rw [cell_new_row _ _ _ _ _ hD.b0]; rfl) (by rw [cell_new_row _ _ _ _ _ hD.b1]; rfl) (by rw [cell_new_row _ _ _ _ _ hD.b2]; rfl) (by omega) (by omega) (by omega) (froz_row _ _ _ _ _ hD.b0) (froz_row _ _ _ _ _ hD.b1) (froz_row _ _ _ _ _ hD.b2)).mono ?_
    rintro e u' w2 ⟨rfl, rfl, k1, k2, k3, kb⟩
    refine ⟨_, (by simp [results, Tryz.results109, go_sem, k1, k2, k3]), rfl, hD.below.trans kb⟩
  · rintro e w1 ⟨rfl, hR1, hg⟩
    have hD := HD.out.grown hg
    have c0 := cell_new_row _ _ 0 _ _ hD.b0
    have c1 := cell_new_row _ _ 0 _ _ hD.b1
    have c2 := cell_new_row _ _ 0 _ _ hD.b2
    have z0 := froz_row _ _ 0 _ _ hD.b0
    have z1 := froz_row _ _ 0 _ _ hD.b1
    have z2 := froz_row _ _ 0 _ _ hD.b2
    simp only [List.getElem?_toArray, List.getElem?_cons_zero] at c0 c1 c2
    have r1 := hR1.c1
    unfold strV
    have kB := hD.below
    have ksz := hD.size
    clear hR1 hg hD HR HD hb hcap
    go_wp2_with fail
    have d0 := cell_set_same (u := .string ⟨x.toArray⟩) c0
    have d1 := (cell_set_far (w := w1) (b := w.heap.size) (c := w.heap.size + 1) (u := .string ⟨x.toArray⟩) (by omega)).trans c1
    have d2 := (cell_set_far (w := w1) (b := w.heap.size) (c := w.heap.size + 1 + 1) (u := .string ⟨x.toArray⟩) (by omega)).trans c2
    have d3 : (w1.setCell ⟨w.heap.size, 0, none⟩ (.string ⟨x.toArray⟩)).cell? ⟨w.heap.size + 1 + 1 + 1, 1, none⟩ = _ := (World.cell?_of_block (w := w1) (Below.heap_setCell _ _ _ _ (by simp; omega))).trans r1
    have y0 : (w1.setCell ⟨w.heap.size, 0, none⟩ (.string ⟨x.toArray⟩)).frozen? ⟨w.heap.size, 0, none⟩ = false := by rw [World.frozen?_setCell]; exact z0
    have y1 : (w1.setCell ⟨w.heap.size, 0, none⟩ (.string ⟨x.toArray⟩)).frozen? ⟨w.heap.size + 1, 0, none⟩ = false := by rw [World.frozen?_setCell]; exact z1
    have y2 : (w1.setCell ⟨w.heap.size, 0, none⟩ (.string ⟨x.toArray⟩)).frozen? ⟨w.heap.size + 1 + 1, 0, none⟩ = false := by rw [World.frozen?_setCell]; exact z2
    have kB2 : Below w.heap.size w (w1.setCell ⟨w.heap.size, 0, none⟩ (.string ⟨x.toArray⟩)) := kB.setCell (p := ⟨w.heap.size, 0, none⟩) (Nat.le_refl _) _
    have ksz2 : w.heap.size + 4 ≤ (w1.setCell ⟨w.heap.size, 0, none⟩ (.string ⟨x.toArray⟩)).heap.size := by simpa [World.setCell] using ksz
    generalize w1.setCell ⟨w.heap.size, 0, none⟩ (.string ⟨x.toArray⟩) = W2 at d0 d1 d2 d3 y0 y1 y2 kB2 ksz2 ⊢
    clear c0 c1 c2 r1 z0 z1 z2 kB ksz
    go_region
    have hk := caught_of (x := .string ⟨x.toArray⟩) (p := (to : Int)) (en := 0) (Below.refl w.heap.size W2) (bx := w.heap.size) (ba := w.heap.size + 1) (be := w.heap.size + 1 + 1) (by omega) (by omega) (by omega) (by omega) d0 d1 d2
    have hsz : w.heap.size + 4 ≤ (((W2.setCell ⟨w.heap.size, 0, none⟩ (.string ⟨x.toArray⟩)).setCell ⟨w.heap.size + 1, 0, none⟩ (.int .i64 (to : Int))).setCell ⟨w.heap.size + 1 + 1, 0, none⟩ (.int .i64 0)).drew.heap.size := by simpa [World.setCell] using ksz2
    generalize (((W2.setCell ⟨w.heap.size, 0, none⟩ (.string ⟨x.toArray⟩)).setCell ⟨w.heap.size + 1, 0, none⟩ (.int .i64 (to : Int))).setCell ⟨w.heap.size + 1 + 1, 0, none⟩ (.int .i64 0)).drew = W3 at hk hsz ⊢
    clear d0 d1 d2 d3 y0 y1 y2
    obtain ⟨q0, q1, q2, qb⟩ := hk
    go_wp2_with fail
    refine leaves_cons (f := 122) (args := #[.pointer (some ⟨w.heap.size, 0, none⟩), .pointer (some ⟨w.heap.size + 1, 0, none⟩), .pointer (some ⟨w.heap.size + 1 + 1, 0, none⟩)]) (by simp) (by simp [go_sem]) ?_
    refine (idle_text _ _ _ _).mono ?_
    rintro e u' w2 ⟨rfl, rfl, g⟩
    have k1 := (g.cell_far ⟨w.heap.size, 0, none⟩ (by simp; omega) (by simp)).trans q0
    have k2 := (g.cell_far ⟨w.heap.size + 1, 0, none⟩ (by simp; omega) (by simp)).trans q1
    have k3 := (g.cell_far ⟨w.heap.size + 1 + 1, 0, none⟩ (by simp; omega) (by simp)).trans q2
    refine ⟨_, (by simp [results, Tryz.results109, go_sem, k1, k2, k3]; try rfl), rfl, (kB2.trans qb).grown g (by omega) (by simp)⟩
end Go.Proofs.YteihedfmmiihiaaGreat
