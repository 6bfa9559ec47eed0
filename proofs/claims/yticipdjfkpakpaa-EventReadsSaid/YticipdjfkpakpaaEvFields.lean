/- event.fields: what events of a kind have. -/
import Derived.Test.YticipdjfkpakpaaRows
import Derived.WalkKit
import Derived.Lib.Hide
import Derived.Laws.Tables
import Derived.Deep.WholeRow
import Derived.Laws.Rows
import Derived.Below
namespace Go.Proofs.Yticipdjfkpakpaa
open Go.RowKit

def hasId (k : Nat) : Bool := k == 3 || k == 4 || k == 5 || k == 9 || k == 10 || k == 11
def hasName (k : Nat) : Bool := k == 1 || k == 3 || k == 5 || k == 12
def hasValue (k : Nat) : Bool := k == 1 || k == 3 || k == 5 || k == 6 || k == 7 || k == 9 || k == 12
def hasInt (k : Nat) : Bool := k == 1 || k == 2 || k == 4 || k == 8 || k == 10
def hasList (k : Nat) : Bool := k == 1 || k == 3 || k == 5
def hLeast (k : Nat) : Int := if k == 8 || k == 10 then 1 else 0
def hMost (k : Nat) : Int := if k == 2 then 501 else if hasInt k then 9223372036854775807 else 0
/-- what events of a kind have, as cells -/
def hasC (k : Nat) : List Value := [.bool (decide (1 ≤ k ∧ k ≤ 12)), .bool (hasId k), .bool (hasName k), .bool (hasList k), .bool (hasValue k), .bool (hasInt k), .int .i64 (hLeast k), .int .i64 (hMost k)]

def tab : Array Value := ((List.range 13).flatMap hasC).toArray
theorem tab_size : tab.size = 104 := by decide
theorem tab_at : ∀ k, k < 13 → ∀ j, j < 8 → tab[k * 8 + j]? = (hasC k)[j]? := by
  intro k hk j hj
  have h : k = 0 ∨ k = 1 ∨ k = 2 ∨ k = 3 ∨ k = 4 ∨ k = 5 ∨ k = 6 ∨ k = 7 ∨ k = 8 ∨ k = 9 ∨ k = 10 ∨ k = 11 ∨ k = 12 := by omega
  have h2 : j = 0 ∨ j = 1 ∨ j = 2 ∨ j = 3 ∨ j = 4 ∨ j = 5 ∨ j = 6 ∨ j = 7 := by omega
  rcases h with rfl | rfl | rfl | rfl | rfl | rfl | rfl | rfl | rfl | rfl | rfl | rfl | rfl <;> rcases h2 with rfl | rfl | rfl | rfl | rfl | rfl | rfl | rfl <;> rfl

theorem heap2' (w : World) (o o2 : Obj) : ((w.alloc o).alloc o2).heap[w.heap.size + 1]? = some o2 := by
  have := heap_alloc_new (w.alloc o) o2; rwa [World.size_alloc] at this
theorem setRow2 (w : World) (o : Obj) (c c' : Array Value) (t : TypeId) : ((w.alloc o).alloc (.cells c t)).setRow (w.heap.size + 1) c' = (w.alloc o).alloc (.cells c' t) := by
  have := World.setRow_alloc_new (w.alloc o) c c' t; rwa [World.size_alloc] at this
theorem tab_one : tab.all (·.oneCell') = true := by kernel_rfl
theorem tab_info : (Try.prog.info? 93).map (·.size) = some tab.size := by rw [tab_size]; kernel_rfl

set_option maxRecDepth 100000 in
set_option maxHeartbeats 4000000 in
theorem fields_in (k : Nat) (hk : k < 13) (w : World) : Calls Try.prog 32 #[.int .u8 k] w fun e w' => e = .returned (.agg (hasC k).toArray) ∧ Below w.heap.size w w' := by
  have hcell := tab_at k hk
  have t0 := hcell 0 (by omega)
  have t1 := hcell 1 (by omega)
  have t2 := hcell 2 (by omega)
  have t3 := hcell 3 (by omega)
  have t4 := hcell 4 (by omega)
  have t5 := hcell 5 (by omega)
  have t6 := hcell 6 (by omega)
  have t7 := hcell 7 (by omega)
  rw [Nat.add_zero] at t0
  unfold hasC at *
  simp only [List.getElem?_cons_succ, List.getElem?_cons_zero] at t0 t1 t2 t3 t4 t5 t6 t7
  have hk1 : (k : Int) < 13 := by omega
  clear hcell hk
  generalize decide (1 ≤ k ∧ k ≤ 12) = is at *
  generalize hasId k = hi at *
  generalize hasName k = hn at *
  generalize hasList k = hl at *
  generalize hasValue k = hv at *
  generalize hasInt k = hm at *
  generalize hLeast k = lo at *
  generalize hMost k = mo at *
  go_enter Try.func32, Try.ntmps32
  go_wp2_with (first | (refine wpList_build rfl 93 _ rfl (by kernel_rfl) ?_; generalize hT : Option.getD (Program.built _ _ _) #[] = T; obtain rfl : T = tab := hT.symm.trans (by kernel_rfl); clear hT) | (refine wpList_store_row rfl 93 _ _ rfl (w.heap.size + 1) tab rfl rfl 93 _ (heap2' _ _ _) tab_info (by rw [tab_size]; rfl) tab_one ?_; rw [setRow2]))
  refine bodyPost_ret (v := .agg #[.bool is, .bool hi, .bool hn, .bool hl, .bool hv, .bool hm, .int .i64 lo, .int .i64 mo]) (by simp [results, Try.results32, go_sem]) rfl ⟨rfl, ?_⟩
  exact ((Below.refl _ _).alloc (Nat.le_refl _) _).alloc (by simp) _
theorem hasC_out (k : Nat) (hk : 13 ≤ k) : hasC k = [.bool false, .bool false, .bool false, .bool false, .bool false, .bool false, .int .i64 0, .int .i64 0] := by
  have h : ∀ j, j < 13 → (k == j) = false := fun j hj => by rw [beq_eq_false_iff_ne]; omega
  have hd : decide (1 ≤ k ∧ k ≤ 12) = false := by simp; omega
  simp [hasC, hasId, hasName, hasList, hasValue, hasInt, hLeast, hMost, hd, h]
set_option maxRecDepth 100000 in
set_option maxHeartbeats 4000000 in
theorem fields_out (k : Nat) (hk : 13 ≤ k) (hk2 : k < 256) (w : World) : Calls Try.prog 32 #[.int .u8 k] w fun e w' => e = .returned (.agg (hasC k).toArray) ∧ Below w.heap.size w w' := by
  have hk1 : (13 : Int) ≤ (k : Int) := by omega
  have hk3 : (k : Int) ≤ 255 := by omega
  rw [hasC_out k hk]
  clear hk hk2
  go_enter Try.func32, Try.ntmps32
  go_wp2_with (first | (refine wpList_build rfl 93 _ rfl (by kernel_rfl) ?_; generalize hT : Option.getD (Program.built _ _ _) #[] = T; obtain rfl : T = tab := hT.symm.trans (by kernel_rfl); clear hT) | (refine wpList_store_row rfl 93 _ _ rfl (w.heap.size + 1) tab rfl rfl 93 _ (heap2' _ _ _) tab_info (by rw [tab_size]; rfl) tab_one ?_; rw [setRow2]))
  refine bodyPost_ret (v := .agg #[.bool false, .bool false, .bool false, .bool false, .bool false, .bool false, .int .i64 0, .int .i64 0]) (by simp [results, Try.results32, go_sem]) rfl ⟨rfl, ?_⟩
  exact ((Below.refl _ _).alloc (Nat.le_refl _) _).alloc (by simp) _
theorem fields_any (k : Nat) (hk : k < 256) (w : World) : Calls Try.prog 32 #[.int .u8 k] w fun e w' => e = .returned (.agg (hasC k).toArray) ∧ Below w.heap.size w w' := by
  by_cases h : k < 13
  · exact fields_in k h w
  · exact fields_out k (by omega) hk w
end Go.Proofs.Yticipdjfkpakpaa
