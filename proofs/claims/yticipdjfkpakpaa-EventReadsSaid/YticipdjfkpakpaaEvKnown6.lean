/- EventKnown: the chapter's examples and limits (written by gen_evknown6.py). -/
import Derived.Test.YticipdjfkpakpaaEvKnown5
import Derived.OwnWalk
namespace Go.Proofs.Yticipdjfkpakpaa
open Go.RowKit
attribute [local go_sem] run_store_cx'

theorem blk_new' {w : World} {n : Nat} (hn : w.heap.size = n) (t : TypeId) (cs : List Value) : Blk (w.alloc (.cells cs.toArray t)) n t cs := by subst hn; exact heap_alloc_new w _
theorem info_ev : (Try.prog.info? 27).map (fun i => (i.zero, i.size, i.bytes)) = some (some (.agg #[.int .u8 0, .int .i64 0, .string ⟨#[]⟩, .slice none 0 0, .int .i64 0]), 5, 64) := by kernel_rfl
def ev501 : Ev := ⟨2, 0, [], [], 501⟩
theorem ev501_raw : EvRaw ev501 := ⟨by decide, by decide, by decide, by decide, by decide, by decide, ⟨by decide, by decide⟩, by decide, fun h => absurd h (by decide)⟩
def ev502 : Ev := ⟨2, 0, [], [], 502⟩
theorem ev502_raw : EvRaw ev502 := ⟨by decide, by decide, by decide, by decide, by decide, by decide, ⟨by decide, by decide⟩, by decide, fun h => absurd h (by decide)⟩
def ev500 : Ev := ⟨11, 500, [], [], 0⟩
theorem ev500_raw : EvRaw ev500 := ⟨by decide, by decide, by decide, by decide, by decide, by decide, ⟨by decide, by decide⟩, by decide, fun h => absurd h (by decide)⟩
def ev300 : Ev := ⟨11, 300, [], [], 0⟩
theorem ev300_raw : EvRaw ev300 := ⟨by decide, by decide, by decide, by decide, by decide, by decide, ⟨by decide, by decide⟩, by decide, fun h => absurd h (by decide)⟩
theorem ev300_ok : evOk ev300 = true := by decide
theorem ev300_B : evB ev300 = [11, 172, 2] := by
  have h : Cd.uB 300 = [172, 2] := by rw [Cd.uB_ge (by decide), Cd.uB_lt (by decide)]; rfl
  show [UInt8.ofNat 11] ++ Cd.uB 300 ++ [] ++ [] ++ [] = _
  rw [h]; rfl
theorem packS : packB [evS] = [1, 1, 1, 102, 5, 0, 2] := by
  have h1 : Cd.uB 1 = [1] := by rw [Cd.uB_lt (by decide)]; rfl
  have h2 : Cd.uB 2 = [2] := by rw [Cd.uB_lt (by decide)]; rfl
  have h0 : flatB [nd0 5] = [5, 0] := by
    have hr : rdValue [5, 0] = .ok ([nd0 5], 2) := by rfl
    obtain ⟨sz, hI⟩ := rdValue_inv hr
    exact hI.bytes
  show Cd.uB 1 ++ ([UInt8.ofNat 1] ++ [] ++ (Cd.uB 1 ++ [102]) ++ flatB [nd0 5] ++ Cd.uB 2 ++ []) = _
  rw [h0, h1, h2]; rfl
set_option maxRecDepth 20000 in
set_option maxHeartbeats 8000000 in
theorem known_any (w : World) : Calls Try.prog 4 #[] w fun e w' => e = .returned (.bool true) ∧ Below w.heap.size w w' := by
  obtain ⟨iE, hi, hz0, hz1, hz2⟩ := info_parts info_ev
  go_enter Try.func4, Try.ntmps4
  go_wp2_with fail
  refine (started_any _).mono ?_
  rintro e w1 ⟨a, rfl, hA, B1⟩
  unfold evSV
  go_wp2_with fail
  have hS : Blk (((((w1.alloc (.cells #[.int .u8 1, .int .i64 0, .string ⟨#[102]⟩, .slice (some ⟨a, 0, none⟩) 1 1, .int .i64 1] 27)).alloc (.cells #[.int .u8 5, .int .i64 0, .int .i64 0, .string ⟨#[]⟩, .complex .f64 0 0] 40)).alloc (.cells #[.int .u8 3, .int .i64 0, .string ⟨#[112, 97, 121]⟩, .slice (some ⟨w1.heap.size + 1, 0, none⟩) 1 1, .int .i64 0] 27)).alloc (.cells #[.int .u8 2, .int .i64 0, .string ⟨#[]⟩, .slice none 0 0, .int .i64 2] 27)).alloc (.cells #[.int .u8 1, .int .i64 0, .string ⟨#[102]⟩, .slice (some ⟨a, 0, none⟩) 1 1, .int .i64 1, .int .u8 2, .int .i64 0, .string ⟨#[]⟩, .slice none 0 0, .int .i64 2, .int .u8 3, .int .i64 0, .string ⟨#[112, 97, 121]⟩, .slice (some ⟨w1.heap.size + 1, 0, none⟩) 1 1, .int .i64 0] 27)) (w1.heap.size) 27 [.int .u8 1, .int .i64 0, .string ⟨#[102]⟩, .slice (some ⟨a, 0, none⟩) 1 1, .int .i64 1] := ((((blk_new' (w := w1) (n := w1.heap.size) (by simp) 27 [.int .u8 1, .int .i64 0, .string ⟨#[102]⟩, .slice (some ⟨a, 0, none⟩) 1 1, .int .i64 1]).alloc (.cells #[.int .u8 5, .int .i64 0, .int .i64 0, .string ⟨#[]⟩, .complex .f64 0 0] 40)).alloc (.cells #[.int .u8 3, .int .i64 0, .string ⟨#[112, 97, 121]⟩, .slice (some ⟨w1.heap.size + 1, 0, none⟩) 1 1, .int .i64 0] 27)).alloc (.cells #[.int .u8 2, .int .i64 0, .string ⟨#[]⟩, .slice none 0 0, .int .i64 2] 27)).alloc (.cells #[.int .u8 1, .int .i64 0, .string ⟨#[102]⟩, .slice (some ⟨a, 0, none⟩) 1 1, .int .i64 1, .int .u8 2, .int .i64 0, .string ⟨#[]⟩, .slice none 0 0, .int .i64 2, .int .u8 3, .int .i64 0, .string ⟨#[112, 97, 121]⟩, .slice (some ⟨w1.heap.size + 1, 0, none⟩) 1 1, .int .i64 0] 27)
  have hN : Blk (((((w1.alloc (.cells #[.int .u8 1, .int .i64 0, .string ⟨#[102]⟩, .slice (some ⟨a, 0, none⟩) 1 1, .int .i64 1] 27)).alloc (.cells #[.int .u8 5, .int .i64 0, .int .i64 0, .string ⟨#[]⟩, .complex .f64 0 0] 40)).alloc (.cells #[.int .u8 3, .int .i64 0, .string ⟨#[112, 97, 121]⟩, .slice (some ⟨w1.heap.size + 1, 0, none⟩) 1 1, .int .i64 0] 27)).alloc (.cells #[.int .u8 2, .int .i64 0, .string ⟨#[]⟩, .slice none 0 0, .int .i64 2] 27)).alloc (.cells #[.int .u8 1, .int .i64 0, .string ⟨#[102]⟩, .slice (some ⟨a, 0, none⟩) 1 1, .int .i64 1, .int .u8 2, .int .i64 0, .string ⟨#[]⟩, .slice none 0 0, .int .i64 2, .int .u8 3, .int .i64 0, .string ⟨#[112, 97, 121]⟩, .slice (some ⟨w1.heap.size + 1, 0, none⟩) 1 1, .int .i64 0] 27)) (w1.heap.size + 1) 40 [.int .u8 5, .int .i64 0, .int .i64 0, .string ⟨#[]⟩, .complex .f64 0 0] := (((blk_new' (w := (w1.alloc (.cells #[.int .u8 1, .int .i64 0, .string ⟨#[102]⟩, .slice (some ⟨a, 0, none⟩) 1 1, .int .i64 1] 27))) (n := w1.heap.size + 1) (by simp) 40 [.int .u8 5, .int .i64 0, .int .i64 0, .string ⟨#[]⟩, .complex .f64 0 0]).alloc (.cells #[.int .u8 3, .int .i64 0, .string ⟨#[112, 97, 121]⟩, .slice (some ⟨w1.heap.size + 1, 0, none⟩) 1 1, .int .i64 0] 27)).alloc (.cells #[.int .u8 2, .int .i64 0, .string ⟨#[]⟩, .slice none 0 0, .int .i64 2] 27)).alloc (.cells #[.int .u8 1, .int .i64 0, .string ⟨#[102]⟩, .slice (some ⟨a, 0, none⟩) 1 1, .int .i64 1, .int .u8 2, .int .i64 0, .string ⟨#[]⟩, .slice none 0 0, .int .i64 2, .int .u8 3, .int .i64 0, .string ⟨#[112, 97, 121]⟩, .slice (some ⟨w1.heap.size + 1, 0, none⟩) 1 1, .int .i64 0] 27)
  have hP : Blk (((((w1.alloc (.cells #[.int .u8 1, .int .i64 0, .string ⟨#[102]⟩, .slice (some ⟨a, 0, none⟩) 1 1, .int .i64 1] 27)).alloc (.cells #[.int .u8 5, .int .i64 0, .int .i64 0, .string ⟨#[]⟩, .complex .f64 0 0] 40)).alloc (.cells #[.int .u8 3, .int .i64 0, .string ⟨#[112, 97, 121]⟩, .slice (some ⟨w1.heap.size + 1, 0, none⟩) 1 1, .int .i64 0] 27)).alloc (.cells #[.int .u8 2, .int .i64 0, .string ⟨#[]⟩, .slice none 0 0, .int .i64 2] 27)).alloc (.cells #[.int .u8 1, .int .i64 0, .string ⟨#[102]⟩, .slice (some ⟨a, 0, none⟩) 1 1, .int .i64 1, .int .u8 2, .int .i64 0, .string ⟨#[]⟩, .slice none 0 0, .int .i64 2, .int .u8 3, .int .i64 0, .string ⟨#[112, 97, 121]⟩, .slice (some ⟨w1.heap.size + 1, 0, none⟩) 1 1, .int .i64 0] 27)) (w1.heap.size + 1 + 1) 27 [.int .u8 3, .int .i64 0, .string ⟨#[112, 97, 121]⟩, .slice (some ⟨w1.heap.size + 1, 0, none⟩) 1 1, .int .i64 0] := ((blk_new' (w := ((w1.alloc (.cells #[.int .u8 1, .int .i64 0, .string ⟨#[102]⟩, .slice (some ⟨a, 0, none⟩) 1 1, .int .i64 1] 27)).alloc (.cells #[.int .u8 5, .int .i64 0, .int .i64 0, .string ⟨#[]⟩, .complex .f64 0 0] 40))) (n := w1.heap.size + 1 + 1) (by simp) 27 [.int .u8 3, .int .i64 0, .string ⟨#[112, 97, 121]⟩, .slice (some ⟨w1.heap.size + 1, 0, none⟩) 1 1, .int .i64 0]).alloc (.cells #[.int .u8 2, .int .i64 0, .string ⟨#[]⟩, .slice none 0 0, .int .i64 2] 27)).alloc (.cells #[.int .u8 1, .int .i64 0, .string ⟨#[102]⟩, .slice (some ⟨a, 0, none⟩) 1 1, .int .i64 1, .int .u8 2, .int .i64 0, .string ⟨#[]⟩, .slice none 0 0, .int .i64 2, .int .u8 3, .int .i64 0, .string ⟨#[112, 97, 121]⟩, .slice (some ⟨w1.heap.size + 1, 0, none⟩) 1 1, .int .i64 0] 27)
  have hT : Blk (((((w1.alloc (.cells #[.int .u8 1, .int .i64 0, .string ⟨#[102]⟩, .slice (some ⟨a, 0, none⟩) 1 1, .int .i64 1] 27)).alloc (.cells #[.int .u8 5, .int .i64 0, .int .i64 0, .string ⟨#[]⟩, .complex .f64 0 0] 40)).alloc (.cells #[.int .u8 3, .int .i64 0, .string ⟨#[112, 97, 121]⟩, .slice (some ⟨w1.heap.size + 1, 0, none⟩) 1 1, .int .i64 0] 27)).alloc (.cells #[.int .u8 2, .int .i64 0, .string ⟨#[]⟩, .slice none 0 0, .int .i64 2] 27)).alloc (.cells #[.int .u8 1, .int .i64 0, .string ⟨#[102]⟩, .slice (some ⟨a, 0, none⟩) 1 1, .int .i64 1, .int .u8 2, .int .i64 0, .string ⟨#[]⟩, .slice none 0 0, .int .i64 2, .int .u8 3, .int .i64 0, .string ⟨#[112, 97, 121]⟩, .slice (some ⟨w1.heap.size + 1, 0, none⟩) 1 1, .int .i64 0] 27)) (w1.heap.size + 1 + 1 + 1) 27 [.int .u8 2, .int .i64 0, .string ⟨#[]⟩, .slice none 0 0, .int .i64 2] := (blk_new' (w := (((w1.alloc (.cells #[.int .u8 1, .int .i64 0, .string ⟨#[102]⟩, .slice (some ⟨a, 0, none⟩) 1 1, .int .i64 1] 27)).alloc (.cells #[.int .u8 5, .int .i64 0, .int .i64 0, .string ⟨#[]⟩, .complex .f64 0 0] 40)).alloc (.cells #[.int .u8 3, .int .i64 0, .string ⟨#[112, 97, 121]⟩, .slice (some ⟨w1.heap.size + 1, 0, none⟩) 1 1, .int .i64 0] 27))) (n := w1.heap.size + 1 + 1 + 1) (by simp) 27 [.int .u8 2, .int .i64 0, .string ⟨#[]⟩, .slice none 0 0, .int .i64 2]).alloc (.cells #[.int .u8 1, .int .i64 0, .string ⟨#[102]⟩, .slice (some ⟨a, 0, none⟩) 1 1, .int .i64 1, .int .u8 2, .int .i64 0, .string ⟨#[]⟩, .slice none 0 0, .int .i64 2, .int .u8 3, .int .i64 0, .string ⟨#[112, 97, 121]⟩, .slice (some ⟨w1.heap.size + 1, 0, none⟩) 1 1, .int .i64 0] 27)
  have hR : Blk (((((w1.alloc (.cells #[.int .u8 1, .int .i64 0, .string ⟨#[102]⟩, .slice (some ⟨a, 0, none⟩) 1 1, .int .i64 1] 27)).alloc (.cells #[.int .u8 5, .int .i64 0, .int .i64 0, .string ⟨#[]⟩, .complex .f64 0 0] 40)).alloc (.cells #[.int .u8 3, .int .i64 0, .string ⟨#[112, 97, 121]⟩, .slice (some ⟨w1.heap.size + 1, 0, none⟩) 1 1, .int .i64 0] 27)).alloc (.cells #[.int .u8 2, .int .i64 0, .string ⟨#[]⟩, .slice none 0 0, .int .i64 2] 27)).alloc (.cells #[.int .u8 1, .int .i64 0, .string ⟨#[102]⟩, .slice (some ⟨a, 0, none⟩) 1 1, .int .i64 1, .int .u8 2, .int .i64 0, .string ⟨#[]⟩, .slice none 0 0, .int .i64 2, .int .u8 3, .int .i64 0, .string ⟨#[112, 97, 121]⟩, .slice (some ⟨w1.heap.size + 1, 0, none⟩) 1 1, .int .i64 0] 27)) (w1.heap.size + 1 + 1 + 1 + 1) 27 [.int .u8 1, .int .i64 0, .string ⟨#[102]⟩, .slice (some ⟨a, 0, none⟩) 1 1, .int .i64 1, .int .u8 2, .int .i64 0, .string ⟨#[]⟩, .slice none 0 0, .int .i64 2, .int .u8 3, .int .i64 0, .string ⟨#[112, 97, 121]⟩, .slice (some ⟨w1.heap.size + 1, 0, none⟩) 1 1, .int .i64 0] := blk_new' (w := ((((w1.alloc (.cells #[.int .u8 1, .int .i64 0, .string ⟨#[102]⟩, .slice (some ⟨a, 0, none⟩) 1 1, .int .i64 1] 27)).alloc (.cells #[.int .u8 5, .int .i64 0, .int .i64 0, .string ⟨#[]⟩, .complex .f64 0 0] 40)).alloc (.cells #[.int .u8 3, .int .i64 0, .string ⟨#[112, 97, 121]⟩, .slice (some ⟨w1.heap.size + 1, 0, none⟩) 1 1, .int .i64 0] 27)).alloc (.cells #[.int .u8 2, .int .i64 0, .string ⟨#[]⟩, .slice none 0 0, .int .i64 2] 27))) (n := w1.heap.size + 1 + 1 + 1 + 1) (by simp) 27 [.int .u8 1, .int .i64 0, .string ⟨#[102]⟩, .slice (some ⟨a, 0, none⟩) 1 1, .int .i64 1, .int .u8 2, .int .i64 0, .string ⟨#[]⟩, .slice none 0 0, .int .i64 2, .int .u8 3, .int .i64 0, .string ⟨#[112, 97, 121]⟩, .slice (some ⟨w1.heap.size + 1, 0, none⟩) 1 1, .int .i64 0]
  have hA0 := (((((hA).alloc (.cells #[.int .u8 1, .int .i64 0, .string ⟨#[102]⟩, .slice (some ⟨a, 0, none⟩) 1 1, .int .i64 1] 27)).alloc (.cells #[.int .u8 5, .int .i64 0, .int .i64 0, .string ⟨#[]⟩, .complex .f64 0 0] 40)).alloc (.cells #[.int .u8 3, .int .i64 0, .string ⟨#[112, 97, 121]⟩, .slice (some ⟨w1.heap.size + 1, 0, none⟩) 1 1, .int .i64 0] 27)).alloc (.cells #[.int .u8 2, .int .i64 0, .string ⟨#[]⟩, .slice none 0 0, .int .i64 2] 27)).alloc (.cells #[.int .u8 1, .int .i64 0, .string ⟨#[102]⟩, .slice (some ⟨a, 0, none⟩) 1 1, .int .i64 1, .int .u8 2, .int .i64 0, .string ⟨#[]⟩, .slice none 0 0, .int .i64 2, .int .u8 3, .int .i64 0, .string ⟨#[112, 97, 121]⟩, .slice (some ⟨w1.heap.size + 1, 0, none⟩) 1 1, .int .i64 0] 27)
  have hB : Below w.heap.size w (((((w1.alloc (.cells #[.int .u8 1, .int .i64 0, .string ⟨#[102]⟩, .slice (some ⟨a, 0, none⟩) 1 1, .int .i64 1] 27)).alloc (.cells #[.int .u8 5, .int .i64 0, .int .i64 0, .string ⟨#[]⟩, .complex .f64 0 0] 40)).alloc (.cells #[.int .u8 3, .int .i64 0, .string ⟨#[112, 97, 121]⟩, .slice (some ⟨w1.heap.size + 1, 0, none⟩) 1 1, .int .i64 0] 27)).alloc (.cells #[.int .u8 2, .int .i64 0, .string ⟨#[]⟩, .slice none 0 0, .int .i64 2] 27)).alloc (.cells #[.int .u8 1, .int .i64 0, .string ⟨#[102]⟩, .slice (some ⟨a, 0, none⟩) 1 1, .int .i64 1, .int .u8 2, .int .i64 0, .string ⟨#[]⟩, .slice none 0 0, .int .i64 2, .int .u8 3, .int .i64 0, .string ⟨#[112, 97, 121]⟩, .slice (some ⟨w1.heap.size + 1, 0, none⟩) 1 1, .int .i64 0] 27)) := ((((((((((B1).alloc B1.size (.cells #[.int .u8 1, .int .i64 0, .string ⟨#[102]⟩, .slice (some ⟨a, 0, none⟩) 1 1, .int .i64 1] 27))).alloc (by have := B1.size; simp; omega; done) (.cells #[.int .u8 5, .int .i64 0, .int .i64 0, .string ⟨#[]⟩, .complex .f64 0 0] 40))).alloc (by have := B1.size; simp; omega; done) (.cells #[.int .u8 3, .int .i64 0, .string ⟨#[112, 97, 121]⟩, .slice (some ⟨w1.heap.size + 1, 0, none⟩) 1 1, .int .i64 0] 27))).alloc (by have := B1.size; simp; omega; done) (.cells #[.int .u8 2, .int .i64 0, .string ⟨#[]⟩, .slice none 0 0, .int .i64 2] 27))).alloc (by have := B1.size; simp; omega; done) (.cells #[.int .u8 1, .int .i64 0, .string ⟨#[102]⟩, .slice (some ⟨a, 0, none⟩) 1 1, .int .i64 1, .int .u8 2, .int .i64 0, .string ⟨#[]⟩, .slice none 0 0, .int .i64 2, .int .u8 3, .int .i64 0, .string ⟨#[112, 97, 121]⟩, .slice (some ⟨w1.heap.size + 1, 0, none⟩) 1 1, .int .i64 0] 27))
  generalize (((((w1.alloc (.cells #[.int .u8 1, .int .i64 0, .string ⟨#[102]⟩, .slice (some ⟨a, 0, none⟩) 1 1, .int .i64 1] 27)).alloc (.cells #[.int .u8 5, .int .i64 0, .int .i64 0, .string ⟨#[]⟩, .complex .f64 0 0] 40)).alloc (.cells #[.int .u8 3, .int .i64 0, .string ⟨#[112, 97, 121]⟩, .slice (some ⟨w1.heap.size + 1, 0, none⟩) 1 1, .int .i64 0] 27)).alloc (.cells #[.int .u8 2, .int .i64 0, .string ⟨#[]⟩, .slice none 0 0, .int .i64 2] 27)).alloc (.cells #[.int .u8 1, .int .i64 0, .string ⟨#[102]⟩, .slice (some ⟨a, 0, none⟩) 1 1, .int .i64 1, .int .u8 2, .int .i64 0, .string ⟨#[]⟩, .slice none 0 0, .int .i64 2, .int .u8 3, .int .i64 0, .string ⟨#[112, 97, 121]⟩, .slice (some ⟨w1.heap.size + 1, 0, none⟩) 1 1, .int .i64 0] 27)) = W at hS hN hP hT hR hA0 hB ⊢
  generalize w1.heap.size = q at *
  clear hA B1
  refine (form_3 W _ a _ hR (vin_S hA0) (vin_S hN)).mono ?_
  rintro e w2 ⟨rfl, B⟩
  clear hR
  have hS := hS.bel B
  have hN := hN.bel B
  have hP := hP.bel B
  have hT := hT.bel B
  have hA0 := hA0.bel B
  have hB := hB.trans (B.mono hB.size)
  clear B
  have s0 := hS.cell 0
  have s1 := hS.cell 1
  have s2 := hS.cell 2
  have s3 := hS.cell 3
  have s4 := hS.cell 4
  have t0 := hT.cell 0
  have t1 := hT.cell 1
  have t2 := hT.cell 2
  have t3 := hT.cell 3
  have t4 := hT.cell 4
  have p0 := hP.cell 0
  have p1 := hP.cell 1
  have p2 := hP.cell 2
  have p3 := hP.cell 3
  have p4 := hP.cell 4
  simp only [List.getElem?_cons_succ, List.getElem?_cons_zero] at s0 s1 s2 s3 s4 t0 t1 t2 t3 t4 p0 p1 p2 p3 p4
  go_wp2_with fail
  clear s0 s1 s2 s3 s4 t0 t1 t2 t3 t4 p0 p1 p2 p3 p4
  have hR : Blk (w2.alloc (.cells #[.int .u8 1, .int .i64 0, .string ⟨#[102]⟩, .slice (some ⟨a, 0, none⟩) 1 1, .int .i64 1, .int .u8 2, .int .i64 0, .string ⟨#[]⟩, .slice none 0 0, .int .i64 2, .int .u8 3, .int .i64 0, .string ⟨#[112, 97, 121]⟩, .slice (some ⟨q + 1, 0, none⟩) 1 1, .int .i64 0, .int .u8 3, .int .i64 0, .string ⟨#[112, 97, 121]⟩, .slice (some ⟨q + 1, 0, none⟩) 1 1, .int .i64 0] 27)) w2.heap.size 27 [.int .u8 1, .int .i64 0, .string ⟨#[102]⟩, .slice (some ⟨a, 0, none⟩) 1 1, .int .i64 1, .int .u8 2, .int .i64 0, .string ⟨#[]⟩, .slice none 0 0, .int .i64 2, .int .u8 3, .int .i64 0, .string ⟨#[112, 97, 121]⟩, .slice (some ⟨q + 1, 0, none⟩) 1 1, .int .i64 0, .int .u8 3, .int .i64 0, .string ⟨#[112, 97, 121]⟩, .slice (some ⟨q + 1, 0, none⟩) 1 1, .int .i64 0] := heap_alloc_new w2 _
  have hS := hS.alloc (.cells #[.int .u8 1, .int .i64 0, .string ⟨#[102]⟩, .slice (some ⟨a, 0, none⟩) 1 1, .int .i64 1, .int .u8 2, .int .i64 0, .string ⟨#[]⟩, .slice none 0 0, .int .i64 2, .int .u8 3, .int .i64 0, .string ⟨#[112, 97, 121]⟩, .slice (some ⟨q + 1, 0, none⟩) 1 1, .int .i64 0, .int .u8 3, .int .i64 0, .string ⟨#[112, 97, 121]⟩, .slice (some ⟨q + 1, 0, none⟩) 1 1, .int .i64 0] 27)
  have hN := hN.alloc (.cells #[.int .u8 1, .int .i64 0, .string ⟨#[102]⟩, .slice (some ⟨a, 0, none⟩) 1 1, .int .i64 1, .int .u8 2, .int .i64 0, .string ⟨#[]⟩, .slice none 0 0, .int .i64 2, .int .u8 3, .int .i64 0, .string ⟨#[112, 97, 121]⟩, .slice (some ⟨q + 1, 0, none⟩) 1 1, .int .i64 0, .int .u8 3, .int .i64 0, .string ⟨#[112, 97, 121]⟩, .slice (some ⟨q + 1, 0, none⟩) 1 1, .int .i64 0] 27)
  have hP := hP.alloc (.cells #[.int .u8 1, .int .i64 0, .string ⟨#[102]⟩, .slice (some ⟨a, 0, none⟩) 1 1, .int .i64 1, .int .u8 2, .int .i64 0, .string ⟨#[]⟩, .slice none 0 0, .int .i64 2, .int .u8 3, .int .i64 0, .string ⟨#[112, 97, 121]⟩, .slice (some ⟨q + 1, 0, none⟩) 1 1, .int .i64 0, .int .u8 3, .int .i64 0, .string ⟨#[112, 97, 121]⟩, .slice (some ⟨q + 1, 0, none⟩) 1 1, .int .i64 0] 27)
  have hT := hT.alloc (.cells #[.int .u8 1, .int .i64 0, .string ⟨#[102]⟩, .slice (some ⟨a, 0, none⟩) 1 1, .int .i64 1, .int .u8 2, .int .i64 0, .string ⟨#[]⟩, .slice none 0 0, .int .i64 2, .int .u8 3, .int .i64 0, .string ⟨#[112, 97, 121]⟩, .slice (some ⟨q + 1, 0, none⟩) 1 1, .int .i64 0, .int .u8 3, .int .i64 0, .string ⟨#[112, 97, 121]⟩, .slice (some ⟨q + 1, 0, none⟩) 1 1, .int .i64 0] 27)
  have hA0 := hA0.alloc (.cells #[.int .u8 1, .int .i64 0, .string ⟨#[102]⟩, .slice (some ⟨a, 0, none⟩) 1 1, .int .i64 1, .int .u8 2, .int .i64 0, .string ⟨#[]⟩, .slice none 0 0, .int .i64 2, .int .u8 3, .int .i64 0, .string ⟨#[112, 97, 121]⟩, .slice (some ⟨q + 1, 0, none⟩) 1 1, .int .i64 0, .int .u8 3, .int .i64 0, .string ⟨#[112, 97, 121]⟩, .slice (some ⟨q + 1, 0, none⟩) 1 1, .int .i64 0] 27)
  have hB := hB.alloc hB.size (.cells #[.int .u8 1, .int .i64 0, .string ⟨#[102]⟩, .slice (some ⟨a, 0, none⟩) 1 1, .int .i64 1, .int .u8 2, .int .i64 0, .string ⟨#[]⟩, .slice none 0 0, .int .i64 2, .int .u8 3, .int .i64 0, .string ⟨#[112, 97, 121]⟩, .slice (some ⟨q + 1, 0, none⟩) 1 1, .int .i64 0, .int .u8 3, .int .i64 0, .string ⟨#[112, 97, 121]⟩, .slice (some ⟨q + 1, 0, none⟩) 1 1, .int .i64 0] 27)
  refine (form_4 _ _ a _ hR (vin_S hA0) (vin_S hN)).mono ?_
  rintro e w3 ⟨rfl, B⟩
  clear hR
  have hS := hS.bel B
  have hN := hN.bel B
  have hP := hP.bel B
  have hT := hT.bel B
  have hA0 := hA0.bel B
  have hB := hB.trans (B.mono hB.size)
  clear B
  have t0 := hT.cell 0
  have t1 := hT.cell 1
  have t2 := hT.cell 2
  have t3 := hT.cell 3
  have t4 := hT.cell 4
  simp only [List.getElem?_cons_succ, List.getElem?_cons_zero] at t0 t1 t2 t3 t4
  go_wp2_with fail
  clear t0 t1 t2 t3 t4
  have hR : Blk (w3.alloc (.cells #[.int .u8 2, .int .i64 0, .string ⟨#[]⟩, .slice none 0 0, .int .i64 2] 27)) w3.heap.size 27 [.int .u8 2, .int .i64 0, .string ⟨#[]⟩, .slice none 0 0, .int .i64 2] := heap_alloc_new w3 _
  have hS := hS.alloc (.cells #[.int .u8 2, .int .i64 0, .string ⟨#[]⟩, .slice none 0 0, .int .i64 2] 27)
  have hN := hN.alloc (.cells #[.int .u8 2, .int .i64 0, .string ⟨#[]⟩, .slice none 0 0, .int .i64 2] 27)
  have hP := hP.alloc (.cells #[.int .u8 2, .int .i64 0, .string ⟨#[]⟩, .slice none 0 0, .int .i64 2] 27)
  have hT := hT.alloc (.cells #[.int .u8 2, .int .i64 0, .string ⟨#[]⟩, .slice none 0 0, .int .i64 2] 27)
  have hA0 := hA0.alloc (.cells #[.int .u8 2, .int .i64 0, .string ⟨#[]⟩, .slice none 0 0, .int .i64 2] 27)
  have hB := hB.alloc hB.size (.cells #[.int .u8 2, .int .i64 0, .string ⟨#[]⟩, .slice none 0 0, .int .i64 2] 27)
  refine (form_two _ _ hR).mono ?_
  rintro e w4 ⟨rfl, B⟩
  clear hR
  have hS := hS.bel B
  have hN := hN.bel B
  have hP := hP.bel B
  have hT := hT.bel B
  have hA0 := hA0.bel B
  have hB := hB.trans (B.mono hB.size)
  clear B
  go_wp2_with (at_make; refine wpList_make_full _ rfl _ _ 33 rfl 0 27 iE _ 5 Try.underlying33 hi hz0 hz1 .i64 .i64 4097 4097 4097 rfl rfl rfl rfl (by rw [hz2]; decide) (by decide) (Nat.zero_le _) ?_; intro w5 _ hg5)
  have B : Below w4.heap.size w4 w5 := ⟨hg5.os, hg5.tape, hg5.output, hg5.size, fun i hi => hg5.block i hi (by simp)⟩
  clear hg5
  have hS := hS.bel B
  have hN := hN.bel B
  have hP := hP.bel B
  have hT := hT.bel B
  have hA0 := hA0.bel B
  have hB := hB.trans (B.mono hB.size)
  clear B
  refine (form_long _ _ _).mono ?_
  rintro e w6 ⟨rfl, B⟩
  have hS := hS.bel B
  have hN := hN.bel B
  have hP := hP.bel B
  have hT := hT.bel B
  have hA0 := hA0.bel B
  have hB := hB.trans (B.mono hB.size)
  clear B
  go_wp2_with fail
  refine (evBytes_any ev300 ev300_raw ev300_ok none 0 0 _ (.inl ⟨rfl, rfl⟩)).mono ?_
  rintro e w7 hm
  obtain ⟨A1, c1, rfl, i1, B⟩ := hm.bs
  clear hm
  have hS := hS.bel B
  have hN := hN.bel B
  have hP := hP.bel B
  have hT := hT.bel B
  have hA0 := hA0.bel B
  have hB := hB.trans (B.mono hB.size)
  clear B
  rw [ev300_B] at i1 ⊢
  have i1' : In w7 A1 3 c1 [11, 172, 2] := i1
  have I1 := Lib.hid i1'
  clear i1 i1'
  go_wp2_with fail
  have hin : In (w7.alloc (.cells #[.int .u8 11, .int .u8 244, .int .u8 3] 5)) (some ⟨w7.heap.size, 0, none⟩) 3 3 [11, 244, 3] := in_lit w7 [11, 244, 3] (by decide)
  have I1 := Lib.hid (I1.out.below ((Below.refl w7.heap.size w7).alloc (Nat.le_refl _) (.cells #[.int .u8 11, .int .u8 244, .int .u8 3] 5)))
  have hS := hS.alloc (.cells #[.int .u8 11, .int .u8 244, .int .u8 3] 5)
  have hN := hN.alloc (.cells #[.int .u8 11, .int .u8 244, .int .u8 3] 5)
  have hP := hP.alloc (.cells #[.int .u8 11, .int .u8 244, .int .u8 3] 5)
  have hT := hT.alloc (.cells #[.int .u8 11, .int .u8 244, .int .u8 3] 5)
  have hA0 := hA0.alloc (.cells #[.int .u8 11, .int .u8 244, .int .u8 3] 5)
  have hB := hB.alloc hB.size (.cells #[.int .u8 11, .int .u8 244, .int .u8 3] 5)
  refine (evRead_any _ _ _ _ _ hin (by decide)).mono ?_
  rintro e w8 ⟨h8, B⟩
  rw [show rdEv [11, 244, 3] 0 = .error (0, 3) from by rfl] at h8
  obtain rfl := h8
  have I1 := Lib.hid (I1.out.below B)
  clear hin
  have hS := hS.bel B
  have hN := hN.bel B
  have hP := hP.bel B
  have hT := hT.bel B
  have hA0 := hA0.bel B
  have hB := hB.trans (B.mono hB.size)
  clear B
  unfold evV ev0
  have s0 := hS.cell 0
  have s1 := hS.cell 1
  have s2 := hS.cell 2
  have s3 := hS.cell 3
  have s4 := hS.cell 4
  simp only [List.getElem?_cons_succ, List.getElem?_cons_zero] at s0 s1 s2 s3 s4
  have hlt := hS.lt
  go_wp2_with fail
  clear s0 s1 s2 s3 s4 hlt
  have hR : Blk ((w8.alloc (.cells #[.int .u8 0, .int .i64 0, .string ⟨#[]⟩, .slice none 0 0, .int .i64 0] 27)).alloc (.cells #[.int .u8 1, .int .i64 0, .string ⟨#[102]⟩, .slice (some ⟨a, 0, none⟩) 1 1, .int .i64 1] 27)) (w8.heap.size + 1) 27 [.int .u8 1, .int .i64 0, .string ⟨#[102]⟩, .slice (some ⟨a, 0, none⟩) 1 1, .int .i64 1] := blk_new' (by simp) 27 [.int .u8 1, .int .i64 0, .string ⟨#[102]⟩, .slice (some ⟨a, 0, none⟩) 1 1, .int .i64 1]
  have B : Below w8.heap.size w8 ((w8.alloc (.cells #[.int .u8 0, .int .i64 0, .string ⟨#[]⟩, .slice none 0 0, .int .i64 0] 27)).alloc (.cells #[.int .u8 1, .int .i64 0, .string ⟨#[102]⟩, .slice (some ⟨a, 0, none⟩) 1 1, .int .i64 1] 27)) := ((Below.refl _ _).alloc (Nat.le_refl _) _).alloc (by simp) _
  have I1 := Lib.hid (I1.out.below B)
  have hS := hS.bel B
  have hN := hN.bel B
  have hP := hP.bel B
  have hT := hT.bel B
  have hA0 := hA0.bel B
  have hB := hB.trans (B.mono hB.size)
  clear B
  generalize ((w8.alloc (.cells #[.int .u8 0, .int .i64 0, .string ⟨#[]⟩, .slice none 0 0, .int .i64 0] 27)).alloc (.cells #[.int .u8 1, .int .i64 0, .string ⟨#[102]⟩, .slice (some ⟨a, 0, none⟩) 1 1, .int .i64 1] 27)) = V at *
  generalize w8.heap.size + 1 = d at *
  have hrow : EvRow V d [evS] := fun k hk => by
    obtain rfl : k = 0 := by simp at hk; omega
    refine ⟨some ⟨a, 0, none⟩, 1, vin_S hA0, fun j hj => ?_⟩
    rw [Nat.zero_mul, Nat.zero_add]
    exact hR.cell j
  refine (evPack_any V d 1 [evS] (by decide) (by intro x hx; simp at hx; subst hx; exact ⟨evS_raw, evS_ok⟩) (by rw [packS]; decide) hR.lt hrow).mono ?_
  rintro e w9 hm
  obtain ⟨A2, c2, rfl, i2, B⟩ := hm.bs
  have I1 := Lib.hid (I1.out.below B)
  clear hm hrow hR
  have hS := hS.bel B
  have hN := hN.bel B
  have hP := hP.bel B
  have hT := hT.bel B
  have hA0 := hA0.bel B
  have hB := hB.trans (B.mono hB.size)
  clear B
  rw [packS] at i2 ⊢
  have i2' : In w9 A2 7 c2 [1, 1, 1, 102, 5, 0, 2] := i2
  have I2 := Lib.hid i2'
  clear i2 i2'
  go_wp2_with fail
  have h1 : Blk ((w9.alloc (.cells #[.int .u8 2, .int .i64 0, .string ⟨#[]⟩, .slice none 0 0, .int .i64 501] 27)).alloc (.cells #[.int .u8 2, .int .i64 0, .string ⟨#[]⟩, .slice none 0 0, .int .i64 502] 27)) w9.heap.size 27 [.int .u8 2, .int .i64 0, .string ⟨#[]⟩, .slice none 0 0, .int .i64 501] := (blk_new' (w := w9) rfl 27 [.int .u8 2, .int .i64 0, .string ⟨#[]⟩, .slice none 0 0, .int .i64 501]).alloc _
  have h2 : Blk ((w9.alloc (.cells #[.int .u8 2, .int .i64 0, .string ⟨#[]⟩, .slice none 0 0, .int .i64 501] 27)).alloc (.cells #[.int .u8 2, .int .i64 0, .string ⟨#[]⟩, .slice none 0 0, .int .i64 502] 27)) (w9.heap.size + 1) 27 [.int .u8 2, .int .i64 0, .string ⟨#[]⟩, .slice none 0 0, .int .i64 502] := blk_new' (by simp) 27 [.int .u8 2, .int .i64 0, .string ⟨#[]⟩, .slice none 0 0, .int .i64 502]
  have B : Below w9.heap.size w9 ((w9.alloc (.cells #[.int .u8 2, .int .i64 0, .string ⟨#[]⟩, .slice none 0 0, .int .i64 501] 27)).alloc (.cells #[.int .u8 2, .int .i64 0, .string ⟨#[]⟩, .slice none 0 0, .int .i64 502] 27)) := ((Below.refl _ _).alloc (Nat.le_refl _) _).alloc (by simp) _
  have I1 := Lib.hid (I1.out.below B)
  have I2 := Lib.hid (I2.out.below B)
  have hB := hB.trans (B.mono hB.size)
  clear B hS hN hP hT hA0
  generalize ((w9.alloc (.cells #[.int .u8 2, .int .i64 0, .string ⟨#[]⟩, .slice none 0 0, .int .i64 501] 27)).alloc (.cells #[.int .u8 2, .int .i64 0, .string ⟨#[]⟩, .slice none 0 0, .int .i64 502] 27)) = V at *
  generalize w9.heap.size = d at *
  refine (awake_any V).mono ?_
  rintro e w10 ⟨rfl, B⟩
  have h1 := h1.bel B
  have h2 := h2.bel B
  have I1 := Lib.hid (I1.out.below B)
  have I2 := Lib.hid (I2.out.below B)
  have hB := hB.trans (B.mono hB.size)
  clear B
  have k1 := I1.out.conv
  have k2 := I2.out.conv
  have s0 := h1.cell 0
  have s1 := h1.cell 1
  have s2 := h1.cell 2
  have s3 := h1.cell 3
  have s4 := h1.cell 4
  simp only [List.getElem?_cons_succ, List.getElem?_cons_zero] at s0 s1 s2 s3 s4
  have p0 := h2.cell 0
  have p1 := h2.cell 1
  have p2 := h2.cell 2
  have p3 := h2.cell 3
  have p4 := h2.cell 4
  simp only [List.getElem?_cons_succ, List.getElem?_cons_zero] at p0 p1 p2 p3 p4
  unfold strV at k1 k2
  go_wp2_with fail
  clear h1 s0 s1 s2 s3 s4 p0 p1 p2 p3 p4 k1 k2
  refine (evCheck_any ev501 ev501_raw none 0 0 _ (.inl ⟨rfl, rfl⟩)).mono ?_
  rw [show evOk ev501 = true from by decide]
  rintro e w11 ⟨rfl, B⟩
  have h2 := h2.bel B
  have hB := hB.trans (B.mono hB.size)
  clear B
  have p0 := h2.cell 0
  have p1 := h2.cell 1
  have p2 := h2.cell 2
  have p3 := h2.cell 3
  have p4 := h2.cell 4
  simp only [List.getElem?_cons_succ, List.getElem?_cons_zero] at p0 p1 p2 p3 p4
  unfold okInt
  go_wp2_with fail
  refine (evCheck_any ev502 ev502_raw none 0 0 _ (.inl ⟨rfl, rfl⟩)).mono ?_
  rw [show evOk ev502 = false from by decide]
  rintro e w12 ⟨rfl, B⟩
  have h2 := h2.bel B
  have hB := hB.trans (B.mono hB.size)
  clear B
  unfold okInt
  go_wp2_with fail
  refine (evCheck_any ev500 ev500_raw none 0 0 _ (.inl ⟨rfl, rfl⟩)).mono ?_
  rw [show evOk ev500 = false from by decide]
  rintro e w13 ⟨rfl, B⟩
  have h2 := h2.bel B
  have hB := hB.trans (B.mono hB.size)
  clear B
  unfold okInt
  go_wp2_with fail
  go_ret
  exact ⟨rfl, hB⟩
end Go.Proofs.Yticipdjfkpakpaa
