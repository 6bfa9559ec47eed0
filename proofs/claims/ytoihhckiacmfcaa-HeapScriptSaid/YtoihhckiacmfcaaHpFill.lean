/- heap: the keys that came in; 'filled'. -/
import Derived.Test.YtoihhckiacmfcaaHpI8
namespace Go.Proofs.Ytoihhckiacmfcaa
open Go.RowKit

/-- a slice of integers that came in -/
structure Ints (w : World) (a : Option Addr) (n : Nat) (z : Nat → Int) : Prop where
  cell : ∀ i, i < n → ∃ x, a = some x ∧ x.block < w.heap.size ∧ w.cell? (x.add i) = some (.int .i64 (z i))
  wf : ∀ i, i < n → -9223372036854775808 ≤ z i ∧ z i ≤ 9223372036854775807
theorem blk_add (a : Addr) (n : Nat) : (a.add n).block = a.block := by unfold Addr.add; split <;> rfl
theorem Ints.bel {w w' : World} {a : Option Addr} {n : Nat} {z : Nat → Int} (h : Ints w a n z) (hb : Below w.heap.size w w') : Ints w' a n z :=
  ⟨fun i hi => by
    obtain ⟨x, e, hx, hc⟩ := h.cell i hi
    exact ⟨x, e, Nat.lt_of_lt_of_le hx hb.size, (hb.cell (p := x.add i) (by rw [blk_add]; exact hx)).trans hc⟩, h.wf⟩

/-- the things with these keys, whose values are their numbers -/
def things (z : Nat → Int) (n : Nat) : List Th := (List.range n).map fun j => ⟨z j, j, fun _ => .int .i64 (j : Int)⟩
theorem things_succ (z : Nat → Int) (n : Nat) : things z (n + 1) = things z n ++ [⟨z n, n, fun _ => .int .i64 (n : Int)⟩] := by simp [things, List.range_succ]
theorem things_len (z : Nat → Int) (n : Nat) : (things z n).length = n := by simp [things]

set_option maxRecDepth 20000 in
set_option maxHeartbeats 1600000 in
theorem filled_any (w : World) (a : Option Addr) (n cap : Nat) (z : Nat → Int) (h : Ints w a n z) (hn : n ≤ 1000) :
    Calls Try.prog 8 #[.slice a n cap] w fun e w' => ∃ p, e = .returned (.pointer (some ⟨p, 0, none⟩)) ∧ ∃ v M xs, HStI w' p v M xs n ∧ xs.Perm (things z n) ∧ (∀ i, HS p v M i → w.heap.size ≤ i) ∧ Below w.heap.size w w' := by
  have HI := Lib.hid h
  clear h
  go_enter Try.func8, Try.ntmps8
  go_wp2_with fail
  refine (newI w).mono ?_
  rintro e w1 ⟨p, M, rfl, h0, hp, hM, hb⟩
  have H0 := Lib.hid h0
  have HB := Lib.hid hb
  have HL : Hid (∀ i, HS p (.slice none 0 0) M i → w.heap.size ≤ i) := Lib.hid (by
    rintro i (h1 | h1 | h1)
    · omega
    · omega
    · simp [Value.ownBlock] at h1)
  clear h0 hb hp hM
  go_wp2_with fail
  go_loopw [4] (fun i wr => ∃ (k : Nat) (v : Value) (xs : List Th), k ≤ n ∧ i = .int .i64 (k : Int) ∧ Hid (HStI wr p v M xs k) ∧ Hid (xs.Perm (things z k)) ∧ Hid (∀ i, HS p v M i → w.heap.size ≤ i) ∧ Hid (Below w.heap.size w wr)) (fun i _ => n - (intOf i).toNat)
  case atStart => exact ⟨0, _, [], by omega, rfl, H0, Lib.hid (by simp [things]), HL, HB⟩
  case round =>
    obtain ⟨k, v, xs, hk, rfl, hH, hP, hL, hB⟩ := hrel
    by_cases hlt : k < n
    · have hlt1 : (k : Int) < (n : Int) := by omega
      obtain ⟨x, rfl, hxb, hc⟩ := (HI.out.bel hB.out).cell k hlt
      clear hxb
      go_wp2_with fail
      refine (pushI wr p v M xs k hH.out (z k) k (by omega)).mono ?_
      rintro e w2 ⟨rfl, zs, v2, p2, h2, n2, t2⟩
      have H2 := Lib.hid h2
      have HB2 := Lib.hid (hB.out.trans (t2.below hB.out.size (fun i _ hs => hL.out i hs)))
      have HL2 := Lib.hid (HS.lo hL.out n2 hB.out.size)
      have HP2 : Hid (zs.Perm (things z (k + 1))) := Lib.hid (by rw [things_succ]; exact p2.trans (hP.out.append_right _))
      clear h2 p2 n2 t2
      go_wp2_with fail
      go_roundw
      case measure => simp only [intOf]; omega
      case rel => exact ⟨k + 1, v2, zs, by omega, by go_num, H2, HP2, HL2, HB2⟩
    · have hlt1 : ¬ (k : Int) < (n : Int) := by omega
      go_wp2_with fail
      go_ret
      obtain rfl : k = n := by omega
      exact ⟨p, rfl, v, M, xs, hH.out, hP.out, hL.out, hB.out⟩
end Go.Proofs.Ytoihhckiacmfcaa
