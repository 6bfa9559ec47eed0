/- code.appendNum: the bytes of a complex number. -/
import Derived.Test.YticipdjfkpakpaaNodeCheck
import Derived.Test.YticipdjfkpakpaaCodePuts
namespace Go.Proofs.Yticipdjfkpakpaa
open Go.RowKit
attribute [local go_sem] run_store_cx'

/-- the eight bytes of a float, the greatest first -/
def be8To (n k : Nat) : List UInt8 := (List.range k).map fun k => UInt8.ofNat (n / 2 ^ (56 - 8 * k) % 256)
def be8 (n : Nat) : List UInt8 := be8To n 8
theorem be8To_succ (n k : Nat) : be8To n (k + 1) = be8To n k ++ [UInt8.ofNat (n / 2 ^ (56 - 8 * k) % 256)] := by simp [be8To, List.range_succ]
theorem be8To_length (n k : Nat) : (be8To n k).length = k := by simp [be8To]
theorem be8_length (n : Nat) : (be8 n).length = 8 := be8To_length n 8
def numB (p q : Nat) : List UInt8 := be8 p ++ be8 q
theorem num_step {w1 : World} {base n q k : Nat} {v : Value} {xs : List Value} (h : w1.ownsRow base 5 1 v (n + k + 1) ((xs ++ Cd.bytesV (be8To q k)) ++ [.int .u8 ((q : Int) / 2 ^ (56 - 8 * k) % 256)])) :
    w1.ownsRow base 5 1 v (n + (k + 1)) (xs ++ Cd.bytesV (be8To q (k + 1))) := by
  rw [be8To_succ, Cd.bytesV_append, ← List.append_assoc]
  have e : ((q : Int) / 2 ^ (56 - 8 * k) % 256) = ((q / 2 ^ (56 - 8 * k) % 256 : Nat) : Int) := by simp
  rw [e] at h
  have e2 : Cd.bytesV [UInt8.ofNat (q / 2 ^ (56 - 8 * k) % 256)] = [Value.int .u8 ((q / 2 ^ (56 - 8 * k) % 256 : Nat) : Int)] := by
    simp only [Cd.bytesV, List.map_cons, List.map_nil, Cd.byteV]
    rw [u8lit _ (Nat.mod_lt _ (by omega))]
  rw [e2]; exact h

set_option maxRecDepth 20000 in
set_option maxHeartbeats 1600000 in
theorem appendNum_any (w : World) (base : Nat) (v : Value) (n : Nat) (xs : List Value) (p q : Nat) (hp : p < 18446744073709551616) (hq : q < 18446744073709551616) (hown : w.ownsRow base 5 1 v n xs)
    (hb : base ≤ w.heap.size) (hn : n + 16 ≤ 140737488355328) :
    Calls Try.prog 57 #[v, .complex .f64 p q] w (ApdB w base n xs (numB p q)) := by
  obtain ⟨i0, hi, hz0, hz1, hz2⟩ := info_parts info_u8
  have bi := fun (x : Nat) w => bits_in (x := x) w
  have j0 : ∀ w, (Instr.index 122 (.agg #[.float .f64 p, .float .f64 q]) (.int .i64 0)).run Try.prog w = .ok (.float .f64 p) w := fun _ => by kernel_rfl
  have j1 : ∀ w, (Instr.index 122 (.agg #[.float .f64 p, .float .f64 q]) (.int .i64 1)).run Try.prog w = .ok (.float .f64 q) w := fun _ => by kernel_rfl
  have P1 := Lib.hid hp
  have P2 := Lib.hid hq
  have HN := Lib.hid hn
  clear hp hq hn
  go_enter Try.func57, Try.ntmps57
  go_wp2_with fail
  refine wp_loop_rounds 3 ?_
  rw [rounds_succ]
  go_wp2_with fail
  go_loopw [0, 8] (fun b i wr => ∃ (k : Nat), k ≤ 8 ∧ i = .int .i64 (56 - 8 * (k : Int)) ∧ wr.ownsRow base 5 1 b (n + k) (xs ++ Cd.bytesV (be8To p k)) ∧ Below base w wr) (fun _ i _ => (intOf i + 8).toNat)
  case atStart => exact ⟨0, by omega, rfl, by simpa [be8To, Cd.bytesV] using hown, Below.refl _ _⟩
  case round =>
    obtain ⟨k, hk, rfl, ho, hB⟩ := hrel
    have B3 : Hid (∀ o : Obj, base ≤ (wr.alloc o).heap.size) := by have := hB.size; unfold Hid; simp; omega
    by_cases hlt : k < 8
    · have B1 : Hid (n + k + 1 ≤ maxLen) := by have := HN.out; unfold Hid maxLen; omega
      have B2 : Hid ((n + k + 1) * 1 ≤ 140737488355328) := by have := HN.out; unfold Hid; omega
      have h0 : (0 : Int) ≤ 56 - 8 * (k : Int) := by omega
      have h1 : 56 - 8 * (k : Int) ≤ 56 := by omega
      have h2 : 8 * (k : Int) ≤ 56 := by omega
      go_wp2_with (at_builtin; refine wpList_append_own_at _ rfl _ _ 22 rfl base 5 i0 (.int .u8 0) 1 1 Try.underlying22 hi hz0 hz1 hz2 rfl (by decide) _ _ _ rfl (ho.alloc _) ⟨wr.heap.size, 0, none⟩ 1 1 [.int .u8 ((p : Int) / 2 ^ (56 - 8 * k) % 256)] rfl rfl (cell_one_new _ _ _) (by simp [Value.oneCell']) B1.out B2.out (B3.out _) ?_; intro v1 w1 hown1 hg1 _ hat1)
      go_roundw
      case rel => exact ⟨k + 1, by omega, by go_num, num_step hown1, (hB.alloc (Nat.le_trans hb hB.size) _).trans (below_grown (ho.alloc _) (B3.out _) hg1)⟩
      case measure => simp [intOf]; omega
    · obtain rfl : k = 8 := by omega
      clear hk hlt
      go_wp2_with fail
      rw [rounds_succ]
      go_wp2_with fail
      go_loopw [0, 8] (fun b i wr => ∃ (k : Nat), k ≤ 8 ∧ i = .int .i64 (56 - 8 * (k : Int)) ∧ wr.ownsRow base 5 1 b ((n + 8) + k) ((xs ++ Cd.bytesV (be8To p 8)) ++ Cd.bytesV (be8To q k)) ∧ Below base w wr) (fun _ i _ => (intOf i + 8).toNat)
      case atStart => exact ⟨0, by omega, rfl, by simpa [be8To, Cd.bytesV] using ho, hB⟩
      case round =>
        obtain ⟨k, hk, rfl, ho, hB⟩ := hrel
        have B3 : Hid (∀ o : Obj, base ≤ (wr.alloc o).heap.size) := by have := hB.size; unfold Hid; simp; omega
        by_cases hlt : k < 8
        · have B1 : Hid ((n + 8) + k + 1 ≤ maxLen) := by have := HN.out; unfold Hid maxLen; omega
          have B2 : Hid (((n + 8) + k + 1) * 1 ≤ 140737488355328) := by have := HN.out; unfold Hid; omega
          have h0 : (0 : Int) ≤ 56 - 8 * (k : Int) := by omega
          have h1 : 56 - 8 * (k : Int) ≤ 56 := by omega
          have h2 : 8 * (k : Int) ≤ 56 := by omega
          go_wp2_with (at_builtin; refine wpList_append_own_at _ rfl _ _ 22 rfl base 5 i0 (.int .u8 0) 1 1 Try.underlying22 hi hz0 hz1 hz2 rfl (by decide) _ _ _ rfl (ho.alloc _) ⟨wr.heap.size, 0, none⟩ 1 1 [.int .u8 ((q : Int) / 2 ^ (56 - 8 * k) % 256)] rfl rfl (cell_one_new _ _ _) (by simp [Value.oneCell']) B1.out B2.out (B3.out _) ?_; intro v1 w1 hown1 hg1 _ hat1)
          go_roundw
          case rel => exact ⟨k + 1, by omega, by go_num, num_step hown1, (hB.alloc (Nat.le_trans hb hB.size) _).trans (below_grown (ho.alloc _) (B3.out _) hg1)⟩
          case measure => simp [intOf]; omega
        · obtain rfl : k = 8 := by omega
          clear hk hlt
          go_wp2_with fail
          rw [rounds_succ]
          go_wp2_with fail
          go_ret
          refine ⟨_, rfl, ?_, hB⟩
          have e1 : n + (numB p q).length = n + 8 + 8 := by simp [numB, be8_length]
          have e2 : xs ++ Cd.bytesV (numB p q) = (xs ++ Cd.bytesV (be8To p 8)) ++ Cd.bytesV (be8To q 8) := by rw [List.append_assoc, ← Cd.bytesV_append]; rfl
          rw [e1, e2]; exact ho
end Go.Proofs.Yticipdjfkpakpaa
