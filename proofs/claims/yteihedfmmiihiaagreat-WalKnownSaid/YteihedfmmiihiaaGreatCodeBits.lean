/- Plain laws on the model's numbers: what shifts, ors and xors give. -/
import Derived.Test.YteihedfmmiihiaaGreatCodeSpec
import Derived.WalkKit
namespace Go.Proofs.YteihedfmmiihiaaGreat
open Go.RowKit

theorem wrap_u64' (n : Int) : IntKind.u64.wrap n = n % 18446744073709551616 := by simp [IntKind.wrap, IntKind.bits, IntKind.signed]
theorem wrap_i64' (n : Int) (h1 : -9223372036854775808 ≤ n) (h2 : n ≤ 9223372036854775807) : IntKind.i64.wrap n = n := by
  rw [IntKind.wrap_i64]; omega
theorem xor_zero_u64 (a : Nat) (h : a < 18446744073709551616) : bits .xor .u64 (a : Int) 0 = (a : Int) := by
  have := u64_xor_nat a 0 h (by omega)
  simpa using this
theorem xor_ones_u64 (a : Nat) (h : a < 18446744073709551616) : bits .xor .u64 (a : Int) 18446744073709551615 = ((18446744073709551615 - a : Nat) : Int) := by
  have h1 := u64_xor_nat a 18446744073709551615 h (by omega)
  have e : a ^^^ 18446744073709551615 = 18446744073709551615 - a := by
    have hb : ((BitVec.ofNat 64 a) ^^^ (BitVec.allOnes 64)).toNat = (~~~ (BitVec.ofNat 64 a)).toNat := by rw [BitVec.xor_allOnes]
    rw [BitVec.toNat_xor, BitVec.toNat_not, BitVec.toNat_ofNat, BitVec.toNat_allOnes] at hb
    have e1 : a % 2 ^ 64 = a := Nat.mod_eq_of_lt (by omega)
    rw [e1] at hb
    have e2 : (2 : Nat) ^ 64 - 1 = 18446744073709551615 := by decide
    rw [e2] at hb
    exact hb
  rw [e] at h1
  exact h1
theorem zig_bits (i : Int) (h1 : -9223372036854775808 ≤ i) (h2 : i ≤ 9223372036854775807) :
    bits .xor .u64 (IntKind.u64.wrap (IntKind.u64.wrap i * 2)) (IntKind.u64.wrap (i / 9223372036854775808)) = (Cd.zig i : Int) := by
  simp only [wrap_u64']
  by_cases h0 : 0 ≤ i
  · have e1 : i / 9223372036854775808 % 18446744073709551616 = 0 := by omega
    obtain ⟨a, rfl⟩ := Int.eq_ofNat_of_zero_le h0
    have e2 : (a : Int) % 18446744073709551616 * 2 % 18446744073709551616 = ((2 * a : Nat) : Int) := by omega
    rw [e1, e2, xor_zero_u64 _ (by omega)]
    simp only [Cd.zig, h0, if_true]; omega
  · have e1 : i / 9223372036854775808 % 18446744073709551616 = 18446744073709551615 := by omega
    obtain ⟨a, rfl⟩ : ∃ a : Nat, i = -(a : Int) - 1 := ⟨(-i - 1).toNat, by omega⟩
    have e2 : (-(a : Int) - 1) % 18446744073709551616 * 2 % 18446744073709551616 = ((18446744073709551616 - 2 * a - 2 : Nat) : Int) := by omega
    rw [e1, e2, xor_ones_u64 _ (by omega)]
    simp only [Cd.zig, h0, if_false]; omega

theorem and127 : ∀ a, a < 256 → a &&& 127 = a % 128 := by decide +kernel
theorem pow7_le (k : Nat) (hk : k ≤ 8) : 2 ^ (7 * k) ≤ 72057594037927936 := by
  have h := Nat.pow_le_pow_right (n := 2) (by omega) (show 7 * k ≤ 56 by omega)
  have e : (2 : Nat) ^ 56 = 72057594037927936 := by decide
  omega
theorem step_lt (m c k : Nat) (hm : m < 2 ^ (7 * k)) : m + c % 128 * 2 ^ (7 * k) < 2 ^ (7 * (k + 1)) := by
  have e : 2 ^ (7 * (k + 1)) = 128 * 2 ^ (7 * k) := by rw [show 7 * (k + 1) = 7 + 7 * k from by omega, Nat.pow_add]
  rw [e]
  have h1 : c % 128 ≤ 127 := by omega
  have h2 : c % 128 * 2 ^ (7 * k) ≤ 127 * 2 ^ (7 * k) := Nat.mul_le_mul_right _ h1
  omega
theorem or_shift (m c k : Nat) (hm : m < 2 ^ (7 * k)) (hc : c < 256) (hk : k ≤ 9) (h9 : k = 9 → c = 1) :
    bits .or .u64 (m : Int) (IntKind.u64.wrap (IntKind.u64.wrap (bits .and .u8 (c : Int) 127) * 2 ^ (7 * k))) = ((m + c % 128 * 2 ^ (7 * k) : Nat) : Int) := by
  have h1 := u8_and_nat c 127 hc (by omega)
  rw [and127 c hc] at h1
  have hlt : m + c % 128 * 2 ^ (7 * k) < 18446744073709551616 := by
    by_cases h : k ≤ 8
    · have h2 := pow7_le k h
      have h3 : c % 128 * 2 ^ (7 * k) ≤ 127 * 2 ^ (7 * k) := Nat.mul_le_mul_right _ (by omega)
      omega
    · have e9 : k = 9 := by omega
      have ec := h9 e9
      subst e9
      subst ec
      have e : (2 : Nat) ^ (7 * 9) = 9223372036854775808 := by decide
      rw [e] at hm ⊢
      omega
  rw [show (127 : Int) = ((127 : Nat) : Int) from rfl, h1, wrap_u64', wrap_u64']
  have e1 : ((c % 128 : Nat) : Int) % 18446744073709551616 = ((c % 128 : Nat) : Int) := by omega
  rw [e1]
  have e2 : ((c % 128 : Nat) : Int) * 2 ^ (7 * k) = ((c % 128 * 2 ^ (7 * k) : Nat) : Int) := by
    rw [Int.natCast_mul, Int.natCast_pow]; rfl
  rw [e2]
  have e3 : ((c % 128 * 2 ^ (7 * k) : Nat) : Int) % 18446744073709551616 = ((c % 128 * 2 ^ (7 * k) : Nat) : Int) := by omega
  rw [e3, u64_or_nat m _ (by omega) (by omega)]
  have e4 : m ||| c % 128 * 2 ^ (7 * k) = m + c % 128 * 2 ^ (7 * k) := by
    rw [Nat.mul_comm, Nat.add_comm, Nat.or_comm]
    exact (Nat.two_pow_add_eq_or_of_lt hm _).symm
  rw [e4]

theorem i64_xor_m1 (a : Nat) (ha : a < 9223372036854775808) : bits .xor .i64 (a : Int) (-1) = -(a : Int) - 1 := by
  show IntKind.i64.wrap ((BitVec.ofInt 64 (a : Int) ^^^ BitVec.ofInt 64 (-1)).toNat : Int) = _
  have h1 : BitVec.ofInt 64 (-1) = BitVec.allOnes 64 := by decide
  rw [h1, BitVec.xor_allOnes, BitVec.toNat_not, ofInt_u64 a (by omega)]
  simp [IntKind.wrap, IntKind.bits, IntKind.signed]
  omega
theorem i64_xor_0 (a : Nat) (ha : a < 9223372036854775808) : bits .xor .i64 (a : Int) 0 = (a : Int) := by
  show IntKind.i64.wrap ((BitVec.ofInt 64 (a : Int) ^^^ BitVec.ofInt 64 0).toNat : Int) = _
  have h1 : BitVec.ofInt 64 0 = 0#64 := by decide
  rw [h1, BitVec.xor_zero, ofInt_u64 a (by omega)]
  simp [IntKind.wrap, IntKind.bits, IntKind.signed]
  omega
theorem and1_u64 (n : Nat) (h : n < 18446744073709551616) : bits .and .u64 (n : Int) 1 = ((n % 2 : Nat) : Int) := by
  have h1 := u64_and_nat n 1 h (by omega)
  rw [Nat.and_one_is_mod] at h1
  exact h1
theorem unzig_bits (n : Nat) (h : n < 18446744073709551616) :
    bits .xor .i64 (IntKind.i64.wrap ((n : Int) / 2)) (IntKind.i64.wrap (-(IntKind.i64.wrap (bits .and .u64 (n : Int) 1)))) = Cd.unzig n := by
  rw [and1_u64 n h]
  have e1 : IntKind.i64.wrap ((n : Int) / 2) = ((n / 2 : Nat) : Int) := by rw [wrap_i64' _ (by omega) (by omega)]; omega
  have e2 : IntKind.i64.wrap ((n % 2 : Nat) : Int) = ((n % 2 : Nat) : Int) := wrap_i64' _ (by omega) (by omega)
  rw [e1, e2, wrap_i64' _ (by omega) (by omega)]
  unfold Cd.unzig
  by_cases h2 : n % 2 = 0
  · rw [h2, if_pos rfl]
    exact i64_xor_0 _ (by omega)
  · have h3 : n % 2 = 1 := by omega
    rw [h3, if_neg (by omega)]
    exact i64_xor_m1 _ (by omega)
end Go.Proofs.YteihedfmmiihiaaGreat
