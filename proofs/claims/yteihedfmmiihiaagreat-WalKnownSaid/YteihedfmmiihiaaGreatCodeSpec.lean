/- Plain words on bytes: the bytes of numbers (base 128, low digits first), of whole numbers, of texts. No program in sight. -/
import Derived.Below
namespace Go.Proofs.YteihedfmmiihiaaGreat.Cd

/-- the bytes of a number -/
def uB (n : Nat) : List UInt8 := if n < 128 then [UInt8.ofNat n] else UInt8.ofNat (n % 128 + 128) :: uB (n / 128)
termination_by n
decreasing_by omega

theorem uB_lt {n : Nat} (h : n < 128) : uB n = [UInt8.ofNat n] := by rw [uB]; simp [h]
theorem uB_ge {n : Nat} (h : ¬ n < 128) : uB n = UInt8.ofNat (n % 128 + 128) :: uB (n / 128) := by rw [uB]; simp [h]

theorem uB_pos (n : Nat) : 0 < (uB n).length := by
  by_cases h : n < 128
  · rw [uB_lt h]; simp
  · rw [uB_ge h]; simp

/-- a number below 128^k has at most k bytes -/
theorem uB_len (k : Nat) : ∀ n, n < 128 ^ (k + 1) → (uB n).length ≤ k + 1 := by
  induction k with
  | zero => intro n h; rw [uB_lt (by simpa using h)]; simp
  | succ k ih =>
    intro n h
    by_cases h1 : n < 128
    · rw [uB_lt h1]; simp
    · rw [uB_ge h1]
      have : n / 128 < 128 ^ (k + 1) := by
        rw [Nat.div_lt_iff_lt_mul (by omega)]
        rw [Nat.pow_succ] at h; exact h
      have := ih _ this
      simp; omega
theorem uB_len10 {n : Nat} (h : n < 18446744073709551616) : (uB n).length ≤ 10 := uB_len 9 n (by omega)

/-- a whole number as one from 0 on -/
def zig (i : Int) : Nat := if 0 ≤ i then (2 * i).toNat else (2 * (-(i + 1)) + 1).toNat
def textB (l : List UInt8) : List UInt8 := uB l.length ++ l

def byteV (c : UInt8) : Value := .int .u8 c.toNat
def bytesV (l : List UInt8) : List Value := l.map byteV
theorem bytesV_length (l : List UInt8) : (bytesV l).length = l.length := by simp [bytesV]
theorem bytesV_append (a b : List UInt8) : bytesV (a ++ b) = bytesV a ++ bytesV b := by simp [bytesV]
end Go.Proofs.YteihedfmmiihiaaGreat.Cd
namespace Go.Proofs.YteihedfmmiihiaaGreat.Cd
/-- what bytes say as a number, from a place on: the number and the place behind it; or what is wrong, and where -/
def rdU (l : List UInt8) : Nat → Nat → Nat → Nat → Except (Nat × Nat) (Nat × Nat)
  | 0, a, _, _ => .error (a, 3)
  | f + 1, a, i, n =>
    if h : a < l.length then
      if (l[a].toNat = 0 ∧ 0 < i) ∨ (i = 9 ∧ l[a].toNat ≠ 1) then .error (a, 3)
      else if l[a].toNat < 128 then .ok (n + l[a].toNat % 128 * 2 ^ (7 * i), a + 1)
      else rdU l f (a + 1) (i + 1) (n + l[a].toNat % 128 * 2 ^ (7 * i))
    else .error (l.length, 4)
def rdUint (l : List UInt8) (a : Nat) : Except (Nat × Nat) (Nat × Nat) := rdU l 10 a 0 0
theorem rdU_short {l : List UInt8} {f a i n : Nat} (h : ¬ a < l.length) : rdU l (f + 1) a i n = .error (l.length, 4) := by simp [rdU, h]
theorem rdU_bad {l : List UInt8} {f a i n : Nat} (h : a < l.length) (hb : (l[a].toNat = 0 ∧ 0 < i) ∨ (i = 9 ∧ l[a].toNat ≠ 1)) : rdU l (f + 1) a i n = .error (a, 3) := by
  simp only [rdU, h, dif_pos, hb, if_true]
theorem rdU_end {l : List UInt8} {f a i n : Nat} (h : a < l.length) (hb : ¬ ((l[a].toNat = 0 ∧ 0 < i) ∨ (i = 9 ∧ l[a].toNat ≠ 1))) (hc : l[a].toNat < 128) :
    rdU l (f + 1) a i n = .ok (n + l[a].toNat % 128 * 2 ^ (7 * i), a + 1) := by
  simp only [rdU, h, dif_pos, hb, if_false, hc, if_true]
theorem rdU_more {l : List UInt8} {f a i n : Nat} (h : a < l.length) (hb : ¬ ((l[a].toNat = 0 ∧ 0 < i) ∨ (i = 9 ∧ l[a].toNat ≠ 1))) (hc : ¬ l[a].toNat < 128) :
    rdU l (f + 1) a i n = rdU l f (a + 1) (i + 1) (n + l[a].toNat % 128 * 2 ^ (7 * i)) := by
  simp only [rdU, h, dif_pos, hb, if_false, hc]
theorem rdU_lt {l : List UInt8} : ∀ (f a i n : Nat) (x to : Nat), i + f = 10 → n < 2 ^ (7 * i) → rdU l f a i n = .ok (x, to) → x < 18446744073709551616 ∧ a < to ∧ to ≤ l.length := by
  intro f
  induction f with
  | zero => intro a i n x to _ _ h; simp [rdU] at h
  | succ f ih =>
    intro a i n x to hi hn h
    by_cases ha : a < l.length
    · by_cases hb : (l[a].toNat = 0 ∧ 0 < i) ∨ (i = 9 ∧ l[a].toNat ≠ 1)
      · rw [rdU_bad ha hb] at h; cases h
      · by_cases hc : l[a].toNat < 128
        · rw [rdU_end ha hb hc] at h
          injection h with h
          injection h with h1 h2
          subst h1 h2
          refine ⟨?_, by omega, by omega⟩
          by_cases h9 : i = 9
          · subst h9
            have : l[a].toNat = 1 := by omega
            rw [this]
            have e : (2 : Nat) ^ (7 * 9) = 9223372036854775808 := by decide
            rw [e] at hn ⊢
            omega
          · have hle := Nat.pow_le_pow_right (n := 2) (by omega) (show 7 * i ≤ 56 by omega)
            have e : (2 : Nat) ^ 56 = 72057594037927936 := by decide
            have h3 : l[a].toNat % 128 * 2 ^ (7 * i) ≤ 127 * 2 ^ (7 * i) := Nat.mul_le_mul_right _ (by omega)
            omega
        · rw [rdU_more ha hb hc] at h
          have hlt : n + l[a].toNat % 128 * 2 ^ (7 * i) < 2 ^ (7 * (i + 1)) := by
            have e : 2 ^ (7 * (i + 1)) = 128 * 2 ^ (7 * i) := by rw [show 7 * (i + 1) = 7 + 7 * i from by omega, Nat.pow_add]
            rw [e]
            have h2 : l[a].toNat % 128 * 2 ^ (7 * i) ≤ 127 * 2 ^ (7 * i) := Nat.mul_le_mul_right _ (by omega)
            omega
          have := ih (a + 1) (i + 1) _ x to (by omega) hlt h
          omega
    · rw [rdU_short ha] at h; cases h
theorem rdUint_lt {l : List UInt8} {a x to : Nat} (h : rdUint l a = .ok (x, to)) : x < 18446744073709551616 ∧ a < to ∧ to ≤ l.length := rdU_lt 10 a 0 0 x to (by omega) (by decide) h

/-- a number from 0 on as a whole number -/
def unzig (n : Nat) : Int := if n % 2 = 0 then (n / 2 : Nat) else -((n / 2 : Nat) : Int) - 1
def rdInt (l : List UInt8) (a : Nat) : Except (Nat × Nat) (Int × Nat) :=
  match rdUint l a with
  | .ok (n, to) => .ok (unzig n, to)
  | .error e => .error e
/-- so many bytes -/
def rdBytes (l : List UInt8) (n a : Nat) : Except (Nat × Nat) (List UInt8 × Nat) :=
  if n ≤ l.length - a then .ok ((l.drop a).take n, a + n) else .error (l.length, 4)
def rdText (l : List UInt8) (a : Nat) : Except (Nat × Nat) (List UInt8 × Nat) :=
  match rdUint l a with
  | .ok (n, to) => rdBytes l n to
  | .error e => .error e
end Go.Proofs.YteihedfmmiihiaaGreat.Cd
