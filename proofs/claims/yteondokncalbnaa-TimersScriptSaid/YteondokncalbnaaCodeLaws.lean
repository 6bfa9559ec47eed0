/- Plain laws of chapter 5: no number's bytes are the beginning of another's; what was written is read. -/
import Derived.Test.YteondokncalbnaaCodeSpec
namespace Go.Proofs.Yteondokncalbnaa.Cd

theorem toNat_lit (n : Nat) (h : n < 256) : (UInt8.ofNat n).toNat = n := by rw [UInt8.toNat_ofNat']; omega
theorem zero_pos_pow (i n : Nat) (h : n < 2 ^ (64 - 7 * i)) (hi : i = 9) : n < 2 := by subst hi; simpa using h
theorem div_pow (i n : Nat) (hi : i ≤ 8) (h : n < 2 ^ (64 - 7 * i)) : n / 128 < 2 ^ (64 - 7 * (i + 1)) := by
  rw [Nat.div_lt_iff_lt_mul (by omega)]
  have e : 2 ^ (64 - 7 * (i + 1)) * 128 = 2 ^ (64 - 7 * i) := by
    rw [show 64 - 7 * i = (64 - 7 * (i + 1)) + 7 from by omega, Nat.pow_add]
  rw [e]; exact h

theorem rd_wrote : ∀ (f i acc n : Nat) (pre rest : List UInt8), i + f = 10 → 0 < f → n < 2 ^ (64 - 7 * i) → (0 < i → 0 < n) →
    rdU (pre ++ (uB n ++ rest)) f pre.length i acc = .ok (acc + n * 2 ^ (7 * i), pre.length + (uB n).length) := by
  intro f
  induction f with
  | zero => intro i acc n pre rest _ h; omega
  | succ f ih =>
    intro i acc n pre rest hf _ hn hp
    by_cases h : n < 128
    · rw [uB_lt h]
      have ha : pre.length < (pre ++ ([UInt8.ofNat n] ++ rest)).length := by simp
      have hg : (pre ++ ([UInt8.ofNat n] ++ rest))[pre.length].toNat = n := by
        simp; omega
      have hb : ¬ (((pre ++ ([UInt8.ofNat n] ++ rest))[pre.length].toNat = 0 ∧ 0 < i) ∨ (i = 9 ∧ (pre ++ ([UInt8.ofNat n] ++ rest))[pre.length].toNat ≠ 1)) := by
        rw [hg]
        intro hx
        rcases hx with ⟨h0, hi⟩ | ⟨h9, h1⟩
        · have := hp hi; omega
        · have := zero_pos_pow i n hn h9; have := hp (by omega); omega
      rw [rdU_end ha hb (by rw [hg]; exact h), hg, Nat.mod_eq_of_lt h]
      simp
    · rw [uB_ge h]
      have ha : pre.length < (pre ++ ((UInt8.ofNat (n % 128 + 128) :: uB (n / 128)) ++ rest)).length := by simp
      have hg : (pre ++ ((UInt8.ofNat (n % 128 + 128) :: uB (n / 128)) ++ rest))[pre.length].toNat = n % 128 + 128 := by
        simp; omega
      have hi8 : i ≤ 8 := by
        rcases Nat.lt_or_ge i 9 with h9 | h9
        · omega
        · have := zero_pos_pow i n hn (by omega); omega
      have hb : ¬ (((pre ++ ((UInt8.ofNat (n % 128 + 128) :: uB (n / 128)) ++ rest))[pre.length].toNat = 0 ∧ 0 < i) ∨ (i = 9 ∧ (pre ++ ((UInt8.ofNat (n % 128 + 128) :: uB (n / 128)) ++ rest))[pre.length].toNat ≠ 1)) := by
        rw [hg]; omega
      rw [rdU_more ha hb (by rw [hg]; omega), hg]
      have e1 : pre ++ ((UInt8.ofNat (n % 128 + 128) :: uB (n / 128)) ++ rest) = (pre ++ [UInt8.ofNat (n % 128 + 128)]) ++ (uB (n / 128) ++ rest) := by simp
      have e2 : pre.length + 1 = (pre ++ [UInt8.ofNat (n % 128 + 128)]).length := by simp
      rw [e1, e2, ih (i + 1) _ (n / 128) _ rest (by omega) (by omega) (div_pow i n hi8 hn) (fun _ => by omega)]
      congr 1
      have e3 : (n % 128 + 128) % 128 = n % 128 := by omega
      rw [e3]
      have e4 : 2 ^ (7 * (i + 1)) = 128 * 2 ^ (7 * i) := by rw [show 7 * (i + 1) = 7 + 7 * i from by omega, Nat.pow_add]
      rw [e4]
      have e5 : n = n % 128 + 128 * (n / 128) := by omega
      refine Prod.ext ?_ ?_
      · show acc + n % 128 * 2 ^ (7 * i) + n / 128 * (128 * 2 ^ (7 * i)) = acc + n * 2 ^ (7 * i)
        conv => rhs; rw [e5]
        rw [Nat.add_mul, Nat.mul_assoc, Nat.mul_left_comm 128, ← Nat.add_assoc]
      · simp; omega

theorem rdUint_wrote (n : Nat) (hn : n < 18446744073709551616) (rest : List UInt8) : rdUint (uB n ++ rest) 0 = .ok (n, (uB n).length) := by
  have h := rd_wrote 10 0 0 n [] rest (by omega) (by omega) (by simpa using hn) (by omega)
  simpa [rdUint] using h

theorem unzig_zig (i : Int) : unzig (zig i) = i := by
  unfold unzig zig
  split <;> split <;> omega
theorem zig_inj {i k : Int} (h : zig i = zig k) : i = k := by rw [← unzig_zig i, h, unzig_zig]

theorem rdInt_wrote (i : Int) (hn : zig i < 18446744073709551616) (rest : List UInt8) : rdInt (uB (zig i) ++ rest) 0 = .ok (i, (uB (zig i)).length) := by
  rw [rdInt, rdUint_wrote _ hn]
  simp only [unzig_zig]
theorem rdText_wrote (l : List UInt8) (hn : l.length < 18446744073709551616) (rest : List UInt8) : rdText (textB l ++ rest) 0 = .ok (l, (textB l).length) := by
  rw [rdText, textB, List.append_assoc, rdUint_wrote _ hn]
  simp only [rdBytes]
  rw [if_pos (by simp)]
  simp

/-- do bytes begin with others? -/
theorem begins_uB {a b : Nat} (ha : a < 18446744073709551616) (hb : b < 18446744073709551616) : ((uB b).length ≤ (uB a).length ∧ (uB a).take (uB b).length = uB b) ↔ a = b := by
  constructor
  · rintro ⟨_, h⟩
    have e : uB a = uB b ++ (uB a).drop (uB b).length := by
      conv => lhs; rw [← List.take_append_drop (uB b).length (uB a)]
      rw [h]
    have h1 := rdUint_wrote a ha []
    rw [List.append_nil] at h1
    have h2 := rdUint_wrote b hb ((uB a).drop (uB b).length)
    rw [← e, h1] at h2
    injection h2 with h2
    injection h2
  · rintro rfl
    simp
theorem begins_textB {s t : List UInt8} (ha : s.length < 18446744073709551616) (hb : t.length < 18446744073709551616) : ((textB t).length ≤ (textB s).length ∧ (textB s).take (textB t).length = textB t) ↔ s = t := by
  constructor
  · rintro ⟨_, h⟩
    have e : textB s = textB t ++ (textB s).drop (textB t).length := by
      conv => lhs; rw [← List.take_append_drop (textB t).length (textB s)]
      rw [h]
    have h1 := rdText_wrote s ha []
    rw [List.append_nil] at h1
    have h2 := rdText_wrote t hb ((textB s).drop (textB t).length)
    rw [← e, h1] at h2
    injection h2 with h2
    injection h2
  · rintro rfl
    simp
theorem uB_mono : ∀ b a, a ≤ b → (uB a).length ≤ (uB b).length := by
  intro b
  induction b using Nat.strongRecOn with
  | ind b ih =>
    intro a hab
    by_cases ha : a < 128
    · rw [uB_lt ha]; have := uB_pos b; simp; omega
    · rw [uB_ge ha, uB_ge (show ¬ b < 128 by omega)]
      have := ih (b / 128) (by omega) (a / 128) (by omega)
      simp; omega
end Go.Proofs.Yteondokncalbnaa.Cd
