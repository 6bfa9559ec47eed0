/- Floats: which are finite, which are fine; what x - x == 0 and the comparisons with the greatest give. -/
import Derived.Test.YticipdjfkpakpaaRows
import Derived.WalkKit
import Derived.WalkLawsBesides
import Derived.Deep.Draws
import Derived.Deep.RegionWith
import Derived.Lib.Hide
namespace Go.Proofs.Yticipdjfkpakpaa
open Go.RowKit

def fin64 (x : Nat) : Bool := decide (x % 9223372036854775808 < 9218868437227405312)
def fine64 (x : Nat) : Bool := fin64 x && !(x == 9223372036854775808)

theorem read_fin {x : Nat} (h : fin64 x = true) : ∃ s m i, Ieee.double.read x = .number s m i ∧ m < 9007199254740992 ∧ -1074 ≤ i ∧ i ≤ 971 := by
  have h' := of_decide_eq_true h
  have e1 : Ieee.double.signWeight = 9223372036854775808 := by decide
  have e2 : Ieee.double.binade = 4503599627370496 := by decide
  have e3 : Ieee.double.infRung = 9218868437227405312 := by decide
  have e4 : Ieee.double.leastPlace = -1074 := by decide
  unfold Ieee.Format.read
  simp only [e1, e2, e3, e4]
  by_cases h1 : x % 9223372036854775808 < 4503599627370496
  · rw [if_pos h1]
    exact ⟨_, _, _, rfl, by omega, by omega, by omega⟩
  · rw [if_neg h1, if_pos h']
    exact ⟨_, _, _, rfl, by omega, by omega, by omega⟩
theorem read_inf {x : Nat} (h : fin64 x = false) : (∃ s, Ieee.double.read x = .infinity s) ∨ ∃ s f, Ieee.double.read x = .nan s f := by
  have h' := of_decide_eq_false h
  have e1 : Ieee.double.signWeight = 9223372036854775808 := by decide
  have e2 : Ieee.double.binade = 4503599627370496 := by decide
  have e3 : Ieee.double.infRung = 9218868437227405312 := by decide
  unfold Ieee.Format.read
  simp only [e1, e2, e3]
  rw [if_neg (by omega), if_neg h']
  split
  · exact .inl ⟨_, rfl⟩
  · exact .inr ⟨_, _, rfl⟩

theorem sub_self_fin {x : Nat} (h : fin64 x = true) : Ieee.double.sub x x = some 0 := by
  obtain ⟨s, m, i, e, _⟩ := read_fin h
  unfold Ieee.Format.sub
  rw [e]
  simp only [Ieee.Datum.opposite, Ieee.Datum.sum]
  have e0 : Ieee.signed s m (i - min i i).toNat + Ieee.signed (!s) m (i - min i i).toNat = 0 := by
    unfold Ieee.signed
    cases s <;> simp <;> omega
  rw [e0]
  cases s <;> simp [Ieee.Format.write, Ieee.Format.nearest, Ieee.Format.word]
theorem sub_self_inf {x : Nat} (h : fin64 x = false) : Ieee.double.sub x x = none := by
  unfold Ieee.Format.sub
  rcases read_inf h with ⟨s, e⟩ | ⟨s, f, e⟩
  · rw [e]; cases s <;> rfl
  · rw [e]; rfl
theorem order_zero : Ieee.double.order 0 0 = some .eq := by decide
theorem order_nan_left {x y : Nat} {s : Bool} {f : Nat} (h : Ieee.double.read x = .nan s f) : Ieee.double.order x y = none := by
  unfold Ieee.Format.order; rw [h]; rfl

/-- the bits of a NaN that the model draws -/
theorem read_drawn (t : Nat) (x y z : Nat) : Ieee.double.order ((Question.nanBits .f64 x y).cut t) z = none := by
  have hc : (Question.nanBits .f64 x y).cut t = (t % 2) * 2 ^ 63 + 0x7ff0000000000000 + 1 + (t / 2) % (2 ^ 52 - 1) := rfl
  have e1 : Ieee.double.signWeight = 9223372036854775808 := by decide
  have e2 : Ieee.double.binade = 4503599627370496 := by decide
  have e3 : Ieee.double.infRung = 9218868437227405312 := by decide
  have hr : ∃ s f, Ieee.double.read ((Question.nanBits .f64 x y).cut t) = .nan s f := by
    rw [hc]
    unfold Ieee.Format.read
    simp only [e1, e2, e3]
    have h1 : t % 2 < 2 := Nat.mod_lt _ (by omega)
    have h2 : (t / 2) % (2 ^ 52 - 1) < 2 ^ 52 - 1 := Nat.mod_lt _ (by decide)
    generalize t % 2 = a at h1 ⊢
    generalize (t / 2) % (2 ^ 52 - 1) = b at h2 ⊢
    have e : (a * 2 ^ 63 + 0x7ff0000000000000 + 1 + b) % 9223372036854775808 = 9218868437227405313 + b := by omega
    rw [e, if_neg (by omega), if_neg (by omega), if_neg (by omega)]
    exact ⟨_, _, rfl⟩
  obtain ⟨s, f, h⟩ := hr
  exact order_nan_left h

theorem order_zero_iff {x : Nat} (h : fin64 x = true) : (Ieee.double.order x 0 == some .eq) = (x % 9223372036854775808 == 0) := by
  have h' := of_decide_eq_true h
  have e1 : Ieee.double.signWeight = 9223372036854775808 := by decide
  have e2 : Ieee.double.binade = 4503599627370496 := by decide
  have e3 : Ieee.double.infRung = 9218868437227405312 := by decide
  have e4 : Ieee.double.leastPlace = -1074 := by decide
  have z : Ieee.double.read 0 = .number false 0 (-1074) := by decide
  have key : ∀ (s : Bool) (m : Nat) (i : Int), -1074 ≤ i → ((Ieee.Datum.order (.number s m i) (.number false 0 (-1074))) == some .eq) = (m == 0) := by
    intro s m i hi
    simp only [Ieee.Datum.order]
    have e0 : Ieee.signed false 0 (-1074 - min i (-1074)).toNat = 0 := by simp [Ieee.signed]
    rw [e0]
    generalize (i - min i (-1074)).toNat = k
    have hm : Ieee.signed s m k = 0 ↔ m = 0 := by
      unfold Ieee.signed
      rw [Nat.shiftLeft_eq]
      have hp : 0 < 2 ^ k := Nat.two_pow_pos k
      constructor
      · intro hh
        have h0 : m * 2 ^ k = 0 := by split at hh <;> omega
        rcases Nat.mul_eq_zero.1 h0 with h1 | h1
        · exact h1
        · omega
      · rintro rfl
        simp
    have hq : (some (compare (Ieee.signed s m k) 0) == some Ordering.eq) = (compare (Ieee.signed s m k) 0 == .eq) := rfl
    rw [hq, Bool.eq_iff_iff, beq_iff_eq, beq_iff_eq, Int.compare_eq_eq]
    exact hm
  unfold Ieee.Format.order
  rw [z]
  unfold Ieee.Format.read
  simp only [e1, e2, e3, e4]
  by_cases h1 : x % 9223372036854775808 < 4503599627370496
  · rw [if_pos h1, key _ _ _ (by omega)]
  · rw [if_neg h1, if_pos h', key _ _ _ (by omega)]
    rw [Bool.eq_iff_iff, beq_iff_eq, beq_iff_eq]
    omega

theorem le_max {s : Bool} {m : Nat} {i : Int} (hm : m < 9007199254740992) (hi : i ≤ 971) :
    ((Ieee.Datum.order (.number s m i) (.number false 9007199254740991 971)) == some .lt || (Ieee.Datum.order (.number s m i) (.number false 9007199254740991 971)) == some .eq) = true := by
  simp only [Ieee.Datum.order]
  have e1 : min i 971 = i := by omega
  rw [e1]
  have e2 : (i - i).toNat = 0 := by omega
  rw [e2]
  generalize (971 - i).toNat = k
  have hle : Ieee.signed s m 0 ≤ Ieee.signed false 9007199254740991 k := by
    unfold Ieee.signed
    rw [Nat.shiftLeft_eq, Nat.shiftLeft_eq]
    have hp : 1 ≤ 2 ^ k := Nat.one_le_two_pow
    generalize 2 ^ k = p at hp ⊢
    cases s <;> simp <;> omega
  rcases Int.lt_or_eq_of_le hle with h | h
  · rw [show compare (Ieee.signed s m 0) (Ieee.signed false 9007199254740991 k) = .lt from Int.compare_eq_lt.2 h]; rfl
  · rw [show compare (Ieee.signed s m 0) (Ieee.signed false 9007199254740991 k) = .eq from Int.compare_eq_eq.2 h]; rfl
theorem ge_min {s : Bool} {m : Nat} {i : Int} (hm : m < 9007199254740992) (hi : i ≤ 971) :
    ((Ieee.Datum.order (.number s m i) (.number true 9007199254740991 971)) == some .gt || (Ieee.Datum.order (.number s m i) (.number true 9007199254740991 971)) == some .eq) = true := by
  simp only [Ieee.Datum.order]
  have e1 : min i 971 = i := by omega
  rw [e1]
  have e2 : (i - i).toNat = 0 := by omega
  rw [e2]
  generalize (971 - i).toNat = k
  have hle : Ieee.signed true 9007199254740991 k ≤ Ieee.signed s m 0 := by
    unfold Ieee.signed
    rw [Nat.shiftLeft_eq, Nat.shiftLeft_eq]
    have hp : 1 ≤ 2 ^ k := Nat.one_le_two_pow
    generalize 2 ^ k = p at hp ⊢
    cases s <;> simp <;> omega
  rcases Int.lt_or_eq_of_le hle with h | h
  · rw [show compare (Ieee.signed s m 0) (Ieee.signed true 9007199254740991 k) = .gt from Int.compare_eq_gt.2 h]; rfl
  · rw [show compare (Ieee.signed s m 0) (Ieee.signed true 9007199254740991 k) = .eq from Int.compare_eq_eq.2 h.symm]; rfl
theorem read_max : Ieee.double.read 9218868437227405311 = .number false 9007199254740991 971 := by decide +kernel
theorem read_min : Ieee.double.read 18442240474082181119 = .number true 9007199254740991 971 := by decide +kernel

theorem order_self {x : Nat} : (Ieee.double.order x x == some .eq) = !(Ieee.double.read x).isNaN := by
  unfold Ieee.Format.order
  cases h : Ieee.double.read x with
  | number s m i => simp [Ieee.Datum.order, Ieee.Datum.isNaN]
  | infinity s => cases s <;> simp [Ieee.Datum.order, Ieee.Datum.isNaN]
  | nan s f => simp [Ieee.Datum.order, Ieee.Datum.isNaN]

/-- what 'ended' asks, of a finite float and of another one -/
theorem ended_fin {x : Nat} (h : fin64 x = true) : (Ieee.double.order x x != some .eq) = false ∧
    (Ieee.double.order x 9218868437227405311 == some .lt || Ieee.double.order x 9218868437227405311 == some .eq) = true ∧
    (Ieee.double.order x 18442240474082181119 == some .gt || Ieee.double.order x 18442240474082181119 == some .eq) = true := by
  obtain ⟨s, m, i, e, hm, _, hi⟩ := read_fin h
  refine ⟨?_, ?_, ?_⟩
  · rw [bne, order_self, e]; rfl
  · unfold Ieee.Format.order; rw [e, read_max]; exact le_max hm hi
  · unfold Ieee.Format.order; rw [e, read_min]; exact ge_min hm hi
theorem ended_inf {x : Nat} (h : fin64 x = false) : (Ieee.double.order x x != some .eq) = true ∨ ((Ieee.double.order x x != some .eq) = false ∧
    ((Ieee.double.order x 9218868437227405311 == some .lt || Ieee.double.order x 9218868437227405311 == some .eq) = false ∨
    ((Ieee.double.order x 9218868437227405311 == some .lt || Ieee.double.order x 9218868437227405311 == some .eq) = true ∧
    (Ieee.double.order x 18442240474082181119 == some .gt || Ieee.double.order x 18442240474082181119 == some .eq) = false))) := by
  rcases read_inf h with ⟨s, e⟩ | ⟨s, f, e⟩
  · refine .inr ⟨by rw [bne, order_self, e]; rfl, ?_⟩
    unfold Ieee.Format.order
    rw [e, read_max, read_min]
    cases s
    · exact .inl rfl
    · exact .inr ⟨rfl, rfl⟩
  · exact .inl (by rw [bne, order_self, e]; rfl)

def F (x : Nat) : Value := .float .f64 x
theorem bits_in {x : Nat} (w : World) : (callFunc 75 #[.float .f64 x]).run Try.prog w = .ok (.value (.int .u64 (x : Int))) w := by kernel_rfl

theorem run_sub_fin {x : Nat} (h : fin64 x = true) (w : World) : (binOp .sub 121 (.float .f64 x) (.float .f64 x)).run Try.prog w = .ok (.float .f64 0) w := by
  simp [binOp, Op.floatArith, FloatKind.format, sub_self_fin h]
theorem run_sub_inf {x : Nat} (h : fin64 x = false) (w : World) : ∃ y, (binOp .sub 121 (.float .f64 x) (.float .f64 x)).run Try.prog w = .ok (.float .f64 y) w.drew ∧ Ieee.double.order y 0 = none := by
  refine ⟨_, ?_, read_drawn (w.tape w.drawn (.nanBits .f64 x x)) x x 0⟩
  simp [binOp, Op.floatArith, FloatKind.format, sub_self_inf h, choose, Sem.run, Question.forced]

/-- only draws -/
def Quiet (v : Value) (w : World) (e : Ending) (w' : World) : Prop := e = .returned v ∧ ∃ n, w' = w.drewN n

theorem drew_is (w : World) : w.drew = w.drewN 1 := rfl

theorem finite_any (x : Nat) (w : World) : Calls Try.prog 91 #[.float .f64 x] w (Quiet (.bool (fin64 x)) w) := by
  cases h : fin64 x with
  | true =>
    have h1 := run_sub_fin h
    have h2 : (FloatKind.f64.format.order 0 0 == some .eq) = true := by decide
    go_enter Try.func91, Try.ntmps91
    go_wp2_with fail
    go_ret
    exact ⟨rfl, 0, rfl⟩
  | false =>
    obtain ⟨y, h1, h2⟩ := run_sub_inf h w
    have h3 : (FloatKind.f64.format.order y 0 == some .eq) = false := by show (Ieee.double.order y 0 == some .eq) = false; rw [h2]; rfl
    clear h2
    go_enter Try.func91, Try.ntmps91
    go_wp2_with fail
    go_ret
    exact ⟨rfl, 1, rfl⟩

theorem ends_any (x y : Nat) (w : World) : Calls Try.prog 87 #[.complex .f64 x y] w (Quiet (.bool (fin64 x && fin64 y)) w) := by
  cases h : fin64 x with
  | true =>
    have HX := Lib.hid h
    clear h
    go_enter Try.func87, Try.ntmps87
    go_wp2_with fail
    refine (finite_any x w).mono ?_
    rintro e w1 ⟨rfl, n, rfl⟩
    rw [HX.out]
    go_wp2_with fail
    refine (finite_any y _).mono ?_
    rintro e w1 ⟨rfl, m, rfl⟩
    go_wp2_with fail
    go_ret
    exact ⟨rfl, n + m, rfl⟩
  | false =>
    have HX := Lib.hid h
    clear h
    go_enter Try.func87, Try.ntmps87
    go_wp2_with fail
    refine (finite_any x w).mono ?_
    rintro e w1 ⟨rfl, n, rfl⟩
    rw [HX.out]
    go_wp2_with fail
    go_ret
    exact ⟨rfl, n, rfl⟩

def neg64 (x : Nat) : Bool := decide (9223372036854775808 ≤ x)
theorem signbit_any (x : Nat) (hx : x < 18446744073709551616) (w : World) : Calls Try.prog 88 #[.float .f64 x] w fun e w' => e = .returned (.bool (neg64 x)) ∧ w = w' := by
  have hb := fun w => bits_in (x := x) w
  have hd : decide (wrap64 (x : Int) < 0) = neg64 x := by
    unfold neg64
    rw [← IntWalk.i64_left, IntKind.wrap_i64, decide_eq_decide]
    omega
  have HD := Lib.hid hd
  clear hx hd
  go_enter Try.func88, Try.ntmps88
  go_wp2_with fail
  go_ret
  exact ⟨congrArg (fun b => Ending.returned (.bool b)) HD.out, rfl⟩

/-- a part is fine: finite, and no nought with a minus -/
theorem fine_part {x : Nat} (h : fin64 x = true) (hx : x < 18446744073709551616) : fine64 x = !((FloatKind.f64.format.order x 0 == some .eq) && neg64 x) := by
  have h0 : (FloatKind.f64.format.order x 0 == some .eq) = (x % 9223372036854775808 == 0) := order_zero_iff h
  rw [h0]
  unfold fine64 neg64
  rw [h, Bool.true_and]
  congr 1
  rw [Bool.eq_iff_iff, Bool.and_eq_true, beq_iff_eq, beq_iff_eq, decide_eq_true_iff]
  omega

set_option maxHeartbeats 800000 in
theorem fine_any (x y : Nat) (hx : x < 18446744073709551616) (hy : y < 18446744073709551616) (w : World) : Calls Try.prog 77 #[.complex .f64 x y] w (Quiet (.bool (fine64 x && fine64 y)) w) := by
  cases h : (fin64 x && fin64 y) with
  | false =>
    have HX := Lib.hid h
    have HF := Lib.hid (show (fine64 x && fine64 y) = false by unfold fine64; rw [Bool.and_eq_false_iff] at h; rcases h with h | h <;> rw [h] <;> simp)
    clear h hx hy
    go_enter Try.func77, Try.ntmps77
    go_wp2_with fail
    refine (ends_any x y w).mono ?_
    rintro e w1 ⟨rfl, n, rfl⟩
    rw [HX.out]
    go_wp2_with fail
    go_ret
    rw [HF.out]
    exact ⟨rfl, n, rfl⟩
  | true =>
    have HX := Lib.hid h
    rw [Bool.and_eq_true] at h
    have P1 := Lib.hid (fine_part h.1 hx)
    have P2 := Lib.hid (fine_part h.2 hy)
    have S1 := Lib.hid (fun w => signbit_any x hx w)
    have S2 := Lib.hid (fun w => signbit_any y hy w)
    clear h hx hy
    rcases Bool.eq_false_or_eq_true (FloatKind.f64.format.order x 0 == some .eq) with a1 | a1 <;> rcases Bool.eq_false_or_eq_true (FloatKind.f64.format.order y 0 == some .eq) with a2 | a2 <;> rcases hb1 : neg64 x with _ | _ <;> rcases hb2 : neg64 y with _ | _
    all_goals
      have hv : (fine64 x && fine64 y) = ((!((FloatKind.f64.format.order x 0 == some .eq) && neg64 x)) && !((FloatKind.f64.format.order y 0 == some .eq) && neg64 y)) := by rw [P1.out, P2.out]
      rw [a1, a2, hb1, hb2] at hv
      have HV := Lib.hid hv
      have N1 := Lib.hid hb1
      have N2 := Lib.hid hb2
      clear hv hb1 hb2 P1 P2
      go_enter Try.func77, Try.ntmps77
      go_wp2_with fail
      refine (ends_any x y w).mono ?_
      rintro e w1 ⟨rfl, n, rfl⟩
      rw [HX.out]
      go_wp2_with (first
        | (go_at_call_of 88 (Value.float .f64 x); refine (S1.out _).mono ?_; rintro e w2 ⟨rfl, rfl⟩; rw [N1.out])
        | (go_at_call_of 88 (Value.float .f64 y); refine (S2.out _).mono ?_; rintro e w2 ⟨rfl, rfl⟩; rw [N2.out]))
      go_ret
      rw [HV.out]
      exact ⟨rfl, n, rfl⟩
end Go.Proofs.Yticipdjfkpakpaa
