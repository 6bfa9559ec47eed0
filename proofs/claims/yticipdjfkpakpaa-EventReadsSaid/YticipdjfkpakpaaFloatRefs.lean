/- The document's floats: Fine, Same. -/
import Derived.Test.YticipdjfkpakpaaFloats
namespace Go.Proofs.Yticipdjfkpakpaa
open Go.RowKit

def nan64 (x : Nat) : Bool := FloatKind.f64.format.order x x != some .eq
theorem nan_any (x : Nat) (w : World) : Calls Try.prog 92 #[.float .f64 x] w fun e w' => e = .returned (.bool (nan64 x)) ∧ w = w' := by
  go_enter Try.func92, Try.ntmps92
  go_wp2_with fail
  go_ret
  exact ⟨rfl, rfl⟩

theorem rended_any (x : Nat) (w : World) : Calls Try.prog 89 #[.float .f64 x] w fun e w' => e = .returned (.bool (fin64 x)) ∧ w = w' := by
  have cases4 : (nan64 x = true ∧ fin64 x = false) ∨ (nan64 x = false ∧ ((FloatKind.f64.format.order x 9218868437227405311 == some .lt || FloatKind.f64.format.order x 9218868437227405311 == some .eq) = false ∧ fin64 x = false ∨
      ((FloatKind.f64.format.order x 9218868437227405311 == some .lt || FloatKind.f64.format.order x 9218868437227405311 == some .eq) = true ∧
      (FloatKind.f64.format.order x 18442240474082181119 == some .gt || FloatKind.f64.format.order x 18442240474082181119 == some .eq) = fin64 x))) := by
    cases h : fin64 x with
    | true => have := ended_fin h; exact .inr ⟨this.1, .inr ⟨this.2.1, this.2.2⟩⟩
    | false =>
      rcases ended_inf h with h1 | ⟨h1, h2 | ⟨h2, h3⟩⟩
      · exact .inl ⟨h1, rfl⟩
      · exact .inr ⟨h1, .inl ⟨h2, rfl⟩⟩
      · exact .inr ⟨h1, .inr ⟨h2, h3⟩⟩
  rcases cases4 with ⟨h1, hf⟩ | ⟨h1, ⟨h2, hf⟩ | ⟨h2, hf⟩⟩
  all_goals
    have N1 := Lib.hid h1
    have HF := Lib.hid hf
    clear h1 hf
    go_enter Try.func89, Try.ntmps89
    go_wp2_with fail
    refine (nan_any x w).mono ?_
    rintro e w1 ⟨rfl, rfl⟩
    rw [N1.out]
    go_wp2_with fail
    go_ret
    refine ⟨?_, rfl⟩
    first
      | (rw [HF.out]; rfl)
      | exact congrArg (fun b => Ending.returned (.bool b)) HF.out

theorem minus_any (x : Nat) (w : World) : Calls Try.prog 90 #[.float .f64 x] w fun e w' => e = .returned (.bool (x == 9223372036854775808)) ∧ w = w' := by
  have hb := fun w => bits_in (x := x) w
  have hd : ((x : Int) == 9223372036854775808) = (x == 9223372036854775808) := by rw [Bool.eq_iff_iff, beq_iff_eq, beq_iff_eq]; omega
  have HD := Lib.hid hd
  clear hd
  go_enter Try.func90, Try.ntmps90
  go_wp2_with fail
  go_ret
  exact ⟨congrArg (fun b => Ending.returned (.bool b)) HD.out, rfl⟩

set_option maxHeartbeats 800000 in
theorem rfine_any (x y : Nat) (w : World) : Calls Try.prog 86 #[.complex .f64 x y] w fun e w' => e = .returned (.bool (fine64 x && fine64 y)) ∧ w = w' := by
  rcases hx : fin64 x with _ | _ <;> rcases hy : fin64 y with _ | _ <;> rcases mx : (x == 9223372036854775808) with _ | _ <;> rcases my : (y == 9223372036854775808) with _ | _
  all_goals
    have hv : (fine64 x && fine64 y) = ((fin64 x && !(x == 9223372036854775808)) && (fin64 y && !(y == 9223372036854775808))) := rfl
    rw [hx, hy, mx, my] at hv
    have HV := Lib.hid hv
    have HX := Lib.hid hx
    have HY := Lib.hid hy
    have MX := Lib.hid mx
    have MY := Lib.hid my
    clear hv hx hy mx my
    go_enter Try.func86, Try.ntmps86
    go_wp2_with (first
      | (go_at_call_of 89 (Value.float .f64 x); refine (rended_any x _).mono ?_; rintro e w2 ⟨rfl, rfl⟩; rw [HX.out])
      | (go_at_call_of 89 (Value.float .f64 y); refine (rended_any y _).mono ?_; rintro e w2 ⟨rfl, rfl⟩; rw [HY.out])
      | (go_at_call_of 90 (Value.float .f64 x); refine (minus_any x _).mono ?_; rintro e w2 ⟨rfl, rfl⟩; rw [MX.out])
      | (go_at_call_of 90 (Value.float .f64 y); refine (minus_any y _).mono ?_; rintro e w2 ⟨rfl, rfl⟩; rw [MY.out]))
    go_ret
    rw [HV.out]
    exact ⟨rfl, rfl⟩

theorem bits_out {n : Nat} (w : World) : (callFunc 85 #[.int .u64 (n : Int)]).run Try.prog w = .ok (.value (.float .f64 n)) w := by kernel_rfl
end Go.Proofs.Yticipdjfkpakpaa
