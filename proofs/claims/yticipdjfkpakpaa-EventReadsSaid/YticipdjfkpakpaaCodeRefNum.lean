/- The document's reader of a complex number. -/
import Derived.Test.YticipdjfkpakpaaCodeRefs
import Derived.Test.YticipdjfkpakpaaCodeNum
namespace Go.Proofs.Yticipdjfkpakpaa
open Go.RowKit

theorem be_take_step {l : List UInt8} {a k : Nat} (h : a + k < l.length) : be ((l.drop a).take (k + 1)) = 256 * be ((l.drop a).take k) + (l[a + k]).toNat := by
  rw [← be_snoc]
  congr 1
  rw [List.take_succ_eq_append_getElem (by simp; omega)]
  simp
theorem mul_add8 (p c : Nat) (hp : p < 72057594037927936) (hc : c < 256) : IntKind.u64.wrap (IntKind.u64.wrap (256 * (p : Int)) + IntKind.u64.wrap (c : Int)) = ((256 * p + c : Nat) : Int) := by
  rw [wrap_u64', wrap_u64', wrap_u64']; omega

set_option maxRecDepth 20000 in
set_option maxHeartbeats 1600000 in
theorem refNum_any (w : World) (A : Option Addr) (len cap : Nat) (l : List UInt8) (at_ : Nat) (h : Bs w A len l) (hat : at_ ≤ l.length) (hsz : l.length ≤ 1000000) :
    Calls Try.prog 70 #[.slice A len cap, .int .i64 at_] w fun e w' => Says numV (.complex .f64 0 0) (rdNum l at_) e ∧ w = w' := by
  obtain rfl := h.len
  by_cases hn : 16 ≤ l.length - at_
  · have hb : ¬ (l.length : Int) - (at_ : Int) < 16 := by omega
    have hq : (at_ : Int) + 16 ≤ (l.length : Int) := by omega
    have hq2 : (l.length : Int) ≤ 1000000 := by omega
    go_enter Try.func70, Try.ntmps70
    go_wp2_with fail
    go_loop [7, 8, 9] (fun p q i => ∃ k : Nat, k ≤ 8 ∧ i = .int .i64 k ∧ p = .int .u64 ((be ((l.drop at_).take k) : Nat) : Int) ∧ q = .int .u64 ((be ((l.drop (at_ + 8)).take k) : Nat) : Int)) (fun _ _ i => 8 - (intOf i).toNat)
    case atStart => exact ⟨0, by omega, rfl, rfl, rfl⟩
    case round =>
      obtain ⟨k, hk, rfl, rfl, rfl⟩ := hrel
      by_cases hlt : k < 8
      · obtain ⟨ad, rfl, _, hc⟩ := h.cell (at_ + k) (by omega)
        obtain ⟨ad', e', _, hd⟩ := h.cell (at_ + 8 + k) (by omega)
        obtain rfl : ad = ad' := Option.some.inj e'
        clear e'
        have HV := Lib.hid (mul_add8 (be ((l.drop at_).take k)) (l[at_ + k]).toNat (be_lt7 _ (by simp; omega)) (UInt8.toNat_lt _))
        have HU := Lib.hid (mul_add8 (be ((l.drop (at_ + 8)).take k)) (l[at_ + 8 + k]).toNat (be_lt7 _ (by simp; omega)) (UInt8.toNat_lt _))
        have S1 := Lib.hid (be_take_step (l := l) (a := at_) (k := k) (by omega))
        have S2 := Lib.hid (be_take_step (l := l) (a := at_ + 8) (k := k) (by omega))
        generalize be ((l.drop at_).take k) = p at HV S1 ⊢
        generalize be ((l.drop (at_ + 8)).take k) = q at HU S2 ⊢
        go_wp2_with fail
        exact ⟨⟨k + 1, by omega, by go_num, by rw [S1.out]; exact congrArg (Value.int .u64) HV.out, by rw [S2.out]; exact congrArg (Value.int .u64) HU.out⟩, by simp [intOf]; omega⟩
      · obtain rfl : k = 8 := by omega
        have hb1 : ∀ w, (callFunc 85 #[.int .u64 ((be ((l.drop at_).take 8) : Nat) : Int)]).run Try.prog w = .ok (.value (.float .f64 (be ((l.drop at_).take 8)))) w := fun w => bits_out w
        have hb2 : ∀ w, (callFunc 85 #[.int .u64 ((be ((l.drop (at_ + 8)).take 8) : Nat) : Int)]).run Try.prog w = .ok (.value (.float .f64 (be ((l.drop (at_ + 8)).take 8)))) w := fun w => bits_out w
        rcases hf : (fine64 (be ((l.drop at_).take 8)) && fine64 (be ((l.drop (at_ + 8)).take 8))) with _ | _
        · have HR := Lib.hid (show rdNum l at_ = .error (at_, 20) by rw [rdNum, if_pos hn, hf]; rfl)
          have HF := Lib.hid hf
          clear hf
          generalize be ((l.drop at_).take 8) = p at hb1 HF ⊢
          generalize be ((l.drop (at_ + 8)).take 8) = q at hb2 HF ⊢
          go_wp2_with fail
          refine (rfine_any p q _).mono ?_
          rintro e w2 ⟨rfl, rfl⟩
          rw [HF.out]
          go_wp2_with fail
          go_ret3
          refine ⟨?_, rfl⟩
          rw [HR.out]
          rfl
        · have HR := Lib.hid (show rdNum l at_ = .ok ((be ((l.drop at_).take 8), be ((l.drop (at_ + 8)).take 8)), at_ + 16) by rw [rdNum, if_pos hn, hf]; rfl)
          have HF := Lib.hid hf
          have HP := Lib.hid (show (at_ : Int) + 16 = ((at_ + 16 : Nat) : Int) by omega)
          clear hf
          generalize be ((l.drop at_).take 8) = p at hb1 HF HR ⊢
          generalize be ((l.drop (at_ + 8)).take 8) = q at hb2 HF HR ⊢
          go_wp2_with fail
          refine (rfine_any p q _).mono ?_
          rintro e w2 ⟨rfl, rfl⟩
          rw [HF.out]
          go_wp2_with fail
          go_ret3
          refine ⟨?_, rfl⟩
          rw [HR.out]
          exact congrArg (fun v => Ending.returned (.tuple #[.complex .f64 p q, .int .i64 v, .int .i64 0])) HP.out
  · have HR := Lib.hid (show rdNum l at_ = .error (l.length, 4) by rw [rdNum, if_neg hn])
    have hb : (l.length : Int) - (at_ : Int) < 16 := by omega
    have hq : (at_ : Int) ≤ (l.length : Int) := by omega
    have hq2 : (l.length : Int) ≤ 1000000 := by omega
    clear hn
    go_enter Try.func70, Try.ntmps70
    go_wp2_with fail
    go_ret3
    refine ⟨?_, rfl⟩
    rw [HR.out]
    rfl
end Go.Proofs.Yticipdjfkpakpaa
