/- The document's readers of numbers, whole numbers, texts: they say what the plain words say. -/
import Derived.Test.YtpbheicfplpemaaGreatCodeAsk
namespace Go.Proofs.YtpbheicfplpemaaGreat
open Go.RowKit

theorem add_shift (m c k : Nat) (hm : m < 2 ^ (7 * k)) (hk : k ≤ 9) (h9 : k = 9 → c = 1) :
    IntKind.u64.wrap ((m : Int) + IntKind.u64.wrap ((c : Int) % 128 * 2 ^ (7 * k))) = ((m + c % 128 * 2 ^ (7 * k) : Nat) : Int) := by
  have hlt : m + c % 128 * 2 ^ (7 * k) < 18446744073709551616 := by
    by_cases h : k ≤ 8
    · have h2 := pow7_le k h
      have h3 : c % 128 * 2 ^ (7 * k) ≤ 127 * 2 ^ (7 * k) := Nat.mul_le_mul_right _ (by omega)
      omega
    · have e9 : k = 9 := by omega
      have ec := h9 e9
      subst e9
      subst ec
      have e : (2 : Nat) ^ (7 * 9) = 9223372036854775808 := by decide
      rw [e] at hm ⊢
      omega
  have e2 : (c : Int) % 128 * 2 ^ (7 * k) = ((c % 128 * 2 ^ (7 * k) : Nat) : Int) := by
    rw [Int.natCast_mul, Int.natCast_pow]; rfl
  rw [e2, wrap_u64', wrap_u64']
  generalize c % 128 * 2 ^ (7 * k) = y at hlt ⊢
  omega
theorem add_shift0 (m c : Nat) (hm : m < 2 ^ (7 * 0)) : IntKind.u64.wrap ((m : Int) + (c : Int) % 128) = ((m + c % 128 * 2 ^ (7 * 0) : Nat) : Int) := by
  have : m < 1 := hm
  rw [wrap_u64']; omega
/-- three results: what was read, the place behind it, no error; or nothing, a place, an error -/
def Says {α : Type} (val : α → Value) (zero : Value) (res : Except (Nat × Nat) (α × Nat)) (e : Ending) : Prop :=
  match res with
  | .ok (x, to) => e = .returned (.tuple #[val x, .int .i64 (to : Int), .int .i64 0])
  | .error (p, en) => e = .returned (.tuple #[zero, .int .i64 (p : Int), .int .i64 (en : Int)])

theorem says_ok {x : Int} {n a : Nat} {b : Int} (h1 : x = (n : Int)) (h2 : b = (a : Int)) : Says u64V (.int .u64 0) (.ok (n, a)) (.returned (.tuple #[.int .u64 x, .int .i64 b, .int .i64 0])) := by
  subst h1 h2; rfl

set_option maxRecDepth 20000 in
set_option maxHeartbeats 1600000 in
theorem refUint_any (w : World) (A : Option Addr) (len cap : Nat) (l : List UInt8) (at_ : Nat) (h : Bs w A len l) (hat : at_ ≤ l.length) (hsz : l.length ≤ 1000000) :
    Calls Tryz.prog 96 #[.slice A len cap, .int .i64 at_] w fun e w' => Says u64V (.int .u64 0) (Cd.rdUint l at_) e ∧ w = w' := by
  obtain rfl := h.len
  go_enter Tryz.func96, Tryz.ntmps96
  go_wp2_with fail
  go_loop [7, 8, 9] (fun n i _ => ∃ (k m : Nat), i = .int .i64 k ∧ n = .int .u64 m ∧ k ≤ 9 ∧ Hid (m < 2 ^ (7 * k)) ∧ Hid (Cd.rdUint l at_ = Cd.rdU l (10 - k) (at_ + k) k m)) (fun _ i _ => 10 - (intOf i).toNat)
  case atStart => exact ⟨0, 0, rfl, rfl, by omega, (show 0 < 2 ^ (7 * 0) by decide), rfl⟩
  case round =>
    obtain ⟨k, m, rfl, rfl, hk, HM, HE⟩ := hrel
    have hk0 : 0 ≤ 7 * (k : Int) := by omega
    have hk1 : 7 * (k : Int) ≤ 63 := by omega
    have hk2 : (k : Int) < 10 := by omega
    have hk3 : (at_ : Int) + (k : Int) ≤ 1000009 := by omega
    have HP := Lib.hid (show (at_ : Int) + (k : Int) = ((at_ + k : Nat) : Int) by omega)
    have hk4 : (0 : Int) ≤ (at_ : Int) + (k : Int) := by omega
    by_cases ha : at_ + k < l.length
    · have ha1 : ¬ (l.length : Int) ≤ (at_ : Int) + (k : Int) := by omega
      obtain ⟨ad, rfl, _, hc⟩ := h.cell (at_ + k) ha
      by_cases hb : (l[at_ + k].toNat = 0 ∧ 0 < k) ∨ (k = 9 ∧ l[at_ + k].toNat ≠ 1)
      · have HX := Lib.hid (HE.out.trans (by rw [show 10 - k = (9 - k) + 1 from by omega, Cd.rdU_bad ha hb]))
        by_cases hz : l[at_ + k].toNat = 0
        · have t1 : ((l[at_ + k].toNat : Int) == 0) = true := by rw [beq_iff_eq]; omega
          have t2 : 0 < (k : Int) := by omega
          clear hb hz
          go_wp2_with fail
          all_goals
            go_ret3
            refine ⟨?_, rfl⟩
            rw [HX.out]
            exact congrArg (fun x => Ending.returned (.tuple #[.int .u64 0, .int .i64 x, .int .i64 3])) HP.out
        · have t1 : ((l[at_ + k].toNat : Int) == 0) = false := by rw [beq_eq_false_iff_ne]; omega
          have t3 : ((k : Int) == 9) = true := by rw [beq_iff_eq]; omega
          have t4 : ((l[at_ + k].toNat : Int) != 1) = true := by rw [bne_iff_ne]; omega
          clear hb hz
          go_wp2_with fail
          all_goals
            go_ret3
            refine ⟨?_, rfl⟩
            rw [HX.out]
            exact congrArg (fun x => Ending.returned (.tuple #[.int .u64 0, .int .i64 x, .int .i64 3])) HP.out
      · have HB := Lib.hid hb
        by_cases hk0' : k = 0
        · subst hk0'
          clear hb
          simp only [Nat.add_zero] at hc HB ha ha1 HP
          have HV := Lib.hid (add_shift0 m l[at_].toNat HM.out)
          go_wp2_with fail
          all_goals first
            | (go_ret3
               refine ⟨?_, rfl⟩
               have hc' : l[at_].toNat < 128 := by omega
               have HE' : Cd.rdUint l at_ = Cd.rdU l (9 + 1) at_ 0 m := HE.out
               rw [HE', Cd.rdU_end ha HB.out hc']
               exact says_ok HV.out (by omega))
            | (have hc' : ¬ l[at_].toNat < 128 := by omega
               refine ⟨⟨1, _, by go_num, congrArg (Value.int .u64) HV.out, by omega, step_lt _ _ _ HM.out, ?_⟩, by simp [intOf]⟩
               show Cd.rdUint l at_ = _
               rw [HE.out, show 10 - 0 = 9 + 1 from by omega]
               exact Cd.rdU_more ha HB.out hc')
        · have t0 : 0 < (k : Int) := by omega
          have t1 : ((l[at_ + k].toNat : Int) == 0) = false := by rw [beq_eq_false_iff_ne]; omega
          have tt : (((k : Int) == 9) = false) ∨ (((k : Int) == 9) = true ∧ ((l[at_ + k].toNat : Int) != 1) = false) := by
            simp only [beq_iff_eq, beq_eq_false_iff_ne, ne_eq, bne_eq_false_iff_eq]; omega
          clear hb hk0'
          rcases tt with t3 | ⟨t3, t4⟩
          all_goals go_wp2_with fail
          all_goals first
            | (go_ret3
               refine ⟨?_, rfl⟩
               have hc' : l[at_ + k].toNat < 128 := by omega
               have hv := add_shift m l[at_ + k].toNat k HM.out hk (by have := HB.out; omega)
               rw [HE.out, show 10 - k = (9 - k) + 1 from by omega, Cd.rdU_end ha HB.out hc']
               exact says_ok hv (by omega))
            | (have hc' : ¬ l[at_ + k].toNat < 128 := by omega
               have hk9 : k < 9 := by have := HB.out; omega
               have hv := add_shift m l[at_ + k].toNat k HM.out hk (by omega)
               refine ⟨⟨k + 1, _, by go_num, congrArg (Value.int .u64) hv, by omega, step_lt _ _ _ HM.out, ?_⟩, by simp [intOf]; omega⟩
               show Cd.rdUint l at_ = _
               rw [HE.out, show 10 - k = (9 - k) + 1 from by omega, Cd.rdU_more ha HB.out hc', show 10 - (k + 1) = 9 - k from by omega]
               rfl)
            | (exfalso; have h4 := ‹((l[at_ + k].toNat : Int) != 1) = false›; rw [bne_eq_false_iff_eq] at h4; omega)
    · have ha1 : (l.length : Int) ≤ (at_ : Int) + (k : Int) := by omega
      have HX := Lib.hid (HE.out.trans (by rw [show 10 - k = (9 - k) + 1 from by omega, Cd.rdU_short ha]))
      clear ha
      go_wp2_with fail
      go_ret3
      refine ⟨?_, rfl⟩
      rw [HX.out]
      rfl

theorem Says.of_ok {α : Type} {val : α → Value} {zero : Value} {res : Except (Nat × Nat) (α × Nat)} {e : Ending} {x : α} {to : Nat} (h : Says val zero res e) (hr : res = .ok (x, to)) :
    e = .returned (.tuple #[val x, .int .i64 (to : Int), .int .i64 0]) := by rw [hr] at h; exact h
theorem Says.of_error {α : Type} {val : α → Value} {zero : Value} {res : Except (Nat × Nat) (α × Nat)} {e : Ending} {p en : Nat} (h : Says val zero res e) (hr : res = .error (p, en)) :
    e = .returned (.tuple #[zero, .int .i64 (p : Int), .int .i64 (en : Int)]) := by rw [hr] at h; exact h
theorem rdU_errno {l : List UInt8} : ∀ (f a i n p en : Nat), Cd.rdU l f a i n = .error (p, en) → en = 3 ∨ en = 4 := by
  intro f
  induction f with
  | zero => intro a i n p en h; simp [Cd.rdU] at h; omega
  | succ f ih =>
    intro a i n p en h
    by_cases ha : a < l.length
    · by_cases hb : (l[a].toNat = 0 ∧ 0 < i) ∨ (i = 9 ∧ l[a].toNat ≠ 1)
      · rw [Cd.rdU_bad ha hb] at h; injection h with h; injection h with h1 h2; omega
      · by_cases hc : l[a].toNat < 128
        · rw [Cd.rdU_end ha hb hc] at h; cases h
        · rw [Cd.rdU_more ha hb hc] at h; exact ih _ _ _ _ _ h
    · rw [Cd.rdU_short ha] at h; injection h with h; injection h with h1 h2; omega
theorem rdUint_errno {l : List UInt8} {a p en : Nat} (h : Cd.rdUint l a = .error (p, en)) : en = 3 ∨ en = 4 := rdU_errno _ _ _ _ _ _ h

set_option maxRecDepth 20000 in
set_option maxHeartbeats 1600000 in
theorem refInt_any (w : World) (A : Option Addr) (len cap : Nat) (l : List UInt8) (at_ : Nat) (h : Bs w A len l) (hat : at_ ≤ l.length) (hsz : l.length ≤ 1000000) :
    Calls Tryz.prog 68 #[.slice A len cap, .int .i64 at_] w fun e w' => Says i64V (.int .i64 0) (Cd.rdInt l at_) e ∧ w = w' := by
  have HC := Lib.hid (refUint_any w A len cap l at_ h hat hsz)
  clear h hsz
  rcases hres : Cd.rdUint l at_ with ⟨p, en⟩ | ⟨x, to⟩
  · have HR := Lib.hid (show Cd.rdInt l at_ = .error (p, en) by simp [Cd.rdInt, hres])
    have hen : ((en : Int) != 0) = true := by rw [bne_iff_ne]; have := rdUint_errno hres; omega
    have HS := Lib.hid hres
    clear hres
    go_enter Tryz.func68, Tryz.ntmps68
    go_wp2_with fail
    refine HC.out.mono ?_
    rintro e w' ⟨hs, rfl⟩
    obtain rfl := hs.of_error HS.out
    go_wp2_with fail
    go_ret3
    refine ⟨?_, rfl⟩
    rw [HR.out]
    rfl
  · have HR := Lib.hid (show Cd.rdInt l at_ = .ok (Cd.unzig x, to) by simp [Cd.rdInt, hres])
    have hlt := (Cd.rdUint_lt hres).1
    have HS := Lib.hid hres
    have f1 : IntKind.i64.wrap ((x : Int) / 2) = (x : Int) / 2 := by rw [wrap_i64' _ (by omega) (by omega)]
    have f2 : (-9223372036854775808 : Int) ≤ -((x : Int) / 2) - 1 := by omega
    have HU0 := Lib.hid (show ((x : Int) % 2 == 1) = false → Cd.unzig x = (x : Int) / 2 from by
      intro h0; rw [beq_eq_false_iff_ne] at h0; unfold Cd.unzig; rw [if_pos (by omega)]; omega)
    have HU1 := Lib.hid (show ((x : Int) % 2 == 1) = true → Cd.unzig x = -((x : Int) / 2) - 1 from by
      intro h0; rw [beq_iff_eq] at h0; unfold Cd.unzig; rw [if_neg (by omega)]; omega)
    clear hres hlt
    rcases Bool.eq_false_or_eq_true ((x : Int) % 2 == 1) with hp | hp
    all_goals
      go_enter Tryz.func68, Tryz.ntmps68
      go_wp2_with fail
      refine HC.out.mono ?_
      rintro e w' ⟨hs, rfl⟩
      obtain rfl := hs.of_ok HS.out
      unfold u64V
      go_wp2_with fail
      go_ret3
      refine ⟨?_, rfl⟩
      rw [HR.out]
    · exact congrArg (fun v => Ending.returned (.tuple #[.int .i64 v, .int .i64 (to : Int), .int .i64 0])) (HU1.out hp).symm
    · exact congrArg (fun v => Ending.returned (.tuple #[.int .i64 v, .int .i64 (to : Int), .int .i64 0])) (HU0.out hp).symm

set_option maxRecDepth 20000 in
set_option maxHeartbeats 1600000 in
theorem refText_any (w : World) (A : Option Addr) (len cap : Nat) (l : List UInt8) (at_ : Nat) (h : Bs w A len l) (hcap : l.length ≤ cap) (hat : at_ ≤ l.length) (hsz : l.length ≤ 1000000) :
    Calls Tryz.prog 69 #[.slice A len cap, .int .i64 at_] w fun e w' => Says strV (.string ⟨#[]⟩) (Cd.rdText l at_) e ∧ w = w' := by
  have HC := Lib.hid (refUint_any w A len cap l at_ h hat hsz)
  rcases hres : Cd.rdUint l at_ with ⟨p, en⟩ | ⟨x, to⟩
  · have HR := Lib.hid (show Cd.rdText l at_ = .error (p, en) by simp [Cd.rdText, hres])
    have hen : ((en : Int) != 0) = true := by rw [bne_iff_ne]; have := rdUint_errno hres; omega
    have HS := Lib.hid hres
    clear hres h
    go_enter Tryz.func69, Tryz.ntmps69
    go_wp2_with fail
    refine HC.out.mono ?_
    rintro e w' ⟨hs, rfl⟩
    obtain rfl := hs.of_error HS.out
    go_wp2_with fail
    go_ret3
    refine ⟨?_, rfl⟩
    rw [HR.out]
    rfl
  · have hlt := Cd.rdUint_lt hres
    have HS := Lib.hid hres
    obtain rfl := h.len
    have e2 : IntKind.u64.wrap ((l.length : Int) - (to : Int)) = (l.length : Int) - (to : Int) := by rw [wrap_u64']; omega
    by_cases hn : x ≤ l.length - to
    · have HR := Lib.hid (show Cd.rdText l at_ = .ok ((l.drop to).take x, to + x) by simp [Cd.rdText, hres, Cd.rdBytes, hn])
      have hb : ¬ (l.length : Int) - (to : Int) < (x : Int) := by omega
      have f2 : ((to : Int) + (x : Int)).toNat = to + x := by omega
      have f3 : (to : Int) ≤ (to : Int) + (x : Int) := by omega
      have f4 : (to : Int) + (x : Int) ≤ (cap : Int) := by omega
      have f5 : (0 : Int) ≤ (to : Int) + (x : Int) := by omega
      have f6 : (to : Int) + (x : Int) ≤ 2000000 := by omega
      have f7 : (x : Int) ≤ 1000000 := by omega
      have hcv : (convert 22 9 (.slice (if cap = to then A else Option.map (fun y => y.add to) A) x (cap - to))).run Tryz.prog w = .ok (strV ((l.drop to).take x)) w := by
        have hb2 := h.cut (A' := if cap = to then A else Option.map (fun y => y.add to) A) to (to + x) (by omega) (by omega) (fun ad hlt e => by rw [if_neg (by omega), e]; rfl)
        rw [show to + x - to = x from by omega] at hb2
        exact run_conv_bs hb2 _ _ 5 Tryz.underlying22 Tryz.underlying5 Tryz.underlying9 _
      generalize hA' : (if cap = to then A else Option.map (fun y => y.add to) A) = A' at hcv
      have HP := Lib.hid (show (to : Int) + (x : Int) = ((to + x : Nat) : Int) by omega)
      clear hres hlt hn h
      unfold strV at hcv
      go_enter Tryz.func69, Tryz.ntmps69
      go_wp2_with fail
      refine HC.out.mono ?_
      rintro e w' ⟨hs, rfl⟩
      obtain rfl := hs.of_ok HS.out
      unfold u64V
      go_wp2_with fail
      go_ret3
      refine ⟨?_, rfl⟩
      rw [HR.out]
      exact congrArg (fun v => Ending.returned (.tuple #[.string ⟨((l.drop to).take x).toArray⟩, .int .i64 v, .int .i64 0])) HP.out
    · have HR := Lib.hid (show Cd.rdText l at_ = .error (l.length, 4) by simp [Cd.rdText, hres, Cd.rdBytes, hn])
      have hb : (l.length : Int) - (to : Int) < (x : Int) := by omega
      have g1 : (to : Int) ≤ (l.length : Int) := by omega
      clear hres hlt hn h
      go_enter Tryz.func69, Tryz.ntmps69
      go_wp2_with fail
      refine HC.out.mono ?_
      rintro e w' ⟨hs, rfl⟩
      obtain rfl := hs.of_ok HS.out
      unfold u64V
      go_wp2_with fail
      go_ret3
      refine ⟨?_, rfl⟩
      rw [HR.out]
      rfl
end Go.Proofs.YtpbheicfplpemaaGreat
