/- The reader's functions. -/
import Derived.Test.YteihedfmmiihiaaGreatRows
import Derived.Test.YteihedfmmiihiaaGreatCodeSpec
import Derived.Test.YteihedfmmiihiaaGreatCodeBits
import Derived.Test.YteihedfmmiihiaaGreatCodeMem
import Derived.WalkKit
import Derived.BigQuiet
import Derived.Deep.QuietTactic
import Derived.WalkLawsBesides
namespace Go.Proofs.YteihedfmmiihiaaGreat
open Go.RowKit

/-- how a reader gives up: a panic of a fault -/
def faultV (at_ : Int) (e : Int) : Value := .iface 159 (.agg #[.int .i64 at_, .int .i64 e])
abbrev Falls (at_ : Int) (e : Int) : Ending := .panicked [{ v := faultV at_ e, recovered := false }]

theorem fail_any (w : World) (at_ e : Int) : Calls Tryz.prog 120 #[.int .i64 at_, .int .i64 e] w fun en w' => en = Falls at_ e ∧ w = w' := by
  go_enter Tryz.func120, Tryz.ntmps120
  go_wp2_with fail
  exact ⟨rfl, rfl, rfl⟩

def NextYes (w : World) (r : Nat) (A : Option Addr) (len cap : Nat) (l : List UInt8) (at_ : Nat) (c : UInt8) (e : Ending) (w' : World) : Prop :=
  e = .returned (.int .u8 c.toNat) ∧ Rd w' r A len cap l (at_ + 1) ∧ w.grownBy w' (some r)

set_option maxHeartbeats 800000 in
theorem next_yes (w : World) (r : Nat) (A : Option Addr) (len cap : Nat) (l : List UInt8) (at_ : Nat) (h : Rd w r A len cap l at_) (hlt : at_ < l.length) :
    Calls Tryz.prog 119 #[.pointer (some ⟨r, 0, none⟩)] w (NextYes w r A len cap l at_ (l[at_])) := by
  have hc0 := h.c0
  have hc1 := h.c1
  have hf1 := h.fz 1
  obtain ⟨ad, rfl, hlt2, hcell⟩ := h.bs.cell at_ hlt
  have hle := h.bs.le
  have hcap := h.cap_le
  unfold maxLen at hle
  have hne : ((at_ : Int) == (l.length : Int)) = false := by rw [beq_eq_false_iff_ne]; omega
  obtain rfl := h.bs.len
  go_enter Tryz.func119, Tryz.ntmps119
  go_wp2_with fail
  go_quiet (fail)
  go_wp2_with fail
  have h2 := (h.drewN nq).move (at_ + 1) (by omega)
  have hg : w.grownBy ((w.drewN nq).setCell ⟨r, 1, none⟩ (.int .i64 ((at_ + 1 : Nat) : Int))) (some r) := (grown_drewN (World.grownBy.refl w _) nq).trans (grown_setCell _ _ _ _)
  rw [show ((at_ + 1 : Nat) : Int) = (at_ : Int) + 1 from by omega] at h2 hg
  generalize (w.drewN nq).setCell ⟨r, 1, none⟩ (.int .i64 ((at_ : Int) + 1)) = w2 at h2 hg ⊢
  have hd0 := h2.c0
  have hd1 := h2.c1
  have hi : (((at_ + 1 : Nat) : Int) - 1) = (at_ : Int) := by omega
  obtain ⟨ad', e', hlt3, hcell2⟩ := h2.bs.cell at_ hlt
  obtain rfl : ad' = ad := Option.some.inj e'.symm
  go_quiet (fail)
  go_wp2_with fail
  go_ret
  exact ⟨rfl, h2.drewN _, grown_drewN hg _⟩

def NextNo (w : World) (r : Nat) (A : Option Addr) (len cap : Nat) (l : List UInt8) (e : Ending) (w' : World) : Prop :=
  e = Falls l.length 4 ∧ Rd w' r A len cap l l.length ∧ w.grownBy w' (some r)

set_option maxHeartbeats 800000 in
theorem next_no (w : World) (r : Nat) (A : Option Addr) (len cap : Nat) (l : List UInt8) (h : Rd w r A len cap l l.length) :
    Calls Tryz.prog 119 #[.pointer (some ⟨r, 0, none⟩)] w (NextNo w r A len cap l) := by
  have hc0 := h.c0
  have hc1 := h.c1
  have hne : ((l.length : Int) == (l.length : Int)) = true := by rw [beq_iff_eq]
  obtain rfl := h.bs.len
  go_enter Tryz.func119, Tryz.ntmps119
  go_wp2_with fail
  go_quiet (fail)
  go_wp2_with fail
  refine (fail_any _ _ _).mono ?_
  rintro e w' ⟨rfl, rfl⟩
  go_wp2_with fail
  exact ⟨rfl, rfl, h.drewN _, grown_drewN (World.grownBy.refl w _) _⟩

/-- what a reader's function does: what its plain word says -/
def Gives {α : Type} (w : World) (r : Nat) (A : Option Addr) (len cap : Nat) (l : List UInt8) (val : α → Value) (res : Except (Nat × Nat) (α × Nat)) (e : Ending) (w' : World) : Prop :=
  match res with
  | .ok (x, to) => e = .returned (val x) ∧ Rd w' r A len cap l to ∧ w.grownBy w' (some r)
  | .error (p, en) => e = Falls p en ∧ w.grownBy w' (some r)
theorem Gives.of_ok {α : Type} {w : World} {r : Nat} {A : Option Addr} {len cap : Nat} {l : List UInt8} {val : α → Value} {res : Except (Nat × Nat) (α × Nat)} {e : Ending} {w' : World} {x : α} {to : Nat}
    (h : Gives w r A len cap l val res e w') (hr : res = .ok (x, to)) : e = .returned (val x) ∧ Rd w' r A len cap l to ∧ w.grownBy w' (some r) := by rw [hr] at h; exact h
theorem Gives.of_error {α : Type} {w : World} {r : Nat} {A : Option Addr} {len cap : Nat} {l : List UInt8} {val : α → Value} {res : Except (Nat × Nat) (α × Nat)} {e : Ending} {w' : World} {p en : Nat}
    (h : Gives w r A len cap l val res e w') (hr : res = .error (p, en)) : e = Falls p en ∧ w.grownBy w' (some r) := by rw [hr] at h; exact h

def u64V (n : Nat) : Value := .int .u64 n

set_option maxRecDepth 20000 in
set_option maxHeartbeats 1600000 in
theorem number_any (w : World) (r : Nat) (A : Option Addr) (len cap : Nat) (l : List UInt8) (at_ : Nat) (h : Rd w r A len cap l at_) :
    Calls Tryz.prog 106 #[.pointer (some ⟨r, 0, none⟩)] w (Gives w r A len cap l u64V (Cd.rdUint l at_)) := by
  go_enter Tryz.func106, Tryz.ntmps106
  go_wp2_with fail
  go_loopw [3, 4, 5] (fun n i _ wr => ∃ (k m a : Nat), i = .int .i64 k ∧ n = .int .u64 m ∧ k ≤ 9 ∧ Hid (m < 2 ^ (7 * k)) ∧ Rd wr r A len cap l a ∧ w.grownBy wr (some r) ∧ Hid (Cd.rdUint l at_ = Cd.rdU l (10 - k) a k m)) (fun _ i _ _ => 10 - (intOf i).toNat)
  case atStart => exact ⟨0, 0, at_, rfl, rfl, by omega, (show 0 < 2 ^ (7 * 0) by decide), h, World.grownBy.refl _ _, rfl⟩
  case round =>
    obtain ⟨k, m, a, rfl, rfl, hk, HM, hR, hG, HE⟩ := hrel
    have hk0 : 0 ≤ 7 * (k : Int) := by omega
    have hk1 : 7 * (k : Int) ≤ 63 := by omega
    have hal : (a : Int) ≤ 9223372036854775807 := by have := hR.bs.le; have := hR.at_le; unfold maxLen at *; omega
    by_cases ha : a < l.length
    · by_cases hb : (l[a].toNat = 0 ∧ 0 < k) ∨ (k = 9 ∧ l[a].toNat ≠ 1)
      · have HX := Lib.hid (HE.out.trans (by rw [show 10 - k = (9 - k) + 1 from by omega, Cd.rdU_bad ha hb]))
        by_cases hz : l[a].toNat = 0
        · have t1 : ((l[a].toNat : Int) == 0) = true := by rw [beq_iff_eq]; omega
          have t2 : 0 < (k : Int) := by omega
          clear hb hz
          go_wp2_with fail
          refine (next_yes wr r A len cap l a hR ha).mono ?_
          rintro e w1 ⟨rfl, hR1, hG1⟩
          have hc1 := hR1.c1
          rw [show ((a + 1 : Nat) : Int) = (a : Int) + 1 from by omega] at hc1
          go_wp2_with fail
          refine (fail_any _ _ _).mono ?_
          rintro e w' ⟨rfl, rfl⟩
          go_wp2_with fail
          refine ⟨rfl, ?_⟩
          show Gives w r A len cap l u64V (Cd.rdUint l at_) _ _
          rw [HX.out]
          exact ⟨rfl, hG.trans hG1⟩
        · have t1 : ((l[a].toNat : Int) == 0) = false := by rw [beq_eq_false_iff_ne]; omega
          have t3 : ((k : Int) == 9) = true := by rw [beq_iff_eq]; omega
          have t4 : ((l[a].toNat : Int) != 1) = true := by rw [bne_iff_ne]; omega
          clear hb hz
          go_wp2_with fail
          refine (next_yes wr r A len cap l a hR ha).mono ?_
          rintro e w1 ⟨rfl, hR1, hG1⟩
          have hc1 := hR1.c1
          rw [show ((a + 1 : Nat) : Int) = (a : Int) + 1 from by omega] at hc1
          go_wp2_with fail
          refine (fail_any _ _ _).mono ?_
          rintro e w' ⟨rfl, rfl⟩
          go_wp2_with fail
          refine ⟨rfl, ?_⟩
          show Gives w r A len cap l u64V (Cd.rdUint l at_) _ _
          rw [HX.out]
          exact ⟨rfl, hG.trans hG1⟩
      · have HB := Lib.hid hb
        by_cases hk0' : k = 0
        · subst hk0'
          clear hb hk0 hk1
          have HV := Lib.hid (or_shift m l[a].toNat 0 HM.out (UInt8.toNat_lt _) hk (by omega))
          have HV' := Lib.hid (show bits .or .u64 (m : Int) (IntKind.u64.wrap (IntKind.u64.wrap (bits .and .u8 (l[a].toNat : Int) 127))) = ((m + l[a].toNat % 128 * 2 ^ (7 * 0) : Nat) : Int) by
            have := HV.out; simpa using this)
          by_cases hc : (l[a].toNat : Int) < 128
          all_goals
            have HC := Lib.hid hc
            by_cases hz : ((l[a].toNat : Int) == 0) = true
          all_goals
            go_wp2_with fail
            refine (next_yes wr r A len cap l a hR ha).mono ?_
            rintro e w1 ⟨rfl, hR1, hG1⟩
            go_wp2_with fail
          all_goals first
            | (go_ret
               have hc : l[a].toNat < 128 := by have := HC.out; omega
               show Gives w r A len cap l u64V (Cd.rdUint l at_) _ _
               rw [HE.out, show 10 - 0 = 9 + 1 from by omega, Cd.rdU_end ha HB.out hc]
               exact ⟨congrArg (fun x => Ending.returned (.int .u64 x)) HV'.out, hR1, hG.trans hG1⟩)
            | (have hc : ¬ l[a].toNat < 128 := by have := HC.out; omega
               refine ⟨⟨1, m + l[a].toNat % 128 * 2 ^ (7 * 0), a + 1, by go_num, congrArg (Value.int .u64) HV'.out, by omega, step_lt _ _ _ HM.out, hR1, hG.trans hG1, ?_⟩, by simp [intOf]⟩
               show Cd.rdUint l at_ = _
               rw [HE.out, show 10 - 0 = 9 + 1 from by omega, Cd.rdU_more ha HB.out hc])
            | trace_state
        · have tt : (((k : Int) == 9) = false ∧ ((l[a].toNat : Int) == 0) = false) ∨ (((k : Int) == 9) = true ∧ ((l[a].toNat : Int) == 0) = false ∧ ((l[a].toNat : Int) != 1) = false) := by
            simp only [beq_iff_eq, beq_eq_false_iff_ne, ne_eq, bne_eq_false_iff_eq]; omega
          clear hb hk0'
          rcases tt with ⟨t3, t1⟩ | ⟨t3, t1, t4⟩
          all_goals
            go_wp2_with fail
            refine (next_yes wr r A len cap l a hR ha).mono ?_
            rintro e w1 ⟨rfl, hR1, hG1⟩
            go_wp2_with fail
          all_goals first
            | (go_ret
               have hc : l[a].toNat < 128 := by omega
               have hv := or_shift m l[a].toNat k HM.out (UInt8.toNat_lt _) hk (by have := HB.out; omega)
               show Gives w r A len cap l u64V (Cd.rdUint l at_) _ _
               rw [HE.out, show 10 - k = (9 - k) + 1 from by omega, Cd.rdU_end ha HB.out hc]
               exact ⟨congrArg (fun x => Ending.returned (.int .u64 x)) hv, hR1, hG.trans hG1⟩)
            | (have hc : ¬ l[a].toNat < 128 := by omega
               have hk9 : k < 9 := by have := HB.out; omega
               have hv := or_shift m l[a].toNat k HM.out (UInt8.toNat_lt _) hk (by omega)
               refine ⟨⟨k + 1, m + l[a].toNat % 128 * 2 ^ (7 * k), a + 1, by go_num, congrArg (Value.int .u64) hv, by omega, step_lt _ _ _ HM.out, hR1, hG.trans hG1, ?_⟩, by simp [intOf]; omega⟩
               show Cd.rdUint l at_ = _
               rw [HE.out, show 10 - k = (9 - k) + 1 from by omega, Cd.rdU_more ha HB.out hc, show 10 - (k + 1) = 9 - k from by omega])
            | (exfalso; have h4 := ‹((l[a].toNat : Int) != 1) = false›; rw [bne_eq_false_iff_eq] at h4; omega)
    · have HX := Lib.hid (HE.out.trans (by rw [show 10 - k = (9 - k) + 1 from by omega, Cd.rdU_short ha]))
      obtain rfl : a = l.length := by have := hR.at_le; omega
      go_wp2_with fail
      refine (next_no wr r A len cap l hR).mono ?_
      rintro e w1 ⟨rfl, hR1, hG1⟩
      go_wp2_with fail
      refine ⟨rfl, ?_⟩
      show Gives w r A len cap l u64V (Cd.rdUint l at_) _ _
      rw [HX.out]
      exact ⟨rfl, hG.trans hG1⟩

def i64V (n : Int) : Value := .int .i64 n
def txtV (l : List UInt8) : Value := strV l

set_option maxRecDepth 20000 in
set_option maxHeartbeats 800000 in
theorem whole_any (w : World) (r : Nat) (A : Option Addr) (len cap : Nat) (l : List UInt8) (at_ : Nat) (h : Rd w r A len cap l at_) :
    Calls Tryz.prog 108 #[.pointer (some ⟨r, 0, none⟩)] w (Gives w r A len cap l i64V (Cd.rdInt l at_)) := by
  rcases hres : Cd.rdUint l at_ with ⟨p, en⟩ | ⟨x, to⟩
  · have HR := Lib.hid (show Cd.rdInt l at_ = .error (p, en) by simp [Cd.rdInt, hres])
    have HS := Lib.hid hres
    clear hres
    go_enter Tryz.func108, Tryz.ntmps108
    go_wp2_with fail
    refine (number_any w r A len cap l at_ h).mono ?_
    intro e w1 hg
    obtain ⟨rfl, hg1⟩ := hg.of_error HS.out
    go_wp2_with fail
    refine ⟨rfl, ?_⟩
    show Gives w r A len cap l i64V (Cd.rdInt l at_) _ _
    rw [HR.out]
    exact ⟨rfl, hg1⟩
  · have HR := Lib.hid (show Cd.rdInt l at_ = .ok (Cd.unzig x, to) by simp [Cd.rdInt, hres])
    have HV := Lib.hid (by have := unzig_bits x (Cd.rdUint_lt hres).1; rw [IntWalk.i64_left, IntWalk.i64_left, IntWalk.i64_left] at this; exact this : bits .xor .i64 (wrap64 ((x : Int) / 2)) (wrap64 (-(wrap64 (bits .and .u64 (x : Int) 1)))) = Cd.unzig x)
    have HS := Lib.hid hres
    clear hres
    go_enter Tryz.func108, Tryz.ntmps108
    go_wp2_with fail
    refine (number_any w r A len cap l at_ h).mono ?_
    intro e w1 hg
    obtain ⟨rfl, hR1, hg1⟩ := hg.of_ok HS.out
    unfold u64V
    go_wp2_with fail
    go_ret
    show Gives w r A len cap l i64V (Cd.rdInt l at_) _ _
    rw [HR.out]
    exact ⟨congrArg (fun x => Ending.returned (.int .i64 x)) HV.out, hR1, hg1⟩

set_option maxRecDepth 20000 in
set_option maxHeartbeats 800000 in
theorem bytes_no (w : World) (r : Nat) (A : Option Addr) (len cap : Nat) (l : List UInt8) (at_ n : Nat) (h : Rd w r A len cap l at_) (hn : ¬ n ≤ l.length - at_) :
    Calls Tryz.prog 111 #[.pointer (some ⟨r, 0, none⟩), .int .u64 n] w fun e w' => e = Falls l.length 4 ∧ w.grownBy w' (some r) := by
  have hc0 := h.c0
  have hc1 := h.c1
  have hle := h.bs.le
  unfold maxLen at hle
  have hat := h.at_le
  have e2 : IntKind.u64.wrap ((l.length : Int) - (at_ : Int)) = (l.length : Int) - (at_ : Int) := by rw [wrap_u64']; omega
  have hb : (l.length : Int) - (at_ : Int) < (n : Int) := by omega
  obtain rfl := h.bs.len
  clear hn
  go_enter Tryz.func111, Tryz.ntmps111
  go_wp2_with fail
  go_quiet (fail)
  go_wp2_with fail
  refine (fail_any _ _ _).mono ?_
  rintro e w' ⟨rfl, rfl⟩
  go_wp2_with fail
  exact ⟨rfl, rfl, grown_drewN (World.grownBy.refl w _) _⟩

def BytesYes (w : World) (r : Nat) (A : Option Addr) (len cap : Nat) (l : List UInt8) (at_ n : Nat) (e : Ending) (w' : World) : Prop :=
  e = .returned (strV ((l.drop at_).take n)) ∧ Rd w' r A len cap l (at_ + n) ∧ w.grownBy w' (some r)

set_option maxRecDepth 20000 in
set_option maxHeartbeats 800000 in
theorem bytes_yes (w : World) (r : Nat) (A : Option Addr) (len cap : Nat) (l : List UInt8) (at_ n : Nat) (h : Rd w r A len cap l at_) (hn : n ≤ l.length - at_) :
    Calls Tryz.prog 111 #[.pointer (some ⟨r, 0, none⟩), .int .u64 n] w (BytesYes w r A len cap l at_ n) := by
  have hc0 := h.c0
  have hc1 := h.c1
  have hf1 := h.fz 1
  have hle := h.bs.le
  have hcap := h.cap_le
  unfold maxLen at hle
  have hat := h.at_le
  have e2 : IntKind.u64.wrap ((l.length : Int) - (at_ : Int)) = (l.length : Int) - (at_ : Int) := by rw [wrap_u64']; omega
  have hb : ¬ (l.length : Int) - (at_ : Int) < (n : Int) := by omega
  have e3 : IntKind.i64.wrap (n : Int) = (n : Int) := wrap_i64' _ (by omega) (by omega)
  have b1 : (at_ : Int) + (n : Int) ≤ 9223372036854775807 := by omega
  have b2 : (0 : Int) ≤ (at_ : Int) + (n : Int) := by omega
  have hto : at_ + n ≤ l.length := by omega
  obtain rfl := h.bs.len
  clear hn
  go_enter Tryz.func111, Tryz.ntmps111
  go_wp2_with fail
  go_quiet (fail)
  go_wp2_with fail
  have h2 := (h.drewN nq).move (at_ + n) hto
  have hg : w.grownBy ((w.drewN nq).setCell ⟨r, 1, none⟩ (.int .i64 ((at_ + n : Nat) : Int))) (some r) := (grown_drewN (World.grownBy.refl w _) nq).trans (grown_setCell _ _ _ _)
  rw [show ((at_ + n : Nat) : Int) = (at_ : Int) + (n : Int) from by omega] at h2 hg
  generalize (w.drewN nq).setCell ⟨r, 1, none⟩ (.int .i64 ((at_ : Int) + (n : Int))) = w2 at h2 hg ⊢
  have hd0 := h2.c0
  have hd1 := h2.c1
  rw [show ((at_ + n : Nat) : Int) = (at_ : Int) + (n : Int) from by omega] at hd1
  have f1 : IntKind.i64.wrap ((at_ : Int) + (n : Int) - (n : Int)) = (at_ : Int) := by rw [wrap_i64' _ (by omega) (by omega)]; omega
  have f2 : ((at_ : Int) + (n : Int)).toNat = at_ + n := by omega
  have f3 : (at_ : Int) ≤ (at_ : Int) + (n : Int) := by omega
  have f4 : (at_ : Int) + (n : Int) ≤ (cap : Int) := by omega
  have hcv : ∀ k, (convert 30 9 (.slice (if cap = at_ then A else Option.map (fun x => x.add at_) A) n (cap - at_))).run Tryz.prog (w2.drewN k) = .ok (strV ((l.drop at_).take n)) (w2.drewN k) := by
    intro k
    have hb2 := ((h2.drewN k).bs).cut (A' := if cap = at_ then A else Option.map (fun x => x.add at_) A) at_ (at_ + n) (by omega) hto (fun ad hlt e => by rw [if_neg (by omega), e]; rfl)
    rw [show at_ + n - at_ = n from by omega] at hb2
    exact run_conv_bs hb2 _ _ 5 Tryz.underlying30 Tryz.underlying5 Tryz.underlying9 _
  clear e2 hb
  generalize hA' : (if cap = at_ then A else Option.map (fun x => x.add at_) A) = A' at hcv
  go_quiet (fail)
  go_wp2_with fail
  go_ret
  exact ⟨rfl, h2.drewN _, grown_drewN hg _⟩

theorem bytes_any (w : World) (r : Nat) (A : Option Addr) (len cap : Nat) (l : List UInt8) (at_ n : Nat) (h : Rd w r A len cap l at_) :
    Calls Tryz.prog 111 #[.pointer (some ⟨r, 0, none⟩), .int .u64 n] w (Gives w r A len cap l strV (Cd.rdBytes l n at_)) := by
  by_cases hn : n ≤ l.length - at_
  · refine (bytes_yes w r A len cap l at_ n h hn).mono fun e w' hg => ?_
    rw [Cd.rdBytes, if_pos hn]; exact hg
  · refine (bytes_no w r A len cap l at_ n h hn).mono fun e w' hg => ?_
    rw [Cd.rdBytes, if_neg hn]; exact hg
end Go.Proofs.YteihedfmmiihiaaGreat
