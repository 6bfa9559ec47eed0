/- A complex number read of sixteen bytes. -/
import Derived.Test.YticipdjfkpakpaaCodeRefs
import Derived.Test.YticipdjfkpakpaaFloatRefs
import Derived.BigRegion
import Derived.BigQuiet
import Derived.WalkSmall
import Derived.Deep.QuietTactic
namespace Go.Proofs.Yticipdjfkpakpaa
open Go.RowKit

/-- bytes as a number, the greatest first -/
def be (l : List UInt8) : Nat := l.foldl (fun n c => 256 * n + c.toNat) 0
theorem be_nil : be [] = 0 := rfl
theorem be_snoc (l : List UInt8) (c : UInt8) : be (l ++ [c]) = 256 * be l + c.toNat := by simp [be, List.foldl_append]
theorem be_lt : ∀ (n : Nat) (l : List UInt8), l.length ≤ n → be l < 256 ^ n := by
  intro n
  induction n with
  | zero => intro l h; have : l = [] := List.eq_nil_of_length_eq_zero (by omega); subst this; decide
  | succ n ih =>
    intro l h
    rcases List.eq_nil_or_concat l with rfl | ⟨l', c, rfl⟩
    · exact Nat.pow_pos (by omega)
    · rw [List.concat_eq_append, be_snoc]
      have h1 := ih l' (by simp at h; omega)
      have h2 := c.toNat_lt
      rw [Nat.pow_succ]
      omega
theorem be_lt8 (l : List UInt8) (h : l.length ≤ 8) : be l < 18446744073709551616 := be_lt 8 l h
theorem be_lt7 (l : List UInt8) (h : l.length ≤ 7) : be l < 72057594037927936 := be_lt 7 l h
/-- a complex number from a place on -/
def rdNum (l : List UInt8) (a : Nat) : Except (Nat × Nat) ((Nat × Nat) × Nat) :=
  if 16 ≤ l.length - a then
    if fine64 (be ((l.drop a).take 8)) && fine64 (be ((l.drop (a + 8)).take 8)) then .ok ((be ((l.drop a).take 8), be ((l.drop (a + 8)).take 8)), a + 16) else .error (a, 20)
  else .error (l.length, 4)
def numV (z : Nat × Nat) : Value := .complex .f64 z.1 z.2

theorem or8 (p : Nat) (c : Nat) (hp : p < 72057594037927936) (hc : c < 256) : bits .or .u64 (IntKind.u64.wrap ((p : Int) * 256)) (c : Int) = ((256 * p + c : Nat) : Int) := by
  rw [wrap_u64']
  have e : (p : Int) * 256 % 18446744073709551616 = ((2 ^ 8 * p : Nat) : Int) := by omega
  rw [e, u64_or_nat _ _ (by omega) (by omega), ← Nat.two_pow_add_eq_or_of_lt (i := 8) (by omega) p]

theorem or8w (p c : Nat) (hp : p < 72057594037927936) (hc : c < 256) : bits .or .u64 (IntKind.u64.wrap ((p : Int) * 256)) (IntKind.u64.wrap (c : Int)) = ((256 * p + c : Nat) : Int) := by
  have e : IntKind.u64.wrap (c : Int) = (c : Int) := by rw [wrap_u64']; omega
  rw [e]; exact or8 p c hp hc
theorem set0_row {w : World} {H : Nat} {a b v : Value} {t : TypeId} (h : w.heap[H]? = some (.cells #[a, b] t (0, 0))) : (w.setCell ⟨H, 0, none⟩ v).drew.heap[H]? = some (.cells #[v, b] t (0, 0)) := by
  show (w.setCell ⟨H, 0, none⟩ v).heap[H]? = _
  simp [World.setCell, Array.getElem?_modify, h]
theorem set1_row {w : World} {H : Nat} {a b v : Value} {t : TypeId} (h : w.heap[H]? = some (.cells #[a, b] t (0, 0))) : (w.setCell ⟨H, 1, none⟩ v).drew.heap[H]? = some (.cells #[a, v] t (0, 0)) := by
  show (w.setCell ⟨H, 1, none⟩ v).heap[H]? = _
  simp [World.setCell, Array.getElem?_modify, h]
theorem grown_drew {w w' : World} {row : Option Nat} (h : w.grownBy w' row) : w.grownBy w'.drew row := ⟨h.os, h.tape, h.output, h.size, h.block⟩
theorem Rd.below {w w' : World} {r : Nat} {A : Option Addr} {len cap : Nat} {l : List UInt8} {a : Nat} (h : Rd w r A len cap l a) (hb : Below w.heap.size w w') : Rd w' r A len cap l a :=
  ⟨(hb.block r h.lt).trans h.blk, h.bs.below hb, h.apart, h.at_le, h.cap_le⟩
theorem grown_of_below {w w' : World} (hb : Below w.heap.size w w') (row : Option Nat) : w.grownBy w' row := ⟨hb.os, hb.tape, hb.output, hb.size, fun k hk _ => hb.block k hk⟩
theorem below_own {w W wr : World} (h1 : w.grownBy W none) (h2 : W.grownBy wr (some w.heap.size)) : Below w.heap.size w wr :=
  ⟨h2.os.trans h1.os, h2.tape.trans h1.tape, h2.output.trans h1.output, Nat.le_trans h1.size h2.size, fun k hk =>
    (h2.block k (Nat.lt_of_lt_of_le hk h1.size) (fun e => by injection e with e; omega)).trans (h1.block k hk (by simp))⟩
/-- the two halves as so many of sixteen bytes are read -/
def half0 (s : List UInt8) (k : Nat) : Nat := be ((s.take 8).take k)
def half1 (s : List UInt8) (k : Nat) : Nat := be ((s.drop 8).take (k - 8))

theorem half0_step {s : List UInt8} {k : Nat} (hs : s.length = 16) (hk : k < 8) : half0 s (k + 1) = 256 * half0 s k + (s[k]'(by omega)).toNat := by
  unfold half0
  rw [← be_snoc]
  congr 1
  rw [List.take_succ_eq_append_getElem (by simp; omega)]
  simp
theorem half1_low {s : List UInt8} {k : Nat} (hk : k < 8) : half1 s (k + 1) = half1 s k := by
  unfold half1
  rw [show k + 1 - 8 = 0 from by omega, show k - 8 = 0 from by omega]
theorem half0_high {s : List UInt8} {k : Nat} (hk : 8 ≤ k) : half0 s (k + 1) = half0 s k := by
  unfold half0
  rw [List.take_take, List.take_take, show min (k + 1) 8 = 8 from by omega, show min k 8 = 8 from by omega]
theorem half1_step {s : List UInt8} {k : Nat} (hs : s.length = 16) (hk : 8 ≤ k) (hk2 : k < 16) : half1 s (k + 1) = 256 * half1 s k + (s[k]'(by omega)).toNat := by
  unfold half1
  rw [← be_snoc]
  congr 1
  rw [show k + 1 - 8 = (k - 8) + 1 from by omega, List.take_succ_eq_append_getElem (by simp; omega)]
  simp [show 8 + (k - 8) = k from by omega]

theorem half0_all {l s : List UInt8} {a : Nat} (hs : (l.drop a).take 16 = s) : half0 s 16 = be ((l.drop a).take 8) := by
  subst hs
  unfold half0
  rw [List.take_take, List.take_take]
  congr 1
theorem half1_all {l s : List UInt8} {a : Nat} (hs : (l.drop a).take 16 = s) : half1 s 16 = be ((l.drop (a + 8)).take 8) := by
  subst hs
  unfold half1
  rw [List.drop_take, List.drop_drop, List.take_take]
  congr 1
set_option maxRecDepth 20000 in
set_option maxHeartbeats 1600000 in
theorem num_any (w : World) (r : Nat) (A : Option Addr) (len cap : Nat) (l : List UInt8) (at_ : Nat) (h : Rd w r A len cap l at_) :
    Calls Try.prog 83 #[.pointer (some ⟨r, 0, none⟩)] w (Gives w r A len cap l numV (rdNum l at_)) := by
  have hc1 := h.c1
  by_cases hn : 16 ≤ l.length - at_
  · have HS := Lib.hid (show Cd.rdBytes l 16 at_ = .ok ((l.drop at_).take 16, at_ + 16) by rw [Cd.rdBytes, if_pos hn])
    have hsl : ((l.drop at_).take 16).length = 16 := by simp; omega
    go_enter Try.func83, Try.ntmps83
    go_wp2_with fail
    refine (bytes_any w r A len cap l at_ 16 h).mono ?_
    intro e w1 hg
    obtain ⟨rfl, hR1, hg1⟩ := hg.of_ok HS.out
    unfold strV
    generalize hs : (l.drop at_).take 16 = s at hsl ⊢
    go_wp2_with fail
    have hblk : (w1.alloc (.cells #[.int .u64 0, .int .u64 0] 136)).heap[w1.heap.size]? = some (.cells #[.int .u64 ((half0 s 0 : Nat) : Int), .int .u64 ((half1 s 0 : Nat) : Int)] 136 (0, 0)) := heap_alloc_new w1 _
    have HG := Lib.hid (World.grownBy_alloc w1 (.cells #[.int .u64 0, .int .u64 0] 136) none)
    generalize w1.alloc (.cells #[.int .u64 0, .int .u64 0] 136) = W at hblk HG ⊢
    have HB := Lib.hid hblk
    clear hblk hc1
    go_loopw [6, 14] (fun _ i wr => ∃ k : Nat, k ≤ 16 ∧ i = .int .i64 k ∧ Hid (wr.heap[w1.heap.size]? = some (.cells #[.int .u64 ((half0 s k : Nat) : Int), .int .u64 ((half1 s k : Nat) : Int)] 136 (0, 0))) ∧ Hid (W.grownBy wr (some w1.heap.size))) (fun _ i _ => 16 - (intOf i).toNat)
    case atStart => exact ⟨0, by omega, rfl, HB, World.grownBy.refl _ _⟩
    case round =>
      obtain ⟨k, hk, rfl, HK, HW⟩ := hrel
      have c0 : wr.cell? ⟨w1.heap.size, 0, none⟩ = some (.int .u64 ((half0 s k : Nat) : Int)) := by rw [cell_of_row _ _ _ _ _ _ HK.out]; rfl
      have c1 : wr.cell? ⟨w1.heap.size, 1, none⟩ = some (.int .u64 ((half1 s k : Nat) : Int)) := by rw [cell_of_row _ _ _ _ _ _ HK.out]; rfl
      have z0 : wr.frozen? ⟨w1.heap.size, 0, none⟩ = false := by have := HK.out; simp [World.frozen?, this]
      have z1 : wr.frozen? ⟨w1.heap.size, 1, none⟩ = false := by have := HK.out; simp [World.frozen?, this]
      by_cases hlt : k < 16
      · have hsk : k < s.length := by omega
        by_cases h8 : k < 8
        · have q1 : (k : Int) / 8 = 0 := by omega
          have q2 : (k : Int).tdiv 8 = 0 := by rw [Int.tdiv_eq_ediv_of_nonneg (by omega)]; omega
          have hv := or8w (half0 s k) s[k].toNat (be_lt7 _ (by simp; omega)) (UInt8.toNat_lt _)
          rw [← half0_step hsl h8] at hv
          have HV := Lib.hid hv
          clear hv
          go_wp2_with fail
          go_region
          go_wp2_with fail
          go_roundw
          case rel =>
            refine ⟨k + 1, by omega, by go_num, ?_, grown_drew (HW.out.trans (grown_setCell _ _ _ _))⟩
            have e := set0_row (v := .int .u64 ((half0 s (k + 1) : Nat) : Int)) HK.out
            rw [← half1_low h8] at e
            rw [← HV.out] at e ⊢
            exact e
          case measure => simp [intOf]; omega
        · have q1 : (k : Int) / 8 = 1 := by omega
          have q2 : (k : Int).tdiv 8 = 1 := by rw [Int.tdiv_eq_ediv_of_nonneg (by omega)]; omega
          have hv := or8w (half1 s k) s[k].toNat (be_lt7 _ (by simp; omega)) (UInt8.toNat_lt _)
          rw [← half1_step hsl (by omega) hlt] at hv
          have HV := Lib.hid hv
          clear hv
          go_wp2_with fail
          go_region
          go_wp2_with fail
          go_roundw
          case rel =>
            refine ⟨k + 1, by omega, by go_num, ?_, grown_drew (HW.out.trans (grown_setCell _ _ _ _))⟩
            have e := set1_row (v := .int .u64 ((half1 s (k + 1) : Nat) : Int)) HK.out
            rw [← half0_high (by omega)] at e
            rw [← HV.out] at e ⊢
            exact e
          case measure => simp [intOf]; omega
      · obtain rfl : k = 16 := by omega
        have hb1 : ∀ w, (callFunc 85 #[.int .u64 ((half0 s 16 : Nat) : Int)]).run Try.prog w = .ok (.value (.float .f64 (half0 s 16))) w := fun w => bits_out w
        have hb2 : ∀ w, (callFunc 85 #[.int .u64 ((half1 s 16 : Nat) : Int)]).run Try.prog w = .ok (.value (.float .f64 (half1 s 16))) w := fun w => bits_out w
        go_wp2_with fail
        go_quiet (fail)
        go_wp2_with fail
        have hbe := below_own HG.out HW.out
        have hR2 := hR1.below hbe
        have hg2 := hg1.trans (grown_of_below hbe (some r))
        have e0 := half0_all hs
        have e1 := half1_all hs
        rw [e0, e1]
        refine (fine_any _ _ (be_lt8 _ (by simp; omega)) (be_lt8 _ (by simp; omega)) _).mono ?_
        rintro e w2 ⟨rfl, n2, rfl⟩
        clear e0 e1 hb1 hb2 c0 c1 z0 z1
        rcases hf : (fine64 (be ((l.drop at_).take 8)) && fine64 (be ((l.drop (at_ + 8)).take 8))) with _ | _
        · have HR := Lib.hid (show rdNum l at_ = .error (at_, 20) by rw [rdNum, if_pos hn, hf]; rfl)
          clear hf
          go_wp2_with fail
          refine (fail_any _ _ _).mono ?_
          rintro e w3 ⟨rfl, rfl⟩
          go_wp2_with fail
          refine ⟨rfl, ?_⟩
          show Gives w r A len cap l numV (rdNum l at_) _ _
          rw [HR.out]
          exact ⟨rfl, grown_drewN hg2 _⟩
        · have HR := Lib.hid (show rdNum l at_ = .ok ((be ((l.drop at_).take 8), be ((l.drop (at_ + 8)).take 8)), at_ + 16) by rw [rdNum, if_pos hn, hf]; rfl)
          clear hf
          go_wp2_with fail
          go_ret
          show Gives w r A len cap l numV (rdNum l at_) _ _
          rw [HR.out]
          exact ⟨rfl, hR2.drewN _, grown_drewN hg2 _⟩
  · have HS := Lib.hid (show Cd.rdBytes l 16 at_ = .error (l.length, 4) by rw [Cd.rdBytes, if_neg hn])
    have HR := Lib.hid (show rdNum l at_ = .error (l.length, 4) by rw [rdNum, if_neg hn])
    clear hn
    go_enter Try.func83, Try.ntmps83
    go_wp2_with fail
    refine (bytes_any w r A len cap l at_ 16 h).mono ?_
    intro e w1 hg
    obtain ⟨rfl, hg1⟩ := hg.of_error HS.out
    go_wp2_with fail
    refine ⟨rfl, ?_⟩
    show Gives w r A len cap l numV (rdNum l at_) _ _
    rw [HR.out]
    exact ⟨rfl, hg1⟩
end Go.Proofs.Yticipdjfkpakpaa
