/- CodeFree: the walk. -/
import Derived.Test.YtgplmipdjehkmaaCodeFree
import Derived.Test.YtgplmipdjehkmaaCodeLaws
namespace Go.Proofs.Ytgplmipdjehkmaa
open Go.RowKit

theorem bgn_uB {a b : Nat} (ha : a < 18446744073709551616) (hb : b < 18446744073709551616) : bgn (Cd.uB a) (Cd.uB b) = ((a : Int) == (b : Int)) := by
  unfold bgn
  rw [Bool.eq_iff_iff, decide_eq_true_iff, Cd.begins_uB ha hb, beq_iff_eq]
  omega
theorem bgn_zig {i k : Int} (ha : Cd.zig i < 18446744073709551616) (hb : Cd.zig k < 18446744073709551616) : bgn (Cd.uB (Cd.zig i)) (Cd.uB (Cd.zig k)) = (i == k) := by
  unfold bgn
  rw [Bool.eq_iff_iff, decide_eq_true_iff, Cd.begins_uB ha hb, beq_iff_eq]
  exact ⟨Cd.zig_inj, fun h => by rw [h]⟩

/-- the facts on numbers that the walk uses, behind one name -/
structure FreeNums (a b : Nat) (i k : Int) : Prop where
  ha : a < 18446744073709551616
  hb : b < 18446744073709551616
  i1 : -9223372036854775808 ≤ i
  i2 : i ≤ 9223372036854775807
  k1 : -9223372036854775808 ≤ k
  k2 : k ≤ 9223372036854775807
theorem FreeNums.zi {a b : Nat} {i k : Int} (h : FreeNums a b i k) : Cd.zig i < 18446744073709551616 := zig_lt i h.i1 h.i2
theorem FreeNums.zk {a b : Nat} {i k : Int} (h : FreeNums a b i k) : Cd.zig k < 18446744073709551616 := zig_lt k h.k1 h.k2

theorem mono_below {w w1 w2 : World} (h : Below w.heap.size w w1) (k : Below w1.heap.size w1 w2) : Below w.heap.size w w2 := h.trans (k.mono h.size)

set_option maxRecDepth 20000 in
set_option maxHeartbeats 1600000 in
theorem free_walk (a b : Nat) (i k : Int) (s t : ByteArray) (hn : FreeNums a b i k) (w : World)
    (hab : (decide (a ≤ b) = true ∧ ¬ ((Cd.uB b).length : Int) < ((Cd.uB a).length : Int)) ∨ decide (a ≤ b) = false) (hst : 20000 < (s.size : Int) ∨ (¬ 20000 < (s.size : Int) ∧ 20000 < (t.size : Int))) :
    Calls Try.prog 5 #[.int .u64 a, .int .u64 b, .int .i64 i, .int .i64 k, .string s, .string t] w fun e w' => e = .returned (.bool true) ∧ Below w.heap.size w w' := by
  have T1 := Lib.hid (bgn_uB hn.ha hn.hb)
  have T2 := Lib.hid (bgn_zig hn.zi hn.zk)
  have hN := Lib.hid hn
  clear hn
  go_enter Try.func5, Try.ntmps5
  go_wp2_with fail
  refine (awake_any _).mono ?_
  rintro e w1 ⟨rfl, B1⟩
  go_wp2_with fail
  refine (putUint_any w1 a hN.out.ha).mono ?_
  rintro e w2 hm
  obtain ⟨Ax, cx, rfl, hx2, B2'⟩ := hm.bs
  have B2 := mono_below B1 B2'
  clear hm B1
  go_wp2_with fail
  refine (putUint_any w2 b hN.out.hb).mono ?_
  rintro e w3 hm
  obtain ⟨Ay, cy, rfl, hy3, B3'⟩ := hm.bs
  have B3 := mono_below B2 B3'
  have hx3 := hx2.below B3'
  clear hm B2 hx2 B2' B3'
  go_wp2_with fail
  refine (begins_any w3 _ _ _ _ _ _ _ _ hx3 hy3).mono ?_
  rintro e w4 ⟨rfl, B4'⟩
  rw [T1.out]
  have B4 := mono_below B3 B4'
  clear B3 B4' hx3 hy3
  have P : ∀ W : World, Calls Try.prog 28 #[.int .i64 i] W (Made W (Cd.uB (Cd.zig i))) := fun W => putInt_any W i hN.out.i1 hN.out.i2
  have HP := Lib.hid P
  have HQ := Lib.hid (fun W : World => putInt_any W k hN.out.k1 hN.out.k2)
  have HR := Lib.hid (show Cd.rdInt (Cd.uB (Cd.zig i)) 0 = .ok (i, (Cd.uB (Cd.zig i)).length) by have := Cd.rdInt_wrote i hN.out.zi []; rwa [List.append_nil] at this)
  have hpos : (1 : Int) ≤ ((Cd.uB (Cd.zig i)).length : Int) := by have := Cd.uB_pos (Cd.zig i); omega
  clear P
  rcases hab with ⟨hab, hle⟩ | hab
  all_goals
    go_wp2_with fail
    refine (HP.out w4).mono ?_
    rintro e w5 hm
    obtain ⟨Ai, ci, rfl, hi5, B5'⟩ := hm.bs
    have B5 := mono_below B4 B5'
    clear hm B4 B5'
    go_wp2_with fail
    refine (HQ.out w5).mono ?_
    rintro e w6 hm
    obtain ⟨Ak, ck, rfl, hk6, B6'⟩ := hm.bs
    have B6 := mono_below B5 B6'
    have hi6 := hi5.below B6'
    clear hm B5 B6' hi5
    go_wp2_with fail
    refine (begins_any w6 _ _ _ _ _ _ _ _ hi6 hk6).mono ?_
    rintro e w7 ⟨rfl, B7'⟩
    rw [T2.out]
    have B7 := mono_below B6 B7'
    clear B6 B7' hi6 hk6
    go_wp2_with fail
    refine (HP.out w7).mono ?_
    rintro e w8 hm
    obtain ⟨Ai2, ci2, rfl, hi8, B8'⟩ := hm.bs
    have B8 := mono_below B7 B8'
    clear hm B7 B8'
    go_wp2_with fail
    refine (readInt_any w8 _ _ _ _ hi8).mono ?_
    rintro e w9 ⟨he, B9'⟩
    rw [HR.out] at he
    obtain rfl := he
    have B9 := mono_below B8 B9'
    clear B8 B9' hi8
    unfold i64V
    rcases hst with hs | ⟨hs, ht⟩
    all_goals
      go_wp2_with fail
      go_ret
      exact ⟨rfl, B9⟩

theorem strV_data (s : ByteArray) : strV s.data.toList = .string s := by cases s; rfl
theorem len_lt {s : ByteArray} (h : (s.size : Int) ≤ 20000) : s.data.toList.length < 18446744073709551616 := by
  have : s.data.toList.length = s.size := rfl
  omega
theorem bgn_text {s t : ByteArray} (hs : s.data.toList.length < 18446744073709551616) (ht : t.data.toList.length < 18446744073709551616) : bgn (Cd.textB s.data.toList) (Cd.textB t.data.toList) = (s.toList == t.toList) := by
  unfold bgn
  rw [Bool.eq_iff_iff, decide_eq_true_iff, Cd.begins_textB hs ht, beq_iff_eq, ByteArray.toList_eq, ByteArray.toList_eq]
theorem textB_long (s : ByteArray) : (s.size : Int) < ((Cd.textB s.data.toList).length : Int) := by
  have h := Cd.uB_pos s.data.toList.length
  have : s.data.toList.length = s.size := rfl
  simp only [Cd.textB, List.length_append]
  omega

set_option maxRecDepth 20000 in
set_option maxHeartbeats 1600000 in
theorem free_walk3 (a b : Nat) (i k : Int) (s t : ByteArray) (hn : FreeNums a b i k) (w : World)
    (hab : (decide (a ≤ b) = true ∧ ¬ ((Cd.uB b).length : Int) < ((Cd.uB a).length : Int)) ∨ decide (a ≤ b) = false) (hs : (s.size : Int) ≤ 20000) (ht : (t.size : Int) ≤ 20000) :
    Calls Try.prog 5 #[.int .u64 a, .int .u64 b, .int .i64 i, .int .i64 k, .string s, .string t] w fun e w' => e = .returned (.bool true) ∧ Below w.heap.size w w' := by
  have T1 := Lib.hid (bgn_uB hn.ha hn.hb)
  have T2 := Lib.hid (bgn_zig hn.zi hn.zk)
  have hN := Lib.hid hn
  clear hn
  go_enter Try.func5, Try.ntmps5
  go_wp2_with fail
  refine (awake_any _).mono ?_
  rintro e w1 ⟨rfl, B1⟩
  go_wp2_with fail
  refine (putUint_any w1 a hN.out.ha).mono ?_
  rintro e w2 hm
  obtain ⟨Ax, cx, rfl, hx2, B2'⟩ := hm.bs
  have B2 := mono_below B1 B2'
  clear hm B1
  go_wp2_with fail
  refine (putUint_any w2 b hN.out.hb).mono ?_
  rintro e w3 hm
  obtain ⟨Ay, cy, rfl, hy3, B3'⟩ := hm.bs
  have B3 := mono_below B2 B3'
  have hx3 := hx2.below B3'
  clear hm B2 hx2 B2' B3'
  go_wp2_with fail
  refine (begins_any w3 _ _ _ _ _ _ _ _ hx3 hy3).mono ?_
  rintro e w4 ⟨rfl, B4'⟩
  rw [T1.out]
  have B4 := mono_below B3 B4'
  clear B3 B4' hx3 hy3
  have P : ∀ W : World, Calls Try.prog 28 #[.int .i64 i] W (Made W (Cd.uB (Cd.zig i))) := fun W => putInt_any W i hN.out.i1 hN.out.i2
  have HP := Lib.hid P
  have HQ := Lib.hid (fun W : World => putInt_any W k hN.out.k1 hN.out.k2)
  have HR := Lib.hid (show Cd.rdInt (Cd.uB (Cd.zig i)) 0 = .ok (i, (Cd.uB (Cd.zig i)).length) by have := Cd.rdInt_wrote i hN.out.zi []; rwa [List.append_nil] at this)
  have hpos : (1 : Int) ≤ ((Cd.uB (Cd.zig i)).length : Int) := by have := Cd.uB_pos (Cd.zig i); omega
  have HU := Lib.hid (fun W : World => putText_any W s (by omega))
  have HV := Lib.hid (fun W : World => putText_any W t (by omega))
  have HX := Lib.hid (show Cd.rdText (Cd.textB s.data.toList) 0 = .ok (s.data.toList, (Cd.textB s.data.toList).length) by have := Cd.rdText_wrote s.data.toList (len_lt hs) []; rwa [List.append_nil] at this)
  have HT := Lib.hid (show (bgn (Cd.textB s.data.toList) (Cd.textB t.data.toList) == (s.toList == t.toList)) = true by rw [bgn_text (len_lt hs) (len_lt ht), beq_self_eq_true])
  have hlen : (s.size : Int) < ((Cd.textB s.data.toList).length : Int) := textB_long s
  clear P
  rcases hab with ⟨hab, hle⟩ | hab
  all_goals
    go_wp2_with fail
    refine (HP.out w4).mono ?_
    rintro e w5 hm
    obtain ⟨Ai, ci, rfl, hi5, B5'⟩ := hm.bs
    have B5 := mono_below B4 B5'
    clear hm B4 B5'
    go_wp2_with fail
    refine (HQ.out w5).mono ?_
    rintro e w6 hm
    obtain ⟨Ak, ck, rfl, hk6, B6'⟩ := hm.bs
    have B6 := mono_below B5 B6'
    have hi6 := hi5.below B6'
    clear hm B5 B6' hi5
    go_wp2_with fail
    refine (begins_any w6 _ _ _ _ _ _ _ _ hi6 hk6).mono ?_
    rintro e w7 ⟨rfl, B7'⟩
    rw [T2.out]
    have B7 := mono_below B6 B7'
    clear B6 B7' hi6 hk6
    go_wp2_with fail
    refine (HP.out w7).mono ?_
    rintro e w8 hm
    obtain ⟨Ai2, ci2, rfl, hi8, B8'⟩ := hm.bs
    have B8 := mono_below B7 B8'
    clear hm B7 B8'
    go_wp2_with fail
    refine (readInt_any w8 _ _ _ _ hi8).mono ?_
    rintro e w9 ⟨he, B9'⟩
    rw [HR.out] at he
    obtain rfl := he
    have B9 := mono_below B8 B9'
    clear B8 B9' hi8
    unfold i64V
    go_wp2_with fail
    refine (HU.out w9).mono ?_
    rintro e w10 hm
    obtain ⟨As, cs, rfl, hs10, B10'⟩ := hm.bs
    have B10 := mono_below B9 B10'
    clear hm B9 B10'
    go_wp2_with fail
    refine (readText_any w10 _ _ _ _ hs10).mono ?_
    rintro e w11 ⟨he, B11'⟩
    rw [HX.out] at he
    simp only [] at he
    rw [strV_data] at he
    obtain rfl := he
    have B11 := mono_below B10 B11'
    clear B10 B11' hs10
    go_wp2_with fail
    refine (HU.out w11).mono ?_
    rintro e w12 hm
    obtain ⟨As2, cs2, rfl, hs12, B12'⟩ := hm.bs
    have B12 := mono_below B11 B12'
    clear hm B11 B12'
    go_wp2_with fail
    refine (HV.out w12).mono ?_
    rintro e w13 hm
    obtain ⟨At, ct, rfl, ht13, B13'⟩ := hm.bs
    have B13 := mono_below B12 B13'
    have hs13 := hs12.below B13'
    clear hm B12 B13' hs12
    go_wp2_with fail
    refine (begins_any w13 _ _ _ _ _ _ _ _ hs13 ht13).mono ?_
    rintro e w14 ⟨rfl, B14'⟩
    have B14 := mono_below B13 B14'
    clear B13 B14' hs13 ht13
    go_wp2_with fail
    go_ret
    exact ⟨congrArg (fun x => Ending.returned (.bool x)) HT.out, B14⟩


theorem free_any (a b : Nat) (i k : Int) (s t : ByteArray) (hn : FreeNums a b i k) (w : World) :
    Calls Try.prog 5 #[.int .u64 a, .int .u64 b, .int .i64 i, .int .i64 k, .string s, .string t] w fun e w' => e = .returned (.bool true) ∧ Below w.heap.size w w' := by
  have hab : (decide (a ≤ b) = true ∧ ¬ ((Cd.uB b).length : Int) < ((Cd.uB a).length : Int)) ∨ decide (a ≤ b) = false := by
    by_cases h : a ≤ b
    · exact .inl ⟨decide_eq_true h, by have := Cd.uB_mono b a h; omega⟩
    · exact .inr (decide_eq_false h)
  by_cases hs : (s.size : Int) ≤ 20000
  · by_cases ht : (t.size : Int) ≤ 20000
    · exact free_walk3 a b i k s t hn w hab hs ht
    · exact free_walk a b i k s t hn w hab (.inr ⟨by omega, by omega⟩)
  · exact free_walk a b i k s t hn w hab (.inl (by omega))

end Go.Proofs.Ytgplmipdjehkmaa
