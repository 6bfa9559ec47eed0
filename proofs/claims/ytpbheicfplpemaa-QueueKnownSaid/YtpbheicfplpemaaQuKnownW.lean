/- QueueKnown: the walk. -/
import Derived.Test.YtpbheicfplpemaaQuKnown
namespace Go.Proofs.Ytpbheicfplpemaa
open Go.RowKit

theorem rdK1 : rdNum kL 0 = .ok (2, 1) := by simp [rdNum, Cd.rdUint, Cd.rdU, kL]
theorem rdK2 : Cd.rdInt kL 1 = .ok (0, 2) := by simp [Cd.rdInt, Cd.rdUint, Cd.rdU, Cd.unzig, kL]
theorem rdK3 : rdNum kL 2 = .ok (1, 3) := by simp [rdNum, Cd.rdUint, Cd.rdU, kL]
theorem rdK4 : rdCnt kL 3 = .ok (0, 4) := by simp [rdCnt, rdNum, Cd.rdUint, Cd.rdU, kL]
theorem rdK5 : rdCnt kL 4 = .ok (0, kL.length) := by simp [rdCnt, rdNum, Cd.rdUint, Cd.rdU, kL]
theorem kMade {w w' : World} {e : Ending} (h : Made w kL e w') : ∃ A cap, e = .returned (.slice A 5 cap) ∧ In w' A 5 cap kL ∧ Below w.heap.size w w' := h.bs
theorem kLstr : strV kL = .string ⟨#[2, 0, 1, 0, 0]⟩ := rfl
set_option maxRecDepth 20000 in
set_option maxHeartbeats 16000000 in
theorem known_any (w : World) : Calls Try.prog 7 #[] w fun e w' => e = .returned (.bool true) ∧ Below w.heap.size w w' := by
  go_enter Try.func7, Try.ntmps7
  go_upto_region 2 with (go_at_call 9; refine (newB _ 0 0 (by omega)).mono ?_; rintro e w' ⟨rfl, rfl⟩)
  go_upto_region 3 with (go_at_call 9; refine (newB _ 4097 0 (by omega)).mono ?_; rintro e w' ⟨rfl, rfl⟩)
  go_upto_region 4 with (go_at_call 9; refine (newB _ 1 (-1) (by omega)).mono ?_; rintro e w' ⟨rfl, rfl⟩)
  have HN := Lib.hid (newQ w' 3 10 (by omega) (by omega) (by omega))
  go_upto_region 7 with (go_at_call 9; refine HN.out.mono ?_; rintro e w1 ⟨q, O, T, rfl, s1, l1, b1⟩; have A1 := Lib.hid (OA.mk s1 l1 b1); clear s1 l1 b1)
  have HC := Lib.hid (putQ w1 q 3 10 1 _ _ O T _ _ A1.out.st ⟨#[97]⟩ ⟨#[]⟩ 0 rfl (by simp) (by simp))
  clear HN
  go_upto_region 8 with (go_at_call 10; refine HC.out.mono ?_; rintro e w2 ⟨rfl, wv2, s2, n2, t2⟩; have A2 := Lib.hid (A1.out.move s2 n2 t2); clear s2 n2 t2)
  clear HC
  have HC := Lib.hid (putQ w2 q 3 10 1 _ _ O T _ _ A2.out.st ⟨#[98]⟩ ⟨#[119]⟩ 0 (by simp [updS]) (by simp) (by simp))
  go_upto_region 9 with (go_at_call 10; refine HC.out.mono ?_; rintro e w3 ⟨rfl, wv3, s3, n3, t3⟩; have A3 := Lib.hid (A2.out.move s3 n3 t3); clear s3 n3 t3)
  clear HC
  have HC := Lib.hid (putT w3 q 3 10 1 _ _ O T _ _ A3.out.st ⟨#[97]⟩ ⟨#[]⟩ 5 0 (by simp [updS]))
  go_upto_region 10 with (go_at_call 10; refine HC.out.mono ?_; rintro e w4 ⟨rfl, b4⟩; have A4 := Lib.hid (A3.out.same (A3.out.st.bel b4) (.of_below b4)); clear b4)
  clear HC
  have HC := Lib.hid (putQ w4 q 3 10 1 _ _ O T _ _ A4.out.st ⟨#[99]⟩ ⟨#[]⟩ 7 (by simp [updS]) (by simp) (by simp))
  go_upto_region 11 with (go_at_call 10; refine HC.out.mono ?_; rintro e w5 ⟨rfl, wv5, s5, n5, t5⟩; have A5 := Lib.hid (A4.out.move s5 n5 t5); clear s5 n5 t5)
  clear HC
  have HC := Lib.hid (putF w5 q 3 10 1 _ _ O T _ _ A5.out.st ⟨#[100]⟩ ⟨#[]⟩ 0 (by simp [updS]) (by simp))
  go_upto_region 14 with (go_at_call 10; refine HC.out.mono ?_; rintro e w6 ⟨rfl, b6⟩; have A6 := Lib.hid (show OA w' w6 q 3 10 1 wv5 [tA, tB, tC] O T _ _ from A5.out.same (A5.out.st.bel b6) (.of_below b6)); clear b6)
  clear HC
  have HC := Lib.hid (pollHead w6 q 3 10 1 _ tA [tB, tC] O T _ _ A6.out.st ⟨#[118]⟩ 0 5 (by omega) (by omega) (by omega) (by omega) (by intro t ht; simp at ht; rcases ht with rfl | rfl | rfl <;> constructor <;> simp [tA, tB, tC]) (by intro t ht; simp at ht; rcases ht with rfl | rfl | rfl <;> simp [tA, tB, tC]) for1)
  go_upto_region 15 with (go_at_call 12; refine HC.out.mono ?_; rintro e w7 ⟨wv7, he, s7, n7, t7⟩; obtain rfl : e = .returned (.tuple #[.string ⟨#[97]⟩, .int .i64 1, .int .i64 1, .int .i64 0]) := he; have A7 := Lib.hid (A6.out.move s7 n7 t7); clear s7 n7 t7)
  clear HC
  have HC := Lib.hid (pollZ w7 q 3 10 2 _ _ O T _ _ A7.out.st ⟨#[118]⟩ 0 5 (by omega) (by omega) (by omega) (by omega) (by intro t ht; simp at ht; rcases ht with rfl | rfl <;> constructor <;> simp [tB, tC]) (by intro t ht; simp at ht; rcases ht with rfl | rfl <;> simp [tB, tC]) for2)
  go_upto_region 16 with (go_at_call 12; refine HC.out.mono ?_; rintro e w8 ⟨rfl, b8⟩; have A8 := Lib.hid (A7.out.same (A7.out.st.bel b8) (.of_below b8)); clear b8)
  clear HC
  have HC := Lib.hid (pollHead w8 q 3 10 2 _ tB [tC] O T _ _ A8.out.st ⟨#[119]⟩ 0 5 (by omega) (by omega) (by omega) (by omega) (by intro t ht; simp at ht; rcases ht with rfl | rfl <;> constructor <;> simp [tB, tC]) (by intro t ht; simp at ht; rcases ht with rfl | rfl <;> simp [tB, tC]) for3)
  go_upto_region 17 with (go_at_call 12; refine HC.out.mono ?_; rintro e w9 ⟨wv9, he, s9, n9, t9⟩; obtain rfl : e = .returned (.tuple #[.string ⟨#[98]⟩, .int .i64 2, .int .i64 1, .int .i64 0]) := he; have A9 := Lib.hid (A8.out.move s9 n9 t9); clear s9 n9 t9)
  clear HC
  have HC := Lib.hid (pollA w9 q 3 10 _ _ _ O T _ _ A9.out.st ⟨#[118]⟩ 9 0 (by omega))
  go_upto_region 20 with (go_at_call 12; refine HC.out.mono ?_; rintro e w10 ⟨rfl, b10⟩; have A10 := Lib.hid (A9.out.same (A9.out.st.bel b10) (.of_below b10)); clear b10)
  clear HC
  have HC := Lib.hid (back1 w10 q 3 10 3 _ [tC] O T _ _ A10.out.st 2 8 ⟨{ tB with att := tB.att + 1 }, 2, ⟨#[119]⟩, addI 0 5⟩ (if_pos rfl) (by simp))
  go_upto_region 21 with (go_at_call 13; refine HC.out.mono ?_; rintro e w11 ⟨he, wv11, s11, n11, t11⟩; obtain rfl : e = .returned (.tuple #[.string ⟨#[98]⟩, .int .i64 1, .int .i64 0]) := he; have A11 := Lib.hid (A10.out.move s11 n11 t11); clear s11 n11 t11)
  clear HC
  have HC := Lib.hid (pollHead w11 q 3 10 3 _ tC [⟨⟨#[98]⟩, ⟨#[]⟩, 8, 1⟩] O T _ _ A11.out.st ⟨#[118]⟩ 8 1 (by omega) (by omega) (by omega) (by omega) (by intro t ht; simp at ht; rcases ht with rfl | rfl <;> constructor <;> simp [tC]) (by intro t ht; simp at ht; rcases ht with rfl | rfl <;> simp [tC]) for4)
  go_upto_region 22 with (go_at_call 12; refine HC.out.mono ?_; rintro e w12 ⟨wv12, he, s12, n12, t12⟩; obtain rfl : e = .returned (.tuple #[.string ⟨#[99]⟩, .int .i64 3, .int .i64 1, .int .i64 0]) := he; have A12 := Lib.hid (A11.out.move s12 n12 t12); clear s12 n12 t12)
  clear HC
  have HC := Lib.hid (pollHead w12 q 3 10 4 _ ⟨⟨#[98]⟩, ⟨#[]⟩, 8, 1⟩ [] O T _ _ A12.out.st ⟨#[118]⟩ 8 1 (by omega) (by omega) (by omega) (by omega) (by intro t ht; simp at ht; subst ht; constructor <;> simp) (by intro t ht; simp at ht; subst ht; simp) for5)
  go_upto_region 23 with (go_at_call 12; refine HC.out.mono ?_; rintro e w13 ⟨wv13, he, s13, n13, t13⟩; obtain rfl : e = .returned (.tuple #[.string ⟨#[98]⟩, .int .i64 4, .int .i64 2, .int .i64 0]) := he; have A13 := Lib.hid (A12.out.move s13 n13 t13); clear s13 n13 t13)
  clear HC
  have BB := Lib.hid A13.out.bel
  clear A1 A2 A3 A4 A5 A6 A7 A8 A9 A10 A11 A12 A13
  have HI := Lib.hid (in_lit w13 kL (by decide))
  have HO := Lib.hid (open0 _ _ _ _ kL HI.out (by decide) 2 0 1 1 2 3 4 rdK1 rdK2 rdK3 (by omega) (by omega) (by omega) rdK4 rdK5)
  go_wp2_with (go_at_call 27; refine HO.out.mono ?_; rintro e w14 ⟨p, PO, PT, rfl, s14, l14, b14⟩; have S14 := Lib.hid s14; have L14 := Lib.hid l14; have B14 := Lib.hid b14; clear s14 l14 b14)
  have HA := Lib.hid (awake_any w14)
  go_wp2_with (go_at_call 8; refine HA.out.mono ?_; rintro e w15 ⟨rfl, b15⟩; have B15 := Lib.hid b15; have S15 := Lib.hid (S14.out.bel b15); have HL := Lib.hid (lenQ w15 p 2 0 1 _ _ PO PT _ _ S15.out); simp only [List.length_nil] at HL; clear b15)
  go_wp2_with (go_at_call 11; refine HL.out.mono ?_; rintro e w16 ⟨rfl, rfl⟩; have HB := Lib.hid (bytesQ w16 p 2 0 1 _ _ PO PT _ _ S15.out [] ⟨List.Pairwise.nil, fun k x => by simp⟩ (by simp) (by simp) (by simp) (by omega) (by omega) (by omega)); rw [kq] at HB)
  go_wp2_with (go_at_call 26; refine HB.out.mono ?_; rintro e w17 mm; obtain ⟨A, cap, rfl, hi, b17⟩ := kMade mm; have B17 := Lib.hid b17; have hcv := hi.conv; rw [kLstr] at hcv; clear mm b17 hi)
  go_ret
  have hn13 : Below w13.heap.size w13 (w13.alloc (.cells (Cd.bytesV kL).toArray 5)) := Below.new _ _
  exact ⟨rfl, BB.out.trans ((((hn13.trans (B14.out.mono hn13.size)).trans (B15.out.mono (Nat.le_trans hn13.size B14.out.size))).trans (B17.out.mono (Nat.le_trans hn13.size (Nat.le_trans B14.out.size B15.out.size)))).mono BB.out.size)⟩
end Go.Proofs.Ytpbheicfplpemaa
