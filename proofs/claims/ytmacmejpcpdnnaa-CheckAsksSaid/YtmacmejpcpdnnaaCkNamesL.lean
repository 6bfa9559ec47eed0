/- check: the walk of the law CheckNames. -/
import Derived.Test.YtmacmejpcpdnnaaCkSlotsL
namespace Go.Proofs.Ytmacmejpcpdnnaa
open Go.RowKit

theorem names_any (w : World) (a : Option Addr) (n c : Nat) (t : List Tw) (h : TreeIn w a n c t) :
    Calls Try.prog 17 #[.slice a n c] w fun e w' => e = .returned (.tuple #[.int .i64 (pR (slots t) : Int), .int .i64 (eR (slots t) : Int)]) ∧ Below w.heap.size w w' := by
  have HSL := Lib.hid ((slots_any w a n c t h.cap h.tw).mono (fun e w' q => slotsY_own q))
  clear h
  go_enter Try.func17, Try.ntmps17
  go_wp2_with (go_at_call 9; refine HSL.out.mono ?_; rintro e w1 ⟨A1, c1, rfl, ho1, hb1⟩; have HB1 := Lib.hid hb1; clear ho1 hb1)
  go_ret2
  exact ⟨rfl, HB1.out⟩
set_option maxRecDepth 20000 in
set_option maxHeartbeats 6400000 in
theorem alike_any (w : World) (a1 a2 : Option Addr) (n c1 c2 : Nat) (t : List Tw) (h1 : TreeIn w a1 n c1 t) (h2 : TreeIn w a2 n c2 t) (hn : n ≤ 5000) :
    Calls Try.prog 18 #[.slice a1 n c1, .slice a2 n c2] w fun e w' => e = .returned (.bool true) ∧ Below w.heap.size w w' := by
  have hln := h1.tw.len
  have hc1 := h1.cap.1
  have hc12 := h1.cap.2
  have hc2 := h2.cap.1
  have hc22 := h2.cap.2
  unfold maxLen at hc12 hc22
  have HLN := Lib.hid hln
  have HA := Lib.hid h1
  have HB := Lib.hid h2
  clear h1 h2 hln
  go_enter Try.func18, Try.ntmps18
  go_wp2_with fail
  go_loopw [5] (fun iv wr => ∃ i : Nat, iv = .int .i64 (i : Int) ∧ i ≤ n ∧ Hid (Below w.heap.size w wr)) (fun iv _ => n - (intOf iv).toNat)
  case atStart => exact ⟨0, rfl, Nat.zero_le _, Lib.hid (Below.refl _ _)⟩
  case round =>
    obtain ⟨i, rfl, hi9, HW⟩ := hrel
    by_cases hlt : i < n
    · have hlt' : (i : Int) < (n : Int) := by omega
      have hit : i < t.length := by rw [HLN.out]; exact hlt
      have hx : t[i]? = some t[i] := List.getElem?_eq_getElem hit
      obtain ⟨b1, o1, e1, hb1, p0, p1, p2, p3⟩ := tree_cell (HA.out.bel HW.out) hx
      obtain ⟨b2, o2, e2, hb2, q0, q1, q2, q3⟩ := tree_cell (HB.out.bel HW.out) hx
      subst e1 e2
      clear hx
      generalize t[i] = x at *
      go_wp2_with fail
      go_quiet (fail)
      go_wp2_with fail
      exact ⟨⟨i + 1, by go_num, by omega, Lib.hid (below_drewN' HW.out _)⟩, by simp [intOf]; omega⟩
    · obtain rfl : i = n := by omega
      have hlt' : ¬ (i : Int) < (i : Int) := by omega
      go_wp2_with fail
      go_ret
      exact ⟨rfl, HW.out⟩
set_option maxRecDepth 20000 in
set_option maxHeartbeats 12800000 in
theorem cnames_any (w : World) (a : Option Addr) (n c : Nat) (t : List Tw) (h : TreeIn w a n c t) :
    Calls Try.prog 6 #[.slice a n c] w fun e w' => e = .returned (.bool true) ∧ Below w.heap.size w w' := by
  by_cases hn5 : 5000 < n
  · have hn5' : (5000 : Int) < (n : Int) := by omega
    clear h hn5
    go_enter Try.func6, Try.ntmps6
    go_wp2_with (go_at_call 8; refine (wakes_any _).mono ?_; rintro e w9 ⟨rfl, hB9⟩; have HB9 := Lib.hid hB9; clear hB9)
    go_ret
    exact ⟨rfl, HB9.out⟩
  · have hn5' : ¬ (5000 : Int) < (n : Int) := by omega
    have hn6 : n ≤ 5000 := by omega
    have hln := h.tw.len
    have HN := Lib.hid hln
    have HT := Lib.hid h
    have HRM := Lib.hid (World.ownsRow_made (base := w.heap.size) (e := 34) (size := 4) w #[] 0 (Nat.le_refl _) (Nat.zero_le _) rfl)
    have HTA := Lib.hid (h.bel (Below.new w (.cells #[] 34)))
    have HBS : Hid (w.heap.size ≤ (w.alloc (.cells #[] 34)).heap.size) := Lib.hid (by simp)
    have hwf := h.tw.wf
    have HWF := Lib.hid hwf
    have HNM := Lib.hid (fun W A c' (hA : TreeIn W A n c' t) => names_any W A n c' t hA)
    have HRL := Lib.hid (fun W (hW : Below w.heap.size w W) => (rslots_any W a n c t (h.bel hW)).mono (fun e w' q => slotsY_own q))
    clear h hn5 hln hwf
    obtain ⟨R, hR⟩ : ∃ R, slots t = R := ⟨_, rfl⟩
    rw [hR] at HNM HRL
    clear hR
    go_enter Try.func6, Try.ntmps6
    go_wp2_with (first | (at_builtin; refine wpl_copy _ rfl _ _ rfl w.heap.size w.heap.size rfl HRM.out HBS.out _ _ _ rfl t HTA.out (by omega) ?_; intro v3 w3 ho3 hb3; obtain ⟨A3, c3, rfl, hT3⟩ := tree_own ho3 HWF.out; rw [HN.out] at hT3 ⊢; have HT3 := Lib.hid hT3; have HB3 : Hid (Below w.heap.size w w3) := Lib.hid ((Below.new w _).trans hb3); clear ho3 hb3 hT3) | (go_at_call 17; refine (HNM.out w3 A3 c3 HT3.out).mono ?_; rintro e w4 ⟨rfl, hb4⟩; have HT4 := Lib.hid (HT3.out.bel hb4); have HB4 : Hid (Below w.heap.size w w4) := Lib.hid (HB3.out.trans (hb4.mono HB3.out.size)); clear hb4) | (go_at_call 10; refine (HRL.out w4 HB4.out).mono ?_; rintro e w5 ⟨A5, c5, rfl, ho5, hb5⟩; have HT5 := Lib.hid (HT4.out.bel hb5); have HB5 : Hid (Below w.heap.size w w5) := Lib.hid (HB4.out.trans (hb5.mono HB4.out.size)); clear ho5 hb5) | (go_at_call 18; refine (alike_any w5 A3 a n c3 c t HT5.out (HT.out.bel HB5.out) hn6).mono ?_; rintro e w6 ⟨rfl, hb6⟩; have HB6 : Hid (Below w.heap.size w w6) := Lib.hid (HB5.out.trans (hb6.mono HB5.out.size)); clear hb6) | (go_at_call 8; refine (wakes_any _).mono ?_; rintro e w9 ⟨rfl, hB9⟩; have HB9 := Lib.hid hB9; clear hB9))
    go_ret
    exact ⟨rfl, HB6.out.trans (HB9.out.mono HB6.out.size)⟩
end Go.Proofs.Ytmacmejpcpdnnaa
