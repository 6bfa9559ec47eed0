/- check: the walks of the laws CheckSlots and CheckNames. -/
import Derived.Test.YtmacmejpcpdnnaaCkRfSlots
import Derived.Test.YtmacmejpcpdnnaaCkRen
namespace Go.Proofs.Ytmacmejpcpdnnaa
open Go.RowKit

theorem slotsY_own {w : World} {t : List Tw} {e : Ending} {w' : World} (h : SlotsY w t e w') : ∃ A c, e = .returned (.tuple #[.slice A (lR (slots t)).length c, .int .i64 (pR (slots t) : Int), .int .i64 (eR (slots t) : Int)]) ∧ w'.ownsRow w.heap.size 3 1 (.slice A (lR (slots t)).length c) (lR (slots t)).length ((lR (slots t)).map intI) ∧ Below w.heap.size w w' := by
  obtain ⟨hb, h⟩ := h
  cases hs : slots t with
  | ok l =>
    rw [hs] at h
    obtain ⟨v, rfl, hr⟩ := h
    obtain ⟨A, c, rfl⟩ := own_slice' hr
    exact ⟨A, c, rfl, hr, hb⟩
  | error q =>
    obtain ⟨p, er⟩ := q
    rw [hs] at h
    obtain ⟨_, rfl⟩ := h
    exact ⟨none, 0, rfl, World.ownsRow_nil _ _ _ _, hb⟩
theorem lR_len {t : List Tw} : (lR (slots t)).length ≤ 2048 := by
  cases hs : slots t with
  | ok l => have := slots_len hs; simp only [lR]; omega
  | error q => simp [lR]
set_option maxRecDepth 20000 in
set_option maxHeartbeats 12800000 in
theorem cslots_any (w : World) (a : Option Addr) (n c : Nat) (t : List Tw) (h : TreeIn w a n c t) :
    Calls Try.prog 3 #[.slice a n c] w fun e w' => e = .returned (.bool true) ∧ Below w.heap.size w w' := by
  by_cases hn5 : 5000 < n
  · have hn5' : (5000 : Int) < (n : Int) := by omega
    clear h hn5
    go_enter Try.func3, Try.ntmps3
    go_wp2_with (go_at_call 8; refine (wakes_any _).mono ?_; rintro e w9 ⟨rfl, hB9⟩; have HB9 := Lib.hid hB9; clear hB9)
    go_ret
    exact ⟨rfl, HB9.out⟩
  · have hn5' : ¬ (5000 : Int) < (n : Int) := by omega
    have hll := lR_len (t := t)
    have HT := Lib.hid h
    have HSL := Lib.hid (fun W (hW : Below w.heap.size w W) => (slots_any W a n c t h.cap (h.bel hW).tw).mono (fun e w' q => slotsY_own q))
    have HRL := Lib.hid (fun W (hW : Below w.heap.size w W) => (rslots_any W a n c t (h.bel hW)).mono (fun e w' q => slotsY_own q))
    clear h hn5
    generalize slots t = R at *
    generalize hlr : lR R = lr at *
    generalize hm : lr.length = m at *
    have HM := Lib.hid hm
    clear hm hlr
    go_enter Try.func3, Try.ntmps3
    go_wp2_with (first | (go_at_call 9; refine (HSL.out w (Below.refl _ _)).mono ?_; rintro e w1 ⟨A1, c1, rfl, ho1, hb1⟩; have HO1 := Lib.hid ho1; have HB1 := Lib.hid hb1; clear ho1 hb1) | (go_at_call 10; refine (HRL.out w1 HB1.out).mono ?_; rintro e w2 ⟨A2, c2, rfl, ho2, hb2⟩; have HO2 := Lib.hid ho2; have HB2 := Lib.hid hb2; have HI1 := Lib.hid ((Ins.of (by rw [HM.out]; exact HO1.out)).bel hb2); have HI2 := Lib.hid (Ins.of (by rw [HM.out]; exact ho2)); clear ho2 hb2) | (go_at_call 11; refine (ints_any _ _ _ lr lr HI1.out HI2.out).mono ?_; rintro e w3 ⟨rfl, hB3⟩; rw [decide_eq_true rfl]; have HB3 := Lib.hid hB3; clear hB3))
    have hb3 : Below w1.heap.size w1 w3 := HB2.out.trans (HB3.out.mono HB2.out.size)
    have HW3 := Lib.hid hb3
    clear hb3
    go_loopw [9] (fun iv wr => ∃ i : Nat, iv = .int .i64 (i : Int) ∧ i ≤ m ∧ Hid (Below w.heap.size w wr ∧ (∃ xs, wr.ownsRow w.heap.size 3 1 (.slice A1 m c1) m xs) ∧ wr.ownsRow w1.heap.size 3 1 (.slice A2 m c2) m (lr.map intI) ∧ w1.heap.size ≤ wr.heap.size)) (fun iv _ => m - (intOf iv).toNat)
    case atStart => exact ⟨0, rfl, Nat.zero_le _, Lib.hid ⟨HB1.out.trans (HW3.out.mono HB1.out.size), ⟨_, own_turns HO1.out (.of_below (S := fun _ => False) HW3.out) (fun _ _ => id)⟩, own_turns HO2.out (.of_below (S := fun _ => False) HB3.out) (fun _ _ => id), HW3.out.size⟩⟩
    case round =>
      obtain ⟨i, rfl, hi9, HW⟩ := hrel
      by_cases hlt : i < m
      · have hlt' : (i : Int) < (m : Int) := by omega
        obtain ⟨xs, hxs⟩ := HW.out.2.1
        obtain ⟨g, cg, eg, vb, hg1, hg2, hg3⟩ := own_at HO1.out (by omega)
        injection eg with eg1 _ eg3
        subst eg1 eg3
        obtain ⟨u0, hu0⟩ : ∃ u0, wr.cell? ⟨g, i, none⟩ = some u0 := by
          have h9 := hxs.cellAt i (by omega)
          have hl9 := hxs.1
          rw [List.getElem?_eq_getElem (by omega)] at h9
          exact ⟨_, h9⟩
        have hz0 := hxs.frozenAt i
        have hgb : w.heap.size ≤ g := (row_lo (g := g) hxs rfl).1
        have HXS := Lib.hid hxs
        unfold maxLen at hg3
        clear hxs
        go_wp2_with fail
        refine ⟨⟨i + 1, by go_num, by omega, Lib.hid ⟨HW.out.1.setCell (p := ⟨g, i, none⟩) hgb _, ⟨_, (HXS.out.stored i (.int .i64 (-9))).1⟩, ?_, by simp [World.setCell]; exact HW.out.2.2.2⟩⟩, by simp [intOf]; omega⟩
        refine own_turns HW.out.2.2.1 (.of_set (S := fun j => j = g) _ ⟨g, i, none⟩ _ rfl) (fun g' hg' e => ?_)
        have := (row_lo HW.out.2.2.1 hg').1
        omega
      · obtain rfl : i = m := by omega
        have hlt' : ¬ (i : Int) < (i : Int) := by omega
        go_wp2_with (first | (go_at_call 9; refine (HSL.out _ HW.out.1).mono ?_; rintro e w5 ⟨A5, c5, rfl, ho5, hb5⟩; have HI5 := Lib.hid (Ins.of (by rw [HM.out]; exact ho5)); have HI6 := Lib.hid ((Ins.of (by rw [HM.out]; exact HW.out.2.2.1)).bel hb5); have HB5 := Lib.hid hb5; clear ho5 hb5) | (go_at_call 11; refine (ints_any _ _ _ lr lr HI5.out HI6.out).mono ?_; rintro e w6 ⟨rfl, hB6⟩; rw [decide_eq_true rfl]; have HB6 := Lib.hid hB6; clear hB6) | (go_at_call 8; refine (wakes_any _).mono ?_; rintro e w9 ⟨rfl, hB9⟩; have HB9 := Lib.hid hB9; clear hB9))
        go_ret
        have h5 := HW.out.1.trans (HB5.out.mono HW.out.1.size)
        have h6 := h5.trans (HB6.out.mono h5.size)
        exact ⟨rfl, h6.trans (HB9.out.mono h6.size)⟩
end Go.Proofs.Ytmacmejpcpdnnaa
