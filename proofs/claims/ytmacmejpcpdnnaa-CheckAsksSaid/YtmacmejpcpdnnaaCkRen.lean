/- check: the walk of the law CheckRenamed. -/
import Derived.Test.YtmacmejpcpdnnaaCkRenamed
import Derived.Test.YtmacmejpcpdnnaaCkBound
namespace Go.Proofs.Ytmacmejpcpdnnaa
open Go.RowKit

/-! ### what check.Slots says, in three parts -/
def lR : Except (Nat × Nat) (List Int) → List Int
  | .ok l => l
  | .error _ => []
def pR : Except (Nat × Nat) (List Int) → Nat
  | .ok _ => 0
  | .error (p, _) => p
theorem R_ext {R R' : Except (Nat × Nat) (List Int)} (h : ∀ p e, R = .error (p, e) → e ≠ 0) (h' : ∀ p e, R' = .error (p, e) → e ≠ 0) (h1 : lR R = lR R') (h2 : pR R = pR R') (h3 : eR R = eR R') : R = R' := by
  cases R with
  | ok l =>
    cases R' with
    | ok l' => simp only [lR] at h1; rw [h1]
    | error q => obtain ⟨p, e⟩ := q; simp only [eR] at h3; exact absurd h3.symm (h' p e rfl)
  | error q =>
    obtain ⟨p, e⟩ := q
    cases R' with
    | ok l' => simp only [eR] at h3; exact absurd h3 (h p e rfl)
    | error q' => obtain ⟨p', e'⟩ := q'; simp only [pR, eR] at h2 h3; rw [h2, h3]
theorem slotsY_flat {w : World} {t : List Tw} {e : Ending} {w' : World} (h : SlotsY w t e w') : ∃ v, e = .returned (.tuple #[v, .int .i64 (pR (slots t) : Int), .int .i64 (eR (slots t) : Int)]) ∧ Ins w' v (lR (slots t)) ∧ Below w.heap.size w w' := by
  obtain ⟨hb, h⟩ := h
  cases hs : slots t with
  | ok l =>
    rw [hs] at h
    obtain ⟨v, rfl, hr⟩ := h
    exact ⟨v, rfl, Ins.of hr, hb⟩
  | error q =>
    obtain ⟨p, er⟩ := q
    rw [hs] at h
    obtain ⟨_, rfl⟩ := h
    exact ⟨_, rfl, ⟨none, 0, rfl, Nat.le_refl _, Nat.zero_le _, fun i hi => absurd hi (Nat.not_lt_zero _)⟩, hb⟩
/-- the twigs, of which the first i have other names -/
def renU (k : Nat) (t : List Tw) (i : Nat) : List Tw := (t.take i).map (renT k) ++ t.drop i
theorem renU_len (k : Nat) (t : List Tw) (i : Nat) : (renU k t i).length = t.length := by
  unfold renU
  rw [List.length_append, List.length_map, List.length_take, List.length_drop]
  omega
theorem renU_step (k : Nat) {t : List Tw} {i : Nat} (h : i < t.length) : renU k t (i + 1) = (renU k t i).set i (renT k t[i]) := by
  unfold renU
  rw [List.take_succ_eq_append_getElem h, List.map_append, List.drop_eq_getElem_cons h]
  have hl : ((t.take i).map (renT k)).length = i := by simp; omega
  rw [List.set_append_right _ _ (by omega), hl, Nat.sub_self, List.append_assoc]
  rfl
theorem renU_get (k : Nat) {t : List Tw} {i : Nat} (h : i < t.length) : (renU k t i)[i]? = some t[i] := by
  unfold renU
  have hl : ((t.take i).map (renT k)).length = i := by simp; omega
  rw [List.getElem?_append_right (by omega), hl, Nat.sub_self, List.drop_eq_getElem_cons h]
  rfl
theorem renU_all (k : Nat) (t : List Tw) : renU k t t.length = t.map (renT k) := by unfold renU; simp
theorem flat_set {t : List Tw} {i : Nat} (h : i < t.length) (y : Tw) (h0 : (twC y)[0]? = (twC t[i])[0]?) (h1 : (twC y)[1]? = (twC t[i])[1]?) (h2 : (twC y)[2]? = (twC t[i])[2]?) : (t.set i y).flatMap twC = (t.flatMap twC).set (i * 4 + 3) (.string y.text) := by
  refine List.ext_getElem? fun j => ?_
  have hlen : (t.flatMap twC).length = t.length * 4 := flat_len twC 4 twC_len t
  have he : j = j / 4 * 4 + j % 4 := by omega
  have hr : j % 4 < 4 := Nat.mod_lt _ (by decide)
  rw [List.getElem?_set, hlen]
  rw [show ((t.set i y).flatMap twC)[j]? = ((t.set i y).flatMap twC)[j / 4 * 4 + j % 4]? from by rw [← he], flat_get twC 4 twC_len _ _ _ hr, List.getElem?_set]
  rw [show (t.flatMap twC)[j]? = (t.flatMap twC)[j / 4 * 4 + j % 4]? from by rw [← he], flat_get twC 4 twC_len _ _ _ hr]
  by_cases e : i = j / 4
  · rw [if_pos e, if_pos (by omega)]
    subst e
    rw [List.getElem?_eq_getElem h]
    simp only [Option.bind_some]
    by_cases e3 : j % 4 = 3
    · rw [if_pos (by omega), if_pos (by omega), e3]
      rfl
    · rw [if_neg (by omega)]
      have hc : j % 4 = 0 ∨ j % 4 = 1 ∨ j % 4 = 2 := by omega
      rcases hc with hc | hc | hc <;> rw [hc] <;> assumption
  · rw [if_neg e, if_neg (by omega)]
theorem ren_size (k : Nat) (s : ByteArray) : (ren k s).size = s.size := by
  unfold ren
  show (s.toList.map (rnB k)).toArray.size = s.size
  simp [size_toList]
/-! ### the law -/
set_option maxRecDepth 20000 in
set_option maxHeartbeats 25600000 in
theorem ren_walk (w : World) (a : Option Addr) (n c : Nat) (t : List Tw) (h : TreeIn w a n c t) (hn5 : ¬ 5000 < n) (hsz : ∀ i (hi : i < t.length), t[i].text.size ≤ 1000000000) (z : Int) (hz : 0 ≤ z ∧ z ≤ 255) :
    Calls Try.prog 5 #[.slice a n c, .int .u8 z] w fun e w' => e = .returned (.bool true) ∧ Below w.heap.size w w' := by
  have hn := h.tw.len
  have HN := Lib.hid hn
  have hn5' : ¬ (5000 : Int) < (n : Int) := by omega
  have HSL := Lib.hid (slots_any w a n c t h.cap h.tw)
  have HT := Lib.hid h
  have HSZ := Lib.hid hsz
  have HZ := Lib.hid hz
  have hn6 : n ≤ 5000 := by omega
  obtain ⟨k, hk⟩ : ∃ k, z.toNat % 26 = k := ⟨_, rfl⟩
  have HK : Hid (k < 26) := Lib.hid (by have := Nat.mod_lt z.toNat (show 0 < 26 by decide); omega)
  have HKZ := Lib.hid hk
  clear h hn hn5 hsz hz hk
  go_enter Try.func5, Try.ntmps5
  go_wp2_with (first | (go_at_call 9; refine HSL.out.mono ?_; rintro e w2 hS; obtain ⟨v1, rfl, hI1, hB2⟩ := slotsY_flat hS; have HI1 := Lib.hid hI1; have HB2 := Lib.hid hB2; have HRM := Lib.hid (World.ownsRow_made (base := w2.heap.size) (e := 34) (size := 4) w2 #[] 0 (Nat.le_refl _) (Nat.zero_le _) rfl); have HTA := Lib.hid ((HT.out.bel hB2).bel (Below.new w2 (.cells #[] 34))); have HBS : Hid (w2.heap.size ≤ (w2.alloc (.cells #[] 34)).heap.size) := Lib.hid (by simp); clear hS hI1 hB2) | (at_builtin; refine wpl_copy _ rfl _ _ rfl w2.heap.size w2.heap.size rfl HRM.out HBS.out _ _ _ rfl t HTA.out (by omega) ?_; intro v3 w3 ho3 hb3; rw [HN.out] at ho3; obtain ⟨A3, c3, rfl⟩ := own_slice' ho3; have HO3 := Lib.hid ho3; have HB3 := Lib.hid hb3; clear ho3 hb3))
  go_loopw [9] (fun iv wr => ∃ i : Nat, iv = .int .i64 (i : Int) ∧ i ≤ n ∧ Hid (Below w2.heap.size w2 wr ∧ wr.ownsRow w2.heap.size 34 4 (.slice A3 n c3) n ((renU k t i).flatMap twC))) (fun iv _ => n - (intOf iv).toNat)
  case atStart => exact ⟨0, rfl, Nat.zero_le _, Lib.hid ⟨(Below.new w2 _).trans HB3.out, HO3.out⟩⟩
  case round =>
    obtain ⟨i, rfl, hi9, HW⟩ := hrel
    by_cases hlt : i < n
    · have hlt' : (i : Int) < (n : Int) := by omega
      have hit : i < t.length := by rw [HN.out]; exact hlt
      obtain ⟨g, cg, eg, vb, hg1, hg2, hg3⟩ := own_at HW.out.2 (by omega)
      injection eg with eg1 _ eg3
      subst eg1 eg3
      have hgb : w2.heap.size ≤ g := (row_lo (g := g) HW.out.2 rfl).1
      have hfx : ∀ W, Below wr.heap.size wr W → W.cell? ⟨g, i * 4, none⟩ = some (.int .u8 t[i].op) ∧ W.cell? ⟨g, i * 4 + 1, none⟩ = some (.int .i64 t[i].kids) ∧ W.cell? ⟨g, i * 4 + 2, none⟩ = some (.int .i64 t[i].int) ∧ W.cell? ⟨g, i * 4 + 3, none⟩ = some (.string t[i].text) ∧ W.frozen? ⟨g, i * 4 + 3, none⟩ = false ∧ W.ownsRow w2.heap.size 34 4 (.slice (some ⟨g, 0, none⟩) n c3) n ((renU k t i).flatMap twC) := by
        intro W hW
        have hr := own_turns HW.out.2 (.of_below (S := fun _ => False) hW) (fun _ _ => id)
        have hc : ∀ j, j < 4 → W.cell? ⟨g, i * 4 + j, none⟩ = (twC t[i])[j]? := by
          intro j hj
          rw [hr.cellAt (i * 4 + j) (by omega), flat_get twC 4 twC_len _ i j hj, renU_get k hit]
          rfl
        exact ⟨hc 0 (by decide), hc 1 (by decide), hc 2 (by decide), hc 3 (by decide), hr.frozenAt _, hr⟩
      have hw9 := (HT.out.tw.wf i hit).2.2.1
      have hx9 := HSZ.out i hit
      have HFX := Lib.hid hfx
      obtain ⟨d0, d1, d2, d3, z3, _⟩ := hfx wr (Below.refl _ _)
      have HMK := Lib.hid (makes_any t[i] hw9)
      have HUS := Lib.hid (uses_any t[i] hw9)
      have hcl : c3 ≤ 9223372036854775807 := by unfold maxLen at hg3; omega
      clear hfx
      generalize hx : t[i] = x at *
      have HX := Lib.hid hx
      clear hx
      have HRN := Lib.hid (renamed_any x.text hx9 z HZ.out)
      rw [HKZ.out] at HRN
      have HNA := Lib.hid (name_any (ren k x.text) (by rw [ren_size]; unfold maxLen; omega))
      have HKA := Lib.hid (kw_any (ren k x.text))
      by_cases hm : mkB x = true
      · have HMU : Hid ((mkB x || usB x) = true) := Lib.hid (by rw [hm]; rfl)
        rw [hm] at HMK
        clear hm
        have HBAD : Hid (∀ W W', Below wr.heap.size wr W → Below (W.setCell ⟨g, i * 4 + 3, none⟩ (.string (ren k x.text))).heap.size (W.setCell ⟨g, i * 4 + 3, none⟩ (.string (ren k x.text))) W' → Below w.heap.size w W') := Lib.hid (fun W W' hW hW' => by
          have h1 : Below w2.heap.size w2 W := HW.out.1.trans (hW.mono HW.out.1.size)
          have h2 := h1.setCell (p := ⟨g, i * 4 + 3, none⟩) hgb (.string (ren k x.text))
          exact (HB2.out.trans (h2.mono HB2.out.size)).trans (hW'.mono (by have := HB2.out.size; have := h2.size; omega)))
        cases hnm : nameS (ren k x.text) with
        | false =>
          have HNM := Lib.hid hnm
          clear hnm
          go_wp2_with (first | (go_at_call 12; refine (HMK.out _).mono ?_; rintro e wm ⟨rfl, hBm⟩; have HFm := Lib.hid (HFX.out wm hBm); obtain ⟨d0, d1, d2, d3, z3, _⟩ := HFX.out wm hBm; have HBm := Lib.hid hBm; clear hBm) | (go_at_call 14; refine (HRN.out _).mono ?_; rintro e wn ⟨rfl, hBn⟩; have hBq := HBm.out.trans (hBn.mono HBm.out.size); obtain ⟨d0, d1, d2, d3, z3, hrw⟩ := HFX.out wn hBq; have HRW := Lib.hid hrw; have HBq := Lib.hid hBq; clear hBn hBq hrw) | (go_at_call 15; refine (HNA.out _).mono ?_; rintro e wq ⟨rfl, rfl⟩; rw [HNM.out]) | (go_at_call 16; refine (HKA.out _).mono ?_; rintro e wq ⟨rfl, rfl⟩; rw [HKM.out]) | (go_at_call 8; refine (wakes_any _).mono ?_; rintro e w9 ⟨rfl, hB9⟩; have HB9 := Lib.hid hB9; clear hB9))
          go_ret
          exact ⟨rfl, HBAD.out wn _ HBq.out HB9.out⟩
        | true =>
          have HNM := Lib.hid hnm
          clear hnm
          cases hkw : kwB (ren k x.text) with
          | true =>
            have HKM := Lib.hid hkw
            clear hkw
            go_wp2_with (first | (go_at_call 12; refine (HMK.out _).mono ?_; rintro e wm ⟨rfl, hBm⟩; have HFm := Lib.hid (HFX.out wm hBm); obtain ⟨d0, d1, d2, d3, z3, _⟩ := HFX.out wm hBm; have HBm := Lib.hid hBm; clear hBm) | (go_at_call 14; refine (HRN.out _).mono ?_; rintro e wn ⟨rfl, hBn⟩; have hBq := HBm.out.trans (hBn.mono HBm.out.size); obtain ⟨d0, d1, d2, d3, z3, hrw⟩ := HFX.out wn hBq; have HRW := Lib.hid hrw; have HBq := Lib.hid hBq; clear hBn hBq hrw) | (go_at_call 15; refine (HNA.out _).mono ?_; rintro e wq ⟨rfl, rfl⟩; rw [HNM.out]) | (go_at_call 16; refine (HKA.out _).mono ?_; rintro e wq ⟨rfl, rfl⟩; rw [HKM.out]) | (go_at_call 8; refine (wakes_any _).mono ?_; rintro e w9 ⟨rfl, hB9⟩; have HB9 := Lib.hid hB9; clear hB9))
            go_ret
            exact ⟨rfl, HBAD.out wn _ HBq.out HB9.out⟩
          | false =>
            have HKM := Lib.hid hkw
            clear hkw
            go_wp2_with (first | (go_at_call 12; refine (HMK.out _).mono ?_; rintro e wm ⟨rfl, hBm⟩; have HFm := Lib.hid (HFX.out wm hBm); obtain ⟨d0, d1, d2, d3, z3, _⟩ := HFX.out wm hBm; have HBm := Lib.hid hBm; clear hBm) | (go_at_call 14; refine (HRN.out _).mono ?_; rintro e wn ⟨rfl, hBn⟩; have hBq := HBm.out.trans (hBn.mono HBm.out.size); obtain ⟨d0, d1, d2, d3, z3, hrw⟩ := HFX.out wn hBq; have HRW := Lib.hid hrw; have HBq := Lib.hid hBq; clear hBn hBq hrw) | (go_at_call 15; refine (HNA.out _).mono ?_; rintro e wq ⟨rfl, rfl⟩; rw [HNM.out]) | (go_at_call 16; refine (HKA.out _).mono ?_; rintro e wq ⟨rfl, rfl⟩; rw [HKM.out]) | (go_at_call 8; refine (wakes_any _).mono ?_; rintro e w9 ⟨rfl, hB9⟩; have HB9 := Lib.hid hB9; clear hB9))
            have h1 : Below w2.heap.size w2 wn := HW.out.1.trans (HBq.out.mono HW.out.1.size)
            refine ⟨⟨i + 1, by go_num, by omega, Lib.hid ⟨h1.setCell (p := ⟨g, i * 4 + 3, none⟩) hgb _, ?_⟩⟩, by simp [intOf]; omega⟩
            have hst := (HRW.out.stored (i * 4 + 3) (.string (ren k x.text))).1
            have hrt : renT k x = ⟨x.op, x.kids, x.int, ren k x.text⟩ := by unfold renT; rw [HMU.out]; rfl
            have hu9 : i < (renU k t i).length := by rw [renU_len]; exact hit
            have hgx : (renU k t i)[i] = t[i] := by
              have := renU_get k hit
              rw [List.getElem?_eq_getElem hu9] at this
              injection this
            rw [renU_step k hit, flat_set hu9 _ (by rw [hgx, HX.out, hrt]; rfl) (by rw [hgx, HX.out, hrt]; rfl) (by rw [hgx, HX.out, hrt]; rfl), HX.out, hrt]
            exact hst
      · have hm' : mkB x = false := by simpa using hm
        rw [hm'] at HMK
        clear hm
        by_cases hu : usB x = true
        · have HMU : Hid ((mkB x || usB x) = true) := Lib.hid (by rw [hu, Bool.or_true])
          rw [hu] at HUS
          clear hu hm'
          have HBAD : Hid (∀ W W', Below wr.heap.size wr W → Below (W.setCell ⟨g, i * 4 + 3, none⟩ (.string (ren k x.text))).heap.size (W.setCell ⟨g, i * 4 + 3, none⟩ (.string (ren k x.text))) W' → Below w.heap.size w W') := Lib.hid (fun W W' hW hW' => by
            have h1 : Below w2.heap.size w2 W := HW.out.1.trans (hW.mono HW.out.1.size)
            have h2 := h1.setCell (p := ⟨g, i * 4 + 3, none⟩) hgb (.string (ren k x.text))
            exact (HB2.out.trans (h2.mono HB2.out.size)).trans (hW'.mono (by have := HB2.out.size; have := h2.size; omega)))
          cases hnm : nameS (ren k x.text) with
          | false =>
            have HNM := Lib.hid hnm
            clear hnm
            go_wp2_with (first | (go_at_call 12; refine (HMK.out _).mono ?_; rintro e wm ⟨rfl, hBm⟩; have HFm := Lib.hid (HFX.out wm hBm); obtain ⟨d0, d1, d2, d3, z3, _⟩ := HFX.out wm hBm; have HBm := Lib.hid hBm; clear hBm) | (go_at_call 13; refine (HUS.out _).mono ?_; rintro e wu ⟨rfl, hBu⟩; have hBt := HBm.out.trans (hBu.mono HBm.out.size); obtain ⟨d0, d1, d2, d3, z3, _⟩ := HFX.out wu hBt; have HBt := Lib.hid hBt; clear hBu hBt) | (go_at_call 14; refine (HRN.out _).mono ?_; rintro e wn ⟨rfl, hBn⟩; have hBq := HBt.out.trans (hBn.mono HBt.out.size); obtain ⟨d0, d1, d2, d3, z3, hrw⟩ := HFX.out wn hBq; have HRW := Lib.hid hrw; have HBq := Lib.hid hBq; clear hBn hBq hrw) | (go_at_call 15; refine (HNA.out _).mono ?_; rintro e wq ⟨rfl, rfl⟩; rw [HNM.out]) | (go_at_call 16; refine (HKA.out _).mono ?_; rintro e wq ⟨rfl, rfl⟩; rw [HKM.out]) | (go_at_call 8; refine (wakes_any _).mono ?_; rintro e w9 ⟨rfl, hB9⟩; have HB9 := Lib.hid hB9; clear hB9))
            go_ret
            exact ⟨rfl, HBAD.out wn _ HBq.out HB9.out⟩
          | true =>
            have HNM := Lib.hid hnm
            clear hnm
            cases hkw : kwB (ren k x.text) with
            | true =>
              have HKM := Lib.hid hkw
              clear hkw
              go_wp2_with (first | (go_at_call 12; refine (HMK.out _).mono ?_; rintro e wm ⟨rfl, hBm⟩; have HFm := Lib.hid (HFX.out wm hBm); obtain ⟨d0, d1, d2, d3, z3, _⟩ := HFX.out wm hBm; have HBm := Lib.hid hBm; clear hBm) | (go_at_call 13; refine (HUS.out _).mono ?_; rintro e wu ⟨rfl, hBu⟩; have hBt := HBm.out.trans (hBu.mono HBm.out.size); obtain ⟨d0, d1, d2, d3, z3, _⟩ := HFX.out wu hBt; have HBt := Lib.hid hBt; clear hBu hBt) | (go_at_call 14; refine (HRN.out _).mono ?_; rintro e wn ⟨rfl, hBn⟩; have hBq := HBt.out.trans (hBn.mono HBt.out.size); obtain ⟨d0, d1, d2, d3, z3, hrw⟩ := HFX.out wn hBq; have HRW := Lib.hid hrw; have HBq := Lib.hid hBq; clear hBn hBq hrw) | (go_at_call 15; refine (HNA.out _).mono ?_; rintro e wq ⟨rfl, rfl⟩; rw [HNM.out]) | (go_at_call 16; refine (HKA.out _).mono ?_; rintro e wq ⟨rfl, rfl⟩; rw [HKM.out]) | (go_at_call 8; refine (wakes_any _).mono ?_; rintro e w9 ⟨rfl, hB9⟩; have HB9 := Lib.hid hB9; clear hB9))
              go_ret
              exact ⟨rfl, HBAD.out wn _ HBq.out HB9.out⟩
            | false =>
              have HKM := Lib.hid hkw
              clear hkw
              go_wp2_with (first | (go_at_call 12; refine (HMK.out _).mono ?_; rintro e wm ⟨rfl, hBm⟩; have HFm := Lib.hid (HFX.out wm hBm); obtain ⟨d0, d1, d2, d3, z3, _⟩ := HFX.out wm hBm; have HBm := Lib.hid hBm; clear hBm) | (go_at_call 13; refine (HUS.out _).mono ?_; rintro e wu ⟨rfl, hBu⟩; have hBt := HBm.out.trans (hBu.mono HBm.out.size); obtain ⟨d0, d1, d2, d3, z3, _⟩ := HFX.out wu hBt; have HBt := Lib.hid hBt; clear hBu hBt) | (go_at_call 14; refine (HRN.out _).mono ?_; rintro e wn ⟨rfl, hBn⟩; have hBq := HBt.out.trans (hBn.mono HBt.out.size); obtain ⟨d0, d1, d2, d3, z3, hrw⟩ := HFX.out wn hBq; have HRW := Lib.hid hrw; have HBq := Lib.hid hBq; clear hBn hBq hrw) | (go_at_call 15; refine (HNA.out _).mono ?_; rintro e wq ⟨rfl, rfl⟩; rw [HNM.out]) | (go_at_call 16; refine (HKA.out _).mono ?_; rintro e wq ⟨rfl, rfl⟩; rw [HKM.out]) | (go_at_call 8; refine (wakes_any _).mono ?_; rintro e w9 ⟨rfl, hB9⟩; have HB9 := Lib.hid hB9; clear hB9))
              have h1 : Below w2.heap.size w2 wn := HW.out.1.trans (HBq.out.mono HW.out.1.size)
              refine ⟨⟨i + 1, by go_num, by omega, Lib.hid ⟨h1.setCell (p := ⟨g, i * 4 + 3, none⟩) hgb _, ?_⟩⟩, by simp [intOf]; omega⟩
              have hst := (HRW.out.stored (i * 4 + 3) (.string (ren k x.text))).1
              have hrt : renT k x = ⟨x.op, x.kids, x.int, ren k x.text⟩ := by unfold renT; rw [HMU.out]; rfl
              have hu9 : i < (renU k t i).length := by rw [renU_len]; exact hit
              have hgx : (renU k t i)[i] = t[i] := by
                have := renU_get k hit
                rw [List.getElem?_eq_getElem hu9] at this
                injection this
              rw [renU_step k hit, flat_set hu9 _ (by rw [hgx, HX.out, hrt]; rfl) (by rw [hgx, HX.out, hrt]; rfl) (by rw [hgx, HX.out, hrt]; rfl), HX.out, hrt]
              exact hst
        · have hu' : usB x = false := by simpa using hu
          rw [hu'] at HUS
          have HRT : Hid (renT k x = x) := Lib.hid (by unfold renT; rw [hm', hu']; rfl)
          clear hu hu' hm'
          go_wp2_with (first | (go_at_call 12; refine (HMK.out _).mono ?_; rintro e wm ⟨rfl, hBm⟩; have HFm := Lib.hid (HFX.out wm hBm); obtain ⟨d0, d1, d2, d3, z3, _⟩ := HFX.out wm hBm; have HBm := Lib.hid hBm; clear hBm) | (go_at_call 13; refine (HUS.out _).mono ?_; rintro e wu ⟨rfl, hBu⟩; have hBt := HBm.out.trans (hBu.mono HBm.out.size); obtain ⟨d0, d1, d2, d3, z3, _⟩ := HFX.out wu hBt; have HBt := Lib.hid hBt; clear hBu hBt))
          have h1 : Below w2.heap.size w2 wu := HW.out.1.trans (HBt.out.mono HW.out.1.size)
          refine ⟨⟨i + 1, by go_num, by omega, Lib.hid ⟨h1, ?_⟩⟩, by simp [intOf]; omega⟩
          have hu9 : i < (renU k t i).length := by rw [renU_len]; exact hit
          have hgx : (renU k t i)[i] = x := by
            have := renU_get k hit
            rw [List.getElem?_eq_getElem hu9, HX.out] at this
            injection this
          have e9 : renU k t (i + 1) = renU k t i := by
            rw [renU_step k hit, HX.out, HRT.out]
            have hse := List.set_getElem_self hu9
            rw [hgx] at hse
            exact hse
          rw [e9]
          exact own_turns HW.out.2 (.of_below (S := fun _ => False) HBt.out) (fun _ _ => id)
    · obtain rfl : i = n := by omega
      have hlt' : ¬ (i : Int) < (i : Int) := by omega
      have hrow := HW.out.2
      rw [show (renU k t i) = t.map (renT k) from by rw [← renU_all, HN.out]] at hrow
      have hUl : (t.map (renT k)).length = i := by rw [List.length_map, HN.out]
      obtain ⟨A4, c4, e4, hTU⟩ := tree_own (t := t.map (renT k)) (by rw [hUl]; exact hrow) (by
        intro j hj
        have hj' : j < t.length := by simpa using hj
        have := HT.out.tw.wf j hj'
        have hs9 := HSZ.out j hj'
        rw [List.getElem_map]
        unfold renT
        split
        · refine ⟨this.1, this.2.1, this.2.2.1, ?_⟩
          simp only [ren_size]
          exact this.2.2.2
        · exact this)
      rw [hUl] at e4 hTU
      injection e4 with e4 _ e5
      subst e4 e5
      have HTU := Lib.hid hTU
      have HSU := Lib.hid (slots_any wr _ _ _ _ hTU.cap hTU.tw)
      have HLAW := Lib.hid (slots_ren HK.out t)
      clear hrow hUl hTU
      generalize hR2 : slots (t.map (renT k)) = R2 at *
      have HR2 := Lib.hid hR2
      clear hR2
      generalize hR1 : slots t = R1 at *
      clear hR1
      have HFL : Hid (∀ e w', SlotsY wr (t.map (renT k)) e w' → ∃ v, e = .returned (.tuple #[v, .int .i64 (pR R2 : Int), .int .i64 (eR R2 : Int)]) ∧ Ins w' v (lR R2) ∧ Below wr.heap.size wr w') := Lib.hid (fun e w' hS => by have := slotsY_flat hS; rw [HR2.out] at this; exact this)
      by_cases h1 : eR R1 = 3
      · have q1 : ((eR R1 : Int) == 3) = true := by simp [h1]
        have q1' : (eR R1 : Int) = 3 := by omega
        have HE := Lib.hid h1
        clear h1 q1'
        go_wp2_with (first | (go_at_call 9; refine HSU.out.mono ?_; rintro e w5 hS; obtain ⟨v2, rfl, hI2, hB5⟩ := HFL.out e w5 hS; have HI2 := Lib.hid hI2; have HB5 := Lib.hid hB5; clear hS hI2 hB5) | (go_at_call 8; refine (wakes_any _).mono ?_; rintro e w9 ⟨rfl, hB9⟩; have HB9 := Lib.hid hB9; clear hB9))
        go_ret
        have h5 : Below w2.heap.size w2 w5 := HW.out.1.trans (HB5.out.mono HW.out.1.size)
        have h6 := HB2.out.trans (h5.mono HB2.out.size)
        exact ⟨rfl, h6.trans (HB9.out.mono h6.size)⟩
      · have q1 : ((eR R1 : Int) == 3) = false := by rw [beq_eq_false_iff_ne]; omega
        by_cases h2 : eR R2 = 3
        · have q2 : ((eR R2 : Int) == 3) = true := by simp [h2]
          clear h1 h2
          go_wp2_with (first | (go_at_call 9; refine HSU.out.mono ?_; rintro e w5 hS; obtain ⟨v2, rfl, hI2, hB5⟩ := HFL.out e w5 hS; have HI2 := Lib.hid hI2; have HB5 := Lib.hid hB5; clear hS hI2 hB5) | (go_at_call 8; refine (wakes_any _).mono ?_; rintro e w9 ⟨rfl, hB9⟩; have HB9 := Lib.hid hB9; clear hB9))
          go_ret
          have h5 : Below w2.heap.size w2 w5 := HW.out.1.trans (HB5.out.mono HW.out.1.size)
          have h6 := HB2.out.trans (h5.mono HB2.out.size)
          exact ⟨rfl, h6.trans (HB9.out.mono h6.size)⟩
        · have hRR : R2 = R1 := HLAW.out h1 h2
          subst hRR
          clear h2
          go_wp2_with (first | (go_at_call 9; refine HSU.out.mono ?_; rintro e w5 hS; obtain ⟨v2, rfl, hI2, hB5⟩ := HFL.out e w5 hS; have h5 := HW.out.1.trans (hB5.mono HW.out.1.size); have HIA := Lib.hid (HI1.out.bel h5); have HI2 := Lib.hid hI2; have HB5 := Lib.hid hB5; clear hS hI2 hB5 h5) | (go_at_call 11; refine (ints_any _ _ _ _ _ HIA.out HI2.out).mono ?_; rintro e w6 ⟨rfl, hB6⟩; rw [decide_eq_true rfl]; have HB6 := Lib.hid hB6; clear hB6) | (go_at_call 8; refine (wakes_any _).mono ?_; rintro e w9 ⟨rfl, hB9⟩; have HB9 := Lib.hid hB9; clear hB9))
          go_ret
          have h5 : Below w2.heap.size w2 w5 := HW.out.1.trans (HB5.out.mono HW.out.1.size)
          have h6 := HB2.out.trans (h5.mono HB2.out.size)
          have h7 := h6.trans (HB6.out.mono h6.size)
          exact ⟨rfl, h7.trans (HB9.out.mono h7.size)⟩
theorem ren_any (w : World) (a : Option Addr) (n c : Nat) (t : List Tw) (h : TreeIn w a n c t) (hsz : ∀ i (hi : i < t.length), t[i].text.size ≤ 1000000000) (z : Int) (hz : 0 ≤ z ∧ z ≤ 255) :
    Calls Try.prog 5 #[.slice a n c, .int .u8 z] w fun e w' => e = .returned (.bool true) ∧ Below w.heap.size w w' := by
  by_cases hn5 : 5000 < n
  · have hn5' : (5000 : Int) < (n : Int) := by omega
    clear h hn5 hsz
    go_enter Try.func5, Try.ntmps5
    go_wp2_with (go_at_call 8; refine (wakes_any _).mono ?_; rintro e w9 ⟨rfl, hB9⟩; have HB9 := Lib.hid hB9; clear hB9)
    go_ret
    exact ⟨rfl, HB9.out⟩
  · exact ren_walk w a n c t h hn5 hsz z hz
end Go.Proofs.Ytmacmejpcpdnnaa
