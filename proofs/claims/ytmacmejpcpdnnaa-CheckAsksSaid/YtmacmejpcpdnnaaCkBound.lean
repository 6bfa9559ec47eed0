/- check: the walk of the law CheckBound. -/
import Derived.Test.YtmacmejpcpdnnaaCkAwake
import Derived.Test.YtmacmejpcpdnnaaCkBoundP
namespace Go.Proofs.Ytmacmejpcpdnnaa
open Go.RowKit

theorem makes_any (x : Tw) (hx : x.op ≤ 255) (w : World) : Calls Try.prog 12 #[.agg #[.int .u8 x.op, .int .i64 x.kids, .int .i64 x.int, .string x.text]] w fun e w' => e = .returned (.bool (mkB x)) ∧ Below w.heap.size w w' := by
  unfold mkB
  by_cases h1 : x.op = 2
  · have q1 : ((x.op : Int) == 2) = true := by rw [beq_iff_eq]; omega
    have H1 := Lib.hid h1
    clear h1
    go_enter Try.func12, Try.ntmps12
    go_wp2_with fail
    go_ret
    exact ⟨by rw [H1.out]; rfl, Below.new _ _⟩
  · have q1 : ((x.op : Int) == 2) = false := by rw [beq_eq_false_iff_ne]; omega
    have H1 : Hid ((x.op == 2) = false) := Lib.hid (by simpa using h1)
    have H2 : Hid (((x.op : Int) == 4) = (x.op == 4)) := Lib.hid (by rw [Bool.eq_iff_iff]; simp; omega)
    clear h1
    go_enter Try.func12, Try.ntmps12
    go_wp2_with fail
    go_ret
    refine ⟨?_, Below.new _ _⟩
    rw [H1.out, Bool.false_or, ← H2.out]
    rfl
theorem uses_any (x : Tw) (hx : x.op ≤ 255) (w : World) : Calls Try.prog 13 #[.agg #[.int .u8 x.op, .int .i64 x.kids, .int .i64 x.int, .string x.text]] w fun e w' => e = .returned (.bool (usB x)) ∧ Below w.heap.size w w' := by
  unfold usB
  by_cases h1 : x.op = 5
  · have q1 : ((x.op : Int) == 5) = true := by rw [beq_iff_eq]; omega
    have H1 := Lib.hid h1
    clear h1
    go_enter Try.func13, Try.ntmps13
    go_wp2_with fail
    go_ret
    exact ⟨by rw [H1.out]; rfl, Below.new _ _⟩
  · have q1 : ((x.op : Int) == 5) = false := by rw [beq_eq_false_iff_ne]; omega
    have H1 : Hid ((x.op == 5) = false) := Lib.hid (by simpa using h1)
    have H2 : Hid (((x.op : Int) == 26) = (x.op == 26)) := Lib.hid (by rw [Bool.eq_iff_iff]; simp; omega)
    clear h1
    go_enter Try.func13, Try.ntmps13
    go_wp2_with fail
    go_ret
    refine ⟨?_, Below.new _ _⟩
    rw [H1.out, Bool.false_or, ← H2.out]
    rfl
/-- what the law's loop keeps -/
structure BdW (w w2 : World) (t : List Tw) (l : List Int) (wr : World) (i : Nat) (N : List ByteArray) (mv : Value) : Prop where
  bel : Below w.heap.size w wr
  row : wr.ownsRow w2.heap.size 9 1 mv N.length (N.map kStr)
  good : Good (t.drop i) (l.drop i) N
  le : N.length ≤ i
set_option maxRecDepth 20000 in
set_option maxHeartbeats 12800000 in
theorem bound_ok (w : World) (a : Option Addr) (n c : Nat) (t : List Tw) (h : TreeIn w a n c t) (hn5 : ¬ 5000 < n) (l : List Int) (hs : slots t = .ok l) :
    Calls Try.prog 4 #[.slice a n c] w fun e w' => e = .returned (.bool true) ∧ Below w.heap.size w w' := by
  obtain ⟨i0, hi, hz0, hz1, hz2⟩ := info_parts info_str
  have hn := h.tw.len
  obtain ⟨hll, hl2⟩ := slots_len hs
  have hcap := h.cap.2
  unfold maxLen at hcap
  have hcap2 := h.cap.1
  have HG := Lib.hid (slots_good hs)
  have HLN := Lib.hid hll
  have HN := Lib.hid hn
  have hn5' : ¬ (5000 : Int) < (n : Int) := by omega
  have HSL := Lib.hid (slots_any w a n c t h.cap h.tw)
  have HT := Lib.hid h
  have HS := Lib.hid hs
  have hl3 : n ≤ 2048 := by omega
  have hll2 : l.length = n := by omega
  have HLL := Lib.hid hll2
  clear h hs hn hll hl2 hll2 hn5
  go_enter Try.func4, Try.ntmps4
  go_wp2_with (go_at_call 9; refine HSL.out.mono ?_; rintro e w2 ⟨hB2, hS⟩; rw [HS.out] at hS; obtain ⟨v, rfl, hr⟩ := hS; rw [HLL.out] at hr; obtain ⟨Al, cl, rfl⟩ := own_slice' hr; have HR := Lib.hid hr; have HB2 := Lib.hid hB2; clear hB2 hr)
  go_loopw [6, 7] (fun mv iv wr => ∃ (i : Nat) (Am : Option Addr) (cm : Nat) (N : List ByteArray), mv = .slice Am N.length cm ∧ iv = .int .i64 (i : Int) ∧ i ≤ n ∧ Hid (BdW w w2 t l wr i N (.slice Am N.length cm) ∧ Below w2.heap.size w2 wr)) (fun _ iv _ => n - (intOf iv).toNat)
  case atStart => exact ⟨0, none, 0, [], rfl, rfl, Nat.zero_le _, Lib.hid ⟨⟨HB2.out, World.ownsRow_nil _ _ _ _, HG.out, Nat.zero_le _⟩, Below.refl _ _⟩⟩
  case round =>
    obtain ⟨i, Am, cm, N, rfl, rfl, hi9, HW⟩ := hrel
    have hNi := HW.out.1.le
    by_cases hlt : i < n
    · have hlt' : (i : Int) < (n : Int) := by omega
      have hit : i < t.length := by rw [HN.out]; exact hlt
      have hil : i < l.length := by rw [HLL.out]; exact hlt
      have hgd := HW.out.1.good
      rw [List.drop_eq_getElem_cons hit, List.drop_eq_getElem_cons hil] at hgd
      obtain ⟨b, o, ea, _, hbl, _⟩ := HT.out.tw.cell i hit
      obtain ⟨g, cg, eg, vb, hg1, hg2, hg3⟩ := own_at HR.out (by omega)
      injection eg with eg1 _ eg3
      subst ea eg1 eg3
      have hfx : ∀ W, Below wr.heap.size wr W → W.cell? ⟨b, o + i * 4, none⟩ = some (.int .u8 t[i].op) ∧ W.cell? ⟨b, o + i * 4 + 1, none⟩ = some (.int .i64 t[i].kids) ∧ W.cell? ⟨b, o + i * 4 + 2, none⟩ = some (.int .i64 t[i].int) ∧ W.cell? ⟨b, o + i * 4 + 3, none⟩ = some (.string t[i].text) ∧ W.cell? ⟨g, i, none⟩ = some (.int .i64 l[i]) := by
        intro W hW
        obtain ⟨b2, o2, e2, _, _, q0, q1, q2, q3⟩ := (HT.out.bel (HW.out.1.bel.trans (hW.mono HW.out.1.bel.size))).tw.cell i hit
        injection e2 with e2
        injection e2 with e2 e3 _
        subst e2 e3
        refine ⟨q0, q1, q2, q3, ?_⟩
        have := HR.out.cellAt i (by omega)
        rw [List.getElem?_map, List.getElem?_eq_getElem hil] at this
        exact ((HW.out.2.trans (hW.mono HW.out.2.size)).cell hg1).trans this
      have hw9 := (HT.out.tw.wf i hit).2.2.1
      have HFX := Lib.hid hfx
      obtain ⟨d0, d1, d2, d3, dl⟩ := hfx wr (Below.refl _ _)
      have HGD := Lib.hid hgd.2
      have hfit := hgd.1
      unfold Fits at hfit
      have HMK := Lib.hid (makes_any t[i] hw9)
      have HUS := Lib.hid (uses_any t[i] hw9)
      have hcl : cl ≤ 9223372036854775807 := by unfold maxLen at hg3; omega
      clear hfx hgd
      generalize hx : t[i] = x at *
      generalize hz : l[i] = z at *
      have HX := Lib.hid hx
      have HZ := Lib.hid hz
      clear hx hz
      by_cases hm : mkB x = true
      · rw [if_pos hm] at hfit
        rw [if_pos hm] at HGD
        rw [hm] at HMK
        obtain ⟨rfl, hN100⟩ := hfit
        have hl1 : Hid (N.length + 1 ≤ maxLen) := Lib.hid (by unfold maxLen; omega)
        have hl2 : Hid ((N.length + 1) * 16 ≤ 140737488355328) := Lib.hid (by omega)
        have HM := Lib.hid hm
        have hN1 : (N.length : Int) < 100 := by omega
        clear hm
        go_wp2_with (first | (go_at_call 12; refine (HMK.out _).mono ?_; rintro e wm ⟨rfl, hBm⟩; obtain ⟨d0, d1, d2, d3, dl⟩ := HFX.out wm hBm; have HR3 := Lib.hid ((own_turns HW.out.1.row (.of_below (S := fun _ => False) hBm) (fun _ _ => id)).alloc (.cells #[.string x.text] 9)); have HNW := Lib.hid (Blk.new wm 9 [.string x.text]).news; have HBS : Hid (w2.heap.size ≤ (wm.alloc (.cells #[.string x.text] 9)).heap.size) := Lib.hid (by have := HW.out.2.size; have := hBm.size; simp; omega); have HBm := Lib.hid hBm; clear hBm) | (at_builtin; refine wpList_append_own_at _ rfl _ _ 31 rfl w2.heap.size 9 i0 _ 1 16 Try.underlying31 hi hz0 hz1 hz2 rfl (by decide) _ _ _ rfl HR3.out ⟨wm.heap.size, 0, none⟩ 1 1 [.string x.text] rfl rfl HNW.out (by intro u hu; simp at hu; subst hu; rfl) hl1.out hl2.out HBS.out ?_; intro v4 y4 hown4 hgr4 _ hat4; obtain ⟨A4, c4, rfl⟩ := own_slice' hown4; have HO4 := Lib.hid hown4; have HG4 := Lib.hid hgr4; have HA4 := Lib.hid hat4; clear hown4 hgr4 hat4))
        have hb1 : Below w2.heap.size w2 y4 := ((HW.out.2.trans (HBm.out.mono HW.out.2.size)).alloc (by have := HW.out.2.size; have := HBm.out.size; omega) _).grown HG4.out HBS.out (fun r e => (row_lo HR3.out e).1)
        have hb2 : Below w.heap.size w y4 := HB2.out.trans (hb1.mono HB2.out.size)
        refine ⟨⟨i + 1, A4, c4, N ++ [x.text], by simp, by go_num, by omega, Lib.hid ⟨⟨hb2, ?_, HGD.out, by simp; omega⟩, hb1⟩⟩, by simp [intOf]; omega⟩
        simp only [List.map_append, List.map_cons, List.map_nil, List.length_append, List.length_cons, List.length_nil]
        exact HO4.out
      · have hm' : mkB x = false := by simpa using hm
        rw [if_neg hm] at hfit
        rw [if_neg hm] at HGD
        rw [hm'] at HMK
        have HM := Lib.hid hm'
        clear hm hm'
        by_cases hu : usB x = true
        · rw [if_pos hu] at hfit
          rw [hu] at HUS
          obtain ⟨k, rfl, hk⟩ := hfit
          obtain ⟨hkN, hkx⟩ := List.getElem?_eq_some_iff.1 hk
          have hkN' : (k : Int) < (N.length : Int) := by omega
          have hkN2 : ¬ (N.length : Int) ≤ (k : Int) := by omega
          have hk0 : ¬ (k : Int) < 0 := by omega
          have qk0 : decide ((k : Int) < 0) = false := decide_eq_false hk0
          have qk1 : decide ((N.length : Int) ≤ (k : Int)) = false := decide_eq_false hkN2
          obtain ⟨g4, cg4, eg4, vb4, hg4, hg5, hg6⟩ := own_at HW.out.1.row (by omega)
          injection eg4 with eg5 _ eg6
          subst eg5 eg6
          have dn : ∀ W, Below wr.heap.size wr W → W.cell? ⟨g4, k, none⟩ = some (.string x.text) := by
            intro W hW
            have := HW.out.1.row.cellAt k (by omega)
            rw [List.getElem?_map, hk] at this
            exact (hW.cell hg4).trans this
          have HDN := Lib.hid dn
          have HK := Lib.hid hk
          have hcm : cm ≤ 9223372036854775807 := by unfold maxLen at hg6; omega
          clear hu dn hk hkx
          go_wp2_with (first | (go_at_call 12; refine (HMK.out _).mono ?_; rintro e wm ⟨rfl, hBm⟩; obtain ⟨d0, d1, d2, d3, dl⟩ := HFX.out wm hBm; have HBm := Lib.hid hBm; clear hBm) | (go_at_call 13; refine (HUS.out _).mono ?_; rintro e wu ⟨rfl, hBu⟩; have hBt := HBm.out.trans (hBu.mono HBm.out.size); obtain ⟨d0, d1, d2, d3, dl⟩ := HFX.out wu hBt; have dn := HDN.out wu hBt; have HBt := Lib.hid hBt; clear hBu hBt))
          go_quiet (fail)
          go_wp2_with fail
          have hb1 := HW.out.2.trans (HBt.out.mono HW.out.2.size)
          refine ⟨⟨i + 1, _, _, N, rfl, by go_num, by omega, Lib.hid ⟨⟨below_drewN' (HB2.out.trans (hb1.mono HB2.out.size)) _, ?_, HGD.out, by omega⟩, below_drewN' hb1 _⟩⟩, by simp [intOf]; omega⟩
          exact own_turns HW.out.1.row (.of_below (S := fun _ => False) (below_drewN' HBt.out _)) (fun _ _ => id)
        · have hu' : usB x = false := by simpa using hu
          rw [if_neg hu] at hfit
          rw [hu'] at HUS
          subst hfit
          clear hu hu'
          go_wp2_with (first | (go_at_call 12; refine (HMK.out _).mono ?_; rintro e wm ⟨rfl, hBm⟩; obtain ⟨d0, d1, d2, d3, dl⟩ := HFX.out wm hBm; have HBm := Lib.hid hBm; clear hBm) | (go_at_call 13; refine (HUS.out _).mono ?_; rintro e wu ⟨rfl, hBu⟩; have hBt := HBm.out.trans (hBu.mono HBm.out.size); obtain ⟨d0, d1, d2, d3, dl⟩ := HFX.out wu hBt; have HBt := Lib.hid hBt; clear hBu hBt))
          have hb1 := HW.out.2.trans (HBt.out.mono HW.out.2.size)
          refine ⟨⟨i + 1, _, _, N, rfl, by go_num, by omega, Lib.hid ⟨⟨HB2.out.trans (hb1.mono HB2.out.size), ?_, HGD.out, by omega⟩, hb1⟩⟩, by simp [intOf]; omega⟩
          exact own_turns HW.out.1.row (.of_below (S := fun _ => False) HBt.out) (fun _ _ => id)
    · obtain rfl : i = n := by omega
      have hlt' : ¬ (i : Int) < (i : Int) := by omega
      go_wp2_with (go_at_call 8; refine (wakes_any _).mono ?_; rintro e w3 ⟨rfl, hB3⟩; have HB3 := Lib.hid hB3; clear hB3)
      go_ret
      exact ⟨rfl, HW.out.1.bel.trans (HB3.out.mono HW.out.1.bel.size)⟩
theorem bound_any (w : World) (a : Option Addr) (n c : Nat) (t : List Tw) (h : TreeIn w a n c t) :
    Calls Try.prog 4 #[.slice a n c] w fun e w' => e = .returned (.bool true) ∧ Below w.heap.size w w' := by
  by_cases hn5 : 5000 < n
  · have hn5' : (5000 : Int) < (n : Int) := by omega
    clear h hn5
    go_enter Try.func4, Try.ntmps4
    go_wp2_with (go_at_call 8; refine (wakes_any _).mono ?_; rintro e w3 ⟨rfl, hB3⟩; have HB3 := Lib.hid hB3; clear hB3)
    go_ret
    exact ⟨rfl, HB3.out⟩
  · cases hs : slots t with
    | ok l => exact bound_ok w a n c t h hn5 l hs
    | error q =>
      obtain ⟨p, er⟩ := q
      have hn5' : ¬ (5000 : Int) < (n : Int) := by omega
      have hp := slots_er hs
      have hn := h.tw.len
      have hp0 : (0 : Int) ≤ (p : Int) := by omega
      have hp1 : (p : Int) ≤ (n : Int) := by omega
      have HSL := Lib.hid (slots_any w a n c t h.cap h.tw)
      have HS := Lib.hid hs
      clear h hs hn hp hn5
      go_enter Try.func4, Try.ntmps4
      go_wp2_with (first | (go_at_call 9; refine HSL.out.mono ?_; rintro e w2 ⟨hB2, hS⟩; rw [HS.out] at hS; obtain ⟨her, rfl⟩ := hS; have herI : ¬ (er : Int) = 0 := (by omega); have herb : ((er : Int) != 0) = true := (by simpa using her); have HB2 := Lib.hid hB2; clear hB2 her) | (go_at_call 8; refine (wakes_any _).mono ?_; rintro e w3 ⟨rfl, hB3⟩; have HB3 := Lib.hid hB3; clear hB3))
      go_ret
      exact ⟨rfl, HB2.out.trans (HB3.out.mono HB2.out.size)⟩
end Go.Proofs.Ytmacmejpcpdnnaa
