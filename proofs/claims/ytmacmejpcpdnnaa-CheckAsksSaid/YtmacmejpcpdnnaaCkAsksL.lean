/- check: the walk of the law CheckAsks. -/
import Derived.Test.YtmacmejpcpdnnaaCkRfAsks
import Derived.ArgAppend
namespace Go.Proofs.Ytmacmejpcpdnnaa
open Go.RowKit Go.Deep

/-- n cells, whatever they hold -/
structure Has (w : World) (B : Nat) (A : Option Addr) (n : Nat) : Prop where
  cell : ∀ i, i < n → ∃ b, A = some ⟨b, 0, none⟩ ∧ B ≤ b ∧ b < w.heap.size ∧ (w.cell? ⟨b, i, none⟩).isSome = true ∧ w.frozen? ⟨b, i, none⟩ = false
theorem Strs.has {w : World} {B n : Nat} {A : Option Addr} {ss : List (List UInt8)} (h : Strs w B A n ss) : Has w B A n :=
  ⟨fun i hi => by
    obtain ⟨b, e, h1, h2, h3, h4⟩ := h.cell i (by rw [h.len]; exact hi)
    exact ⟨b, e, h1, h2, by rw [h3]; rfl, h4⟩⟩
theorem Has.bel {w w' : World} {B n : Nat} {A : Option Addr} (h : Has w B A n) (k : Below w.heap.size w w') : Has w' B A n :=
  ⟨fun i hi => by
    obtain ⟨b, e, h1, h2, h3, h4⟩ := h.cell i hi
    exact ⟨b, e, h1, Nat.lt_of_lt_of_le h2 k.size, by rw [k.cell (p := ⟨b, i, none⟩) h2]; exact h3, by rw [← h4]; exact World.frozen?_of_block (k.block b h2)⟩⟩
theorem Has.set {w : World} {B n : Nat} {A : Option Addr} (h : Has w B A n) (g j : Nat) (u : Value) : Has (w.setCell ⟨g, j, none⟩ u) B A n :=
  ⟨fun i hi => by
    obtain ⟨b, e, h1, h2, h3, h4⟩ := h.cell i hi
    refine ⟨b, e, h1, by simp [World.setCell]; exact h2, ?_, by simpa using h4⟩
    obtain ⟨v, hv⟩ := Option.isSome_iff_exists.1 h3
    obtain ⟨v', hv'⟩ := cell?_setCell_some (p := ⟨g, j, none⟩) (x := u) hv
    rw [hv']
    rfl⟩
theorem Has.olds {w : World} {B n : Nat} {A : Option Addr} (h : Has w B A n) : ∃ olds : List Value, olds.length = n * 1 ∧ ∀ b, A = some b → ∀ j u, olds[j]? = some u → w.cell? (b.add j) = some u := by
  refine ⟨(List.range n).map fun i => ((A.bind fun b => w.cell? (b.add i)).getD undef), by simp, fun b e j u hu => ?_⟩
  rw [List.getElem?_map] at hu
  obtain ⟨i, hi, rfl⟩ := Option.map_eq_some_iff.1 hu
  obtain ⟨hj, rfl⟩ := List.getElem?_eq_some_iff.1 hi
  have hj' : j < n := by simpa using hj
  obtain ⟨g, e', _, _, h3, _⟩ := h.cell j hj'
  subst e'
  injection e with e
  subst e
  obtain ⟨v, hv⟩ := Option.isSome_iff_exists.1 h3
  have ha : (⟨g, 0, none⟩ : Addr).add j = ⟨g, j, none⟩ := by rw [add_at rfl, Nat.zero_add]
  simp only [List.getElem_range, Option.bind_some, ha, hv, Option.getD_some]
theorem Has.none {w : World} {B n : Nat} {A : Option Addr} (h : Has w B A n) (e : A = none) : n = 0 := by
  rcases Nat.eq_zero_or_pos n with h0 | h0
  · exact h0
  · obtain ⟨b, e', _⟩ := h.cell 0 h0
    rw [e] at e'
    cases e'
theorem Strs.set {w : World} {B n : Nat} {A : Option Addr} {ss : List (List UInt8)} (h : Strs w B A n ss) (g j : Nat) (u : Value) (hg : g < B) : Strs (w.setCell ⟨g, j, none⟩ u) B A n ss :=
  ⟨h.len, fun i hi => by
    obtain ⟨b, e, h1, h2, h3, h4⟩ := h.cell i hi
    have T := Turns.of_set (S := fun i => i = g) w ⟨g, j, none⟩ u rfl
    have hn : ¬ b = g := by omega
    exact ⟨b, e, h1, by simp [World.setCell]; exact h2, (T.cell (p := ⟨b, i, none⟩) h2 hn).trans h3, (T.fz (p := ⟨b, i, none⟩) h2 hn).trans h4⟩⟩
abbrev gone : Value := .string ⟨#[103, 111, 110, 101]⟩
set_option maxRecDepth 20000 in
set_option maxHeartbeats 25600000 in
theorem casks_any (w : World) (a : Option Addr) (n c : Nat) (t : List Tw) (h : TreeIn w a n c t) :
    Calls Try.prog 7 #[.slice a n c] w fun e w' => e = .returned (.bool true) ∧ Below w.heap.size w w' := by
  by_cases hn5 : 5000 < n
  · have hn5' : (5000 : Int) < (n : Int) := by omega
    clear h hn5
    go_enter Try.func7, Try.ntmps7
    go_wp2_with (go_at_call 8; refine (wakes_any _).mono ?_; rintro e w9 ⟨rfl, hB9⟩; have HB9 := Lib.hid hB9; clear hB9)
    go_ret
    exact ⟨rfl, HB9.out⟩
  · have hn5' : ¬ (5000 : Int) < (n : Int) := by omega
    have hn6 : n ≤ 5000 := by omega
    have hln := h.tw.len
    obtain ⟨i0, hi, hz0, hz1, hz2⟩ := info_parts info_str
    have HAS1 := Lib.hid (asks_any w a n c t h hn6)
    have HAS2 := Lib.hid (fun W (hW : Below w.heap.size w W) => asks_any W a n c t (h.bel hW) hn6)
    have HRF := Lib.hid (fun W (hW : Below w.heap.size w W) => refasks_any W a n c t (h.bel hW) hn6)
    have hl1 : (lst t 50).length ≤ 5000 := by have := lst_len t 50; omega
    have hl2 : (lst t 51).length ≤ 5000 := by have := lst_len t 51; omega
    have hl3 : (lst t 56).length ≤ 5000 := by have := lst_len t 56; omega
    unfold AsksY at HAS1 HAS2
    unfold RefY at HRF
    clear h hn5 hln
    generalize eR (slots t) = R at *
    generalize lst t 50 = l1 at *
    generalize lst t 51 = l2 at *
    generalize lst t 56 = l3 at *
    have HX1 := Lib.hid (fun W B B' A A' c c' (h1 : Strs W B A l1.length l1) (h2 : Strs W B' A' l1.length l1) => texts_any W B B' A A' c c' l1 h1 h2 hl1)
    have HX2 := Lib.hid (fun W B B' A A' c c' (h1 : Strs W B A l2.length l2) (h2 : Strs W B' A' l2.length l2) => texts_any W B B' A A' c c' l2 h1 h2 hl2)
    have HX3 := Lib.hid (fun W B B' A A' c c' (h1 : Strs W B A l3.length l3) (h2 : Strs W B' A' l3.length l3) => texts_any W B B' A A' c c' l3 h1 h2 hl3)
    obtain ⟨m1, hm1⟩ : ∃ m, l1.length = m := ⟨_, rfl⟩
    obtain ⟨m2, hm2⟩ : ∃ m, l2.length = m := ⟨_, rfl⟩
    obtain ⟨m3, hm3⟩ : ∃ m, l3.length = m := ⟨_, rfl⟩
    rw [hm1] at HAS1 HAS2 HRF HX1 hl1
    rw [hm2] at HAS1 HAS2 HRF HX2 hl2
    rw [hm3] at HAS1 HAS2 HRF HX3 hl3
    clear hm1 hm2 hm3
    have HY1 := Lib.hid HX1.out
    have HY2 := Lib.hid HX2.out
    have HY3 := Lib.hid HX3.out
    go_enter Try.func7, Try.ntmps7
    go_wp2_with (first | (go_at_call 19; refine HAS1.out.mono ?_; rintro e w1 ⟨hb1, A1, A2, A3, rfl, hs1, hs2, hs3⟩; have HB1 := Lib.hid hb1; have HS1 := Lib.hid hs1; have HS2 := Lib.hid hs2; have HS3 := Lib.hid hs3; clear hb1 hs1 hs2 hs3 HAS1) | (go_at_call 20; refine (HRF.out w1 HB1.out).mono ?_; rintro e w2 ⟨hb2, D1, D2, D3, d1, d2, d3, rfl, hs1, hs2, hs3⟩; have HB2 := Lib.hid hb2; have HT1 := Lib.hid (HS1.out.bel hb2); have HT2 := Lib.hid (HS2.out.bel hb2); have HT3 := Lib.hid (HS3.out.bel hb2); have HU1 := Lib.hid hs1; have HU2 := Lib.hid hs2; have HU3 := Lib.hid hs3; clear hb2 hs1 hs2 hs3 HRF) | (go_at_call 21; refine (HX1.out w2 _ _ A1 D1 _ _ HT1.out HU1.out).mono ?_; rintro e w3 ⟨rfl, hb3⟩; have HB3 := Lib.hid hb3; clear hb3 HX1) | (go_at_call 21; refine (HX2.out w3 _ _ A2 D2 _ _ (HT2.out.bel HB3.out) (HU2.out.bel HB3.out)).mono ?_; rintro e w4 ⟨rfl, hb4⟩; have HB4 := Lib.hid (HB3.out.trans (hb4.mono HB3.out.size)); clear hb4 HX2) | (go_at_call 21; refine (HX3.out w4 _ _ A3 D3 _ _ (HT3.out.bel HB4.out) (HU3.out.bel HB4.out)).mono ?_; rintro e w5 ⟨rfl, hb5⟩; have HB5 := Lib.hid (HB4.out.trans (hb5.mono HB4.out.size)); clear hb5 HX3))
    have HE5 := Lib.hid ((HB1.out.trans (HB2.out.mono HB1.out.size)).trans (HB5.out.mono (Nat.le_trans HB1.out.size HB2.out.size)))
    go_loopw [11] (fun iv wr => ∃ i : Nat, iv = .int .i64 (i : Int) ∧ i ≤ m1 ∧ Hid (Below w.heap.size w wr ∧ Has wr w.heap.size A1 m1 ∧ Has wr w.heap.size A2 m2 ∧ Strs wr w1.heap.size D1 m1 l1 ∧ Strs wr w1.heap.size D2 m2 l2 ∧ Strs wr w1.heap.size D3 m3 l3)) (fun iv _ => m1 - (intOf iv).toNat)
    case atStart => exact ⟨0, rfl, Nat.zero_le _, Lib.hid ⟨HE5.out, HT1.out.has.bel HB5.out, HT2.out.has.bel HB5.out, HU1.out.bel HB5.out, HU2.out.bel HB5.out, HU3.out.bel HB5.out⟩⟩
    case round =>
      obtain ⟨i, rfl, hi9, HW⟩ := hrel
      by_cases hlt : i < m1
      · have hlt' : (i : Int) < (m1 : Int) := by omega
        obtain ⟨g, e, h1, h2, h3, h4⟩ := HW.out.2.1.cell i hlt
        obtain ⟨v0, hv0⟩ := Option.isSome_iff_exists.1 h3
        obtain ⟨g', e', _, hg', _⟩ := HS1.out.cell i (by rw [HS1.out.len]; exact hlt)
        subst e
        injection e' with e'
        injection e' with e'
        subst e'
        clear h3
        go_wp2_with fail
        exact ⟨⟨i + 1, by go_num, by omega, Lib.hid ⟨HW.out.1.setCell (p := ⟨g, i, none⟩) h1 _, HW.out.2.1.set g i _, HW.out.2.2.1.set g i _, HW.out.2.2.2.1.set g i _ hg', HW.out.2.2.2.2.1.set g i _ hg', HW.out.2.2.2.2.2.set g i _ hg'⟩⟩, by simp [intOf]; omega⟩
      · obtain rfl : i = m1 := by omega
        have hlt' : ¬ (i : Int) < (i : Int) := by omega
        have HN6 := Lib.hid (Below.new wr (.cells #[gone, gone] 9))
        obtain ⟨O1, hO1, hO2⟩ := (HW.out.2.1.bel HN6.out).olds
        have HO1 := Lib.hid hO1
        have HO2 := Lib.hid hO2
        have HK1 : Hid (A1 = none → i = 0 ∧ i = 0) := Lib.hid (fun e => ⟨HW.out.2.1.none e, HW.out.2.1.none e⟩)
        have HNW := Lib.hid (Blk.new wr 9 [gone, gone]).news
        have hb1 : Hid (i + 2 ≤ maxLen) := Lib.hid (by unfold maxLen; omega)
        have hb2 : Hid ((i + 2) * 16 ≤ 140737488355328) := Lib.hid (by omega)
        have hb3 : Hid (m2 + 2 ≤ maxLen) := Lib.hid (by unfold maxLen; omega)
        have hb4 : Hid ((m2 + 2) * 16 ≤ 140737488355328) := Lib.hid (by omega)
        clear hO1 hO2
        go_wp2_with (first
          | (at_builtin; refine wpList_append_grows _ rfl _ _ 31 rfl 9 i0 _ 1 16 Try.underlying31 hi hz0 hz1 hz2 rfl (by decide) A1 i i O1 rfl HK1.out HO1.out HO2.out ⟨wr.heap.size, 0, none⟩ 2 2 [gone, gone] rfl rfl HNW.out (by intro u hu; simp at hu; subst hu; rfl) (by omega) hb1.out hb2.out ?_; intro v6 w6 ho6 hg6; obtain ⟨A6, c6, rfl⟩ := own_slice' ho6; have HB6 := Lib.hid (HN6.out.trans (((Below.refl _ _).grown hg6 (Nat.le_refl _) (fun r e => by cases e)).mono HN6.out.size)); clear ho6 hg6 HO1 HO2 HNW HK1)
          | (at_builtin; have HN7 := Lib.hid (Below.new w6 (.cells #[gone, gone] 9)); have HH2 := HW.out.2.2.1.bel HB6.out; obtain ⟨O3, hO3, hO4⟩ := (HH2.bel HN7.out).olds; refine wpList_append_grows _ rfl _ _ 31 rfl 9 i0 _ 1 16 Try.underlying31 hi hz0 hz1 hz2 rfl (by decide) A2 m2 m2 O3 rfl (fun e => ⟨HH2.none e, HH2.none e⟩) hO3 hO4 ⟨w6.heap.size, 0, none⟩ 2 2 [gone, gone] rfl rfl (Blk.new w6 9 [gone, gone]).news (by intro u hu; simp at hu; subst hu; rfl) (by omega) hb3.out hb4.out ?_; intro v7 w7 ho7 hg7; obtain ⟨A7, c7, rfl⟩ := own_slice' ho7; have HB7 := Lib.hid (HB6.out.trans ((HN7.out.trans (((Below.refl _ _).grown hg7 (Nat.le_refl _) (fun r e => by cases e)).mono HN7.out.size)).mono HB6.out.size)); have HE7 := Lib.hid (HW.out.1.trans (HB7.out.mono HW.out.1.size)); clear ho7 hg7 HH2 hO3 hO4)
          | (go_at_call 19; refine (HAS2.out w7 HE7.out).mono ?_; rintro e w8 ⟨hb8, E1, E2, E3, rfl, hs1, hs2, hs3⟩; have HB8 := Lib.hid (HB7.out.trans (hb8.mono HB7.out.size)); have HV1 := Lib.hid hs1; have HV2 := Lib.hid hs2; have HV3 := Lib.hid hs3; clear hb8 hs1 hs2 hs3 HAS2)
          | (go_at_call 21; refine (HY1.out w8 _ _ E1 D1 _ _ HV1.out (HW.out.2.2.2.1.bel HB8.out)).mono ?_; rintro e w9 ⟨rfl, hb9⟩; have HB9 := Lib.hid hb9; clear hb9 HY1)
          | (go_at_call 21; refine (HY2.out w9 _ _ E2 D2 _ _ (HV2.out.bel HB9.out) ((HW.out.2.2.2.2.1.bel HB8.out).bel HB9.out)).mono ?_; rintro e w10 ⟨rfl, hb10⟩; have HB10 := Lib.hid (HB9.out.trans (hb10.mono HB9.out.size)); clear hb10 HY2)
          | (go_at_call 21; refine (HY3.out w10 _ _ E3 D3 _ _ (HV3.out.bel HB10.out) ((HW.out.2.2.2.2.2.bel HB8.out).bel HB10.out)).mono ?_; rintro e w11 ⟨rfl, hb11⟩; have HB11 := Lib.hid (HB10.out.trans (hb11.mono HB10.out.size)); clear hb11 HY3)
          | (go_at_call 8; refine (wakes_any _).mono ?_; rintro e w12 ⟨rfl, hb12⟩; have HB12 := Lib.hid hb12; clear hb12))
        go_ret
        have e8 := HW.out.1.trans (HB8.out.mono HW.out.1.size)
        have e11 := e8.trans (HB11.out.mono e8.size)
        exact ⟨rfl, e11.trans (HB12.out.mono e11.size)⟩
end Go.Proofs.Ytmacmejpcpdnnaa
