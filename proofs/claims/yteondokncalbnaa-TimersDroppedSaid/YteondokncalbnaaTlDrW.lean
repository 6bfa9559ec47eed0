/- TimersDropped: the walk, and at what came in. -/
import Derived.Test.YteondokncalbnaaTlDrX
import Derived.Deep.OwnRows
import Derived.OpenShut
namespace Go.Proofs.Yteondokncalbnaa
open Go.RowKit

set_option maxRecDepth 100000 in
set_option maxHeartbeats 4000000 in
theorem dropped_long (a0 a1 a2 : Option Addr) (n c0 m c1 q c2 : Nat) (all : Bool) (w : World) (hl : 100 < n ∨ 100 < m ∨ 30 < q) : Calls Try.prog 8 #[.slice a0 n c0, .slice a1 m c1, .slice a2 q c2, .bool all] w fun e w' => e = .returned (.bool true) ∧ Below w.heap.size w w' := by
  have HA := Lib.hid (awake_any w)
  by_cases h0 : 100 < n
  · have q0 : decide ((100 : Int) < (n : Int)) = true := decide_eq_true (by omega)
    clear hl h0
    go_enter Try.func8, Try.ntmps8
    go_wp2_with (go_at_call 9; refine HA.out.mono ?_; rintro e w1 ⟨rfl, hb⟩; have HB := Lib.hid hb; clear hb)
    go_ret
    exact ⟨rfl, HB.out⟩
  · have q0 : decide ((100 : Int) < (n : Int)) = false := decide_eq_false (by omega)
    by_cases h1 : 100 < m
    · have q1 : decide ((100 : Int) < (m : Int)) = true := decide_eq_true (by omega)
      clear hl h0 h1
      go_enter Try.func8, Try.ntmps8
      go_wp2_with (go_at_call 9; refine HA.out.mono ?_; rintro e w1 ⟨rfl, hb⟩; have HB := Lib.hid hb; clear hb)
      go_ret
      exact ⟨rfl, HB.out⟩
    · have q1 : decide ((100 : Int) < (m : Int)) = false := decide_eq_false (by omega)
      have q2 : decide ((30 : Int) < (q : Int)) = true := decide_eq_true (by omega)
      clear hl h0 h1
      go_enter Try.func8, Try.ntmps8
      go_wp2_with (go_at_call 9; refine HA.out.mono ?_; rintro e w1 ⟨rfl, hb⟩; have HB := Lib.hid hb; clear hb)
      go_ret
      exact ⟨rfl, HB.out⟩
/-- the table and the row of those that are dropped -/
structure DrW (H : Nat) (wr : World) (t tb n : Nat) (S : Nat → Prop) (L : List Lt) (out : Nat → Bool) : Prop where
  tab : TL wr t S L n
  row : Blk wr tb 4 (bl out n)
  lo : ∀ i, S i → H ≤ i
  ne : ¬ S tb
  tb : H ≤ tb
theorem DrW.bel {H : Nat} {wr w' : World} {t tb n : Nat} {S : Nat → Prop} {L : List Lt} {out : Nat → Bool} (h : DrW H wr t tb n S L out) (hb : Below wr.heap.size wr w') : DrW H w' t tb n S L out :=
  ⟨h.tab.bel hb, h.row.bel hb, h.lo, h.ne, h.tb⟩
theorem DrW.step {H : Nat} {wr w' : World} {t tb n : Nat} {S S' : Nat → Prop} {L L' : List Lt} {out : Nat → Bool} (h : DrW H wr t tb n S L out) (hH : H ≤ wr.heap.size) (h' : TL w' t S' L' n) (g : Grows wr S S') (k : Turns S wr w') : DrW H w' t tb n S' L' out :=
  ⟨h', h.row.turns k h.ne, fun i hi => (g i hi).elim (h.lo i) (fun e => by omega), fun e => (g tb e).elim h.ne (fun e => by have := h.row.lt; omega), h.tb⟩
theorem DrW.mark {H : Nat} {wr : World} {t tb n : Nat} {S : Nat → Prop} {L : List Lt} {out : Nat → Bool} (h : DrW H wr t tb n S L out) (j : Nat) : DrW H (wr.setCell ⟨tb, j, none⟩ (.bool true)) t tb n S L (ups out j) :=
  ⟨h.tab.keep (Turns.of_set (S := fun i => i = tb) wr ⟨tb, j, none⟩ (.bool true) rfl) (fun i hi e => h.ne (e ▸ hi)), by have := h.row.set j (.bool true); rwa [bl_set] at this, h.lo, h.ne, h.tb⟩
theorem low_step {H : Nat} {w w1 w2 : World} {S : Nat → Prop} (hH : w.heap.size = H) (b : Below H w w1) (hS : ∀ i, S i → H ≤ i) (t : Turns S w1 w2) : Below H w w2 := by
  subst hH
  exact ((Turns.of_below (S := fun i => w.heap.size ≤ i) b).then (t.mono (fun i _ e => hS i e))).below (Nat.le_refl _) (fun _ _ e => e)
theorem no_true {b : Bool} {P : Prop} (h : b = true ↔ P) (hn : ¬ P) : b = false := by
  cases b with
  | false => rfl
  | true => exact absurd (h.1 rfl) hn
set_option maxRecDepth 100000 in
set_option maxHeartbeats 16000000 in
theorem dropped_in (a0 a1 a2 : Option Addr) (n c0 m c1 q c2 : Nat) (all : Bool) (z gz g : Nat → Int) (w : World) (i0 : Ints w a0 n z) (i1 : Ints w a1 m gz) (i2 : Ints w a2 q g) (hn : n ≤ 100) (hm : m ≤ 100) (hq : q ≤ 30) :
    Calls Try.prog 8 #[.slice a0 n c0, .slice a1 m c1, .slice a2 q c2, .bool all] w fun e w' => e = .returned (.bool true) ∧ Below w.heap.size w w' := by
  have I0 := Lib.hid i0
  have I1 := Lib.hid i1
  have I2 := Lib.hid i2
  have HA := Lib.hid (awake_any w)
  have q0 : decide ((100 : Int) < (n : Int)) = false := decide_eq_false (by omega)
  have q1 : decide ((100 : Int) < (m : Int)) = false := decide_eq_false (by omega)
  have q2 : decide ((30 : Int) < (q : Int)) = false := decide_eq_false (by omega)
  clear i0 i1 i2
  go_enter Try.func8, Try.ntmps8
  go_upto_region 5 with (go_at_call 9; refine HA.out.mono ?_; rintro e w1 ⟨rfl, hb⟩; have HB := Lib.hid hb; clear hb)
  have HFi := Lib.hid (filledL w1 a0 n c0 z (I0.out.bel HB.out) (by omega))
  unfold FilledY at HFi
  have hmk := run_make_row' (P := Try.prog) 27 4 (.bool false) 1 Try.underlying27 info_bool rfl .i64 .i64 n (by omega) (by omega)
  clear q0 q1 q2
  go_upto_region 6 with (go_at_call 10; refine HFi.out.mono ?_; rintro e w2 ⟨t, S, L, rfl, ht, hp, hl, hb2⟩)
  have HF : Hid (Fill z n L) := Lib.hid ⟨hp, ht.srt⟩
  have HB2 := Lib.hid (below_trans' HB.out hb2)
  have HT0 := Lib.hid ht
  have HL0 := Lib.hid hl
  have hs0 := HB.out.size
  clear ht hp hl hb2
  go_upto_region 9 with (fail)
  have HW : Hid (DrW w.heap.size (w2.alloc (.cells (madeCells #[.bool false] n) 4)) t w2.heap.size n S (outL (fun _ => false) L) (fun _ => false)) := Lib.hid (by
    have e : outL (fun _ => false) L = L := by unfold outL; simp
    rw [e]
    exact ⟨HT0.out.bel (Below.new _ _), by rw [made_bl]; exact Blk.new _ _ _, fun i hi => Nat.le_trans hs0 (HL0.out i hi), fun e => by have := HT0.out.lts _ e; omega, HB2.out.size⟩)
  have HBe : Hid (Below w.heap.size w (w2.alloc (.cells (madeCells #[.bool false] n) 4))) := Lib.hid (below_trans' HB2.out (Below.new _ _))
  generalize w2.alloc (.cells (madeCells #[.bool false] n) 4) = W at *
  generalize w2.heap.size = tb at *
  generalize hH : w.heap.size = H at *
  have HH := Lib.hid hH
  clear hH hmk HT0 HL0 HB2 hs0
  go_wp2_with fail
  go_loopw [12, 13, 14, 15] (fun iv _ _ _ wr => ∃ (i : Nat) (S : Nat → Prop) (out : Nat → Bool), i ≤ m ∧ iv = .int .i64 (i : Int) ∧ Hid (DrW H wr t tb n S (outL out L) out) ∧ Hid (Below H w wr)) (fun iv _ _ _ _ => m - (intOf iv).toNat)
  case atStart => exact ⟨0, S, _, by omega, rfl, HW, HBe⟩
  case round =>
    obtain ⟨i, S, out, hi, rfl, hW, hB⟩ := hrel
    by_cases hlt : i < m
    · have hlt1 : (i : Int) < (m : Int) := by omega
      obtain ⟨x1, rfl, hx1, hc1⟩ := (I1.out.bel (by rw [HH.out]; exact hB.out)).cell i hlt
      have hwf := I1.out.wf i hlt
      have HD := drop_any wr t S (outL out L) n hW.out.tab (ownI (gz i)) (gz i)
      have HN := Lib.hid (named_out HF.out out (gz i))
      generalize gz i = k at *
      clear hx1
      have hpar : ((k.tmod 2 != 0) = false ∧ ownI k = ⟨#[97]⟩) ∨ ((k.tmod 2 != 0) = true ∧ ownI k = ⟨#[98]⟩) := by
        unfold ownI
        by_cases e : k.tmod 2 = 0
        · exact .inl ⟨by simp [e], if_pos e⟩
        · exact .inr ⟨by simp [e], if_neg e⟩
      have hsz : H ≤ wr.heap.size := by have := hB.out.size; have := HH.out; omega
      by_cases hr : 0 ≤ k ∧ k < (n : Int)
      · obtain ⟨j, rfl⟩ : ∃ j : Nat, k = (j : Int) := ⟨k.toNat, by omega⟩
        have hj : j < n := by omega
        have hd0 : decide ((0 : Int) ≤ (j : Int)) = true := decide_eq_true hr.1
        have hd1 : decide ((j : Int) < (n : Int)) = true := decide_eq_true hr.2
        have hd2 : decide (j < n) = true := decide_eq_true hj
        have hdr := drop_out HF.out out j
        have hce := hW.out.row.cell j
        rw [bl_at out hj] at hce
        have etm : ((j : Int)).tmod 2 = (j : Int) % 2 := Int.tmod_eq_emod_of_nonneg (by omega)
        rw [etm] at hpar
        cases hoj : out j
        · have hnm : named (outL out L) (ownI (j : Int)) (j : Int) := HN.out.2 ⟨hr, by simpa using hoj⟩
          rw [hoj] at hce
          have HNm := Lib.hid hnm
          have HDr := Lib.hid hdr
          clear hnm hdr HN hoj etm
          rcases hpar with ⟨hp, ho⟩ | ⟨hp, ho⟩
          all_goals
            rw [ho] at HD HNm HDr
            unfold DropY at HD
            rw [HDr.out] at HD
            have HDe := Lib.hid HD
            clear ho HD
            go_wp2_with (go_at_call 15; refine HDe.out.mono ?_; rintro e w3 ⟨b, rfl, hb, S2, h3, g3, t3⟩; obtain rfl : b = true := hb.2 HNm.out; have HW3 := Lib.hid (hW.out.step hsz h3 g3 t3); have HB3 := Lib.hid (low_step HH.out hB.out hW.out.lo t3); have HW4 := Lib.hid (HW3.out.mark j); have hce3 := HW3.out.row.cell j; have hz3 := HW3.out.row.fz j; rw [bl_at out hj] at hce3; have HB4 := Lib.hid (HB3.out.setCell (p := ⟨tb, j, none⟩) HW3.out.tb (.bool true)); clear h3 g3 t3 hb hce)
            go_roundw
            case measure => simp only [intOf]; omega
            case rel => first | exact ⟨i + 1, S2, ups out j, by omega, by go_num, HW4, HB4⟩ | ((repeat apply Exists.intro); exact ⟨⟨i + 1, S2, ups out j, by omega, by go_num, HW4, HB4⟩, rfl⟩)
        · have hnm : ¬ named (outL out L) (ownI (j : Int)) (j : Int) := fun e => by
            have := (HN.out.1 e).2
            rw [Int.toNat_natCast, hoj] at this
            cases this
          rw [hoj] at hce
          have HNm := Lib.hid hnm
          have hdr := dropL_no hnm
          have HDr := Lib.hid hdr
          clear hnm hdr HN hoj etm
          rcases hpar with ⟨hp, ho⟩ | ⟨hp, ho⟩
          all_goals
            rw [ho] at HD HNm HDr
            unfold DropY at HD
            rw [HDr.out] at HD
            have HDe := Lib.hid HD
            clear ho HD
            go_wp2_with (go_at_call 15; refine HDe.out.mono ?_; rintro e w3 ⟨b, rfl, hb, S2, h3, g3, t3⟩; obtain rfl : b = false := no_true hb HNm.out; have HW3 := Lib.hid (hW.out.step hsz h3 g3 t3); have HB3 := Lib.hid (low_step HH.out hB.out hW.out.lo t3); clear h3 g3 t3 hb)
            go_roundw
            case measure => simp only [intOf]; omega
            case rel => first | exact ⟨i + 1, S2, out, by omega, by go_num, HW3, HB3⟩ | ((repeat apply Exists.intro); exact ⟨⟨i + 1, S2, out, by omega, by go_num, HW3, HB3⟩, rfl⟩)
      · have hnm : ¬ named (outL out L) (ownI k) k := fun e => hr (HN.out.1 e).1
        by_cases hk0 : 0 ≤ k
        · have hd0 : decide ((0 : Int) ≤ k) = true := decide_eq_true hk0
          have hd1 : decide (k < (n : Int)) = false := decide_eq_false (fun e => hr ⟨hk0, e⟩)
          have etm : k.tmod 2 = k % 2 := Int.tmod_eq_emod_of_nonneg hk0
          rw [etm] at hpar
          have HNm := Lib.hid hnm
          have hdr := dropL_no hnm
          have HDr := Lib.hid hdr
          clear hnm hdr HN hr etm
          rcases hpar with ⟨hp, ho⟩ | ⟨hp, ho⟩
          all_goals
            rw [ho] at HD HNm HDr
            unfold DropY at HD
            rw [HDr.out] at HD
            have HDe := Lib.hid HD
            clear ho HD
            go_wp2_with (go_at_call 15; refine HDe.out.mono ?_; rintro e w3 ⟨b, rfl, hb, S2, h3, g3, t3⟩; obtain rfl : b = false := no_true hb HNm.out; have HW3 := Lib.hid (hW.out.step hsz h3 g3 t3); have HB3 := Lib.hid (low_step HH.out hB.out hW.out.lo t3); clear h3 g3 t3 hb)
            go_roundw
            case measure => simp only [intOf]; omega
            case rel => first | exact ⟨i + 1, S2, out, by omega, by go_num, HW3, HB3⟩ | ((repeat apply Exists.intro); exact ⟨⟨i + 1, S2, out, by omega, by go_num, HW3, HB3⟩, rfl⟩)
        · have hd0 : decide ((0 : Int) ≤ k) = false := decide_eq_false hk0
          have HNm := Lib.hid hnm
          have hdr := dropL_no hnm
          have HDr := Lib.hid hdr
          clear hnm hdr HN hr
          rcases hpar with ⟨hp, ho⟩ | ⟨hp, ho⟩
          all_goals
            rw [ho] at HD HNm HDr
            unfold DropY at HD
            rw [HDr.out] at HD
            have HDe := Lib.hid HD
            clear ho HD
            go_wp2_with (go_at_call 15; refine HDe.out.mono ?_; rintro e w3 ⟨b, rfl, hb, S2, h3, g3, t3⟩; obtain rfl : b = false := no_true hb HNm.out; have HW3 := Lib.hid (hW.out.step hsz h3 g3 t3); have HB3 := Lib.hid (low_step HH.out hB.out hW.out.lo t3); clear h3 g3 t3 hb)
            go_roundw
            case measure => simp only [intOf]; omega
            case rel => first | exact ⟨i + 1, S2, out, by omega, by go_num, HW3, HB3⟩ | ((repeat apply Exists.intro); exact ⟨⟨i + 1, S2, out, by omega, by go_num, HW3, HB3⟩, rfl⟩)
    · obtain rfl : i = m := by omega
      have hlt1 : ¬ (i : Int) < (i : Int) := by omega
      have HZ : Hid (∀ i, i < n → -9223372036854775808 ≤ z i ∧ z i ≤ 9223372036854775807) := Lib.hid I0.out.wf
      have HMx := Lib.hid (mx_in I2.out.wf)
      have HCn : Hid (cntN all out z q (mx g q) n = (oneL g (aliveL all out L) q).length) := Lib.hid (cnt_one HF.out all out g q)
      have HAl := Lib.hid (HF.out.alv all out)
      have HCS := Lib.hid (cntN_succ all out z q (mx g q))
      have HCL := Lib.hid (cntN_le all out z q (mx g q))
      have HC0 : Hid (cntN all out z q (mx g q) 0 = 0) := Lib.hid rfl
      generalize cntN all out z q (mx g q) = cn at HCS HCL HC0 HCn
      have hall : all = false ∨ all = true := by cases all <;> simp
      rcases hall with hall | hall
      all_goals first
        | (skip
           obtain rfl : all = false := hall
           have hw1 := hW.out
           rw [alive_not] at hw1
           have HW1 := Lib.hid hw1
           have HB1 := hB
           obtain ⟨L2, hL2⟩ : ∃ L2, L2 = aliveL false out L := ⟨_, rfl⟩
           rw [← hL2] at HW1 HCn HAl
           clear hw1 hW hB hL2
           generalize wr = W3 at *
           generalize S = S3 at *
           go_upto_region 23 with (fail))
        | (skip
           obtain rfl : all = true := hall
           obtain ⟨L2, hL2⟩ : ∃ L2, L2 = aliveL true out L := ⟨_, rfl⟩
           have hda := dropAllL wr t S (outL out L) n hW.out.tab ⟨#[98]⟩
           rw [alive_all HF.out, ← hL2] at hda
           have HDA := Lib.hid hda
           have hsz : H ≤ wr.heap.size := by have := hB.out.size; have := HH.out; omega
           rw [← hL2] at HCn HAl
           clear hda hL2
           go_upto_region 23 with (go_at_call 16; refine HDA.out.mono ?_; rintro e W3 ⟨rfl, S3, h3, g3, t3⟩; have HW1 := Lib.hid (hW.out.step hsz h3 g3 t3); have HB1 := Lib.hid (low_step HH.out hB.out hW.out.lo t3); clear h3 g3 t3 hW hB))
      all_goals
        go_wp2_with fail
        go_loopw [16, 17] (fun lv iv wr => ∃ i : Nat, i ≤ q ∧ iv = .int .i64 (i : Int) ∧ lv = .int .i64 (mx g i) ∧ wr = W3) (fun _ iv _ => q - (intOf iv).toNat)
        case atStart => exact ⟨0, by omega, rfl, rfl, rfl⟩
        case round =>
          obtain ⟨i, hi, rfl, rfl, rfl⟩ := hrel
          by_cases hlt : i < q
          · have hlt1 : (i : Int) < (q : Int) := by omega
            obtain ⟨x1, rfl, hx1, hc1⟩ := (I2.out.bel (by rw [HH.out]; exact HB1.out)).cell i hlt
            have HMs : Hid (mx g (i + 1) = max (mx g i) (g i)) := Lib.hid rfl
            clear hx1
            generalize g i = gi at *
            go_wp2_with fail
            go_roundw
            case measure => simp only [intOf]; omega
            case rel => first | exact ⟨i + 1, by omega, by go_num, by rw [HMs.out], by first | rfl | trivial⟩ | ((repeat apply Exists.intro); exact ⟨⟨i + 1, by omega, by go_num, by rw [HMs.out], by first | rfl | trivial⟩, rfl⟩)
          · obtain rfl : q = i := by omega
            have hlt1 : ¬ (q : Int) < (q : Int) := by omega
            have HTw := Lib.hid (twinL wr t S3 L2 n HW1.out.tab)
            unfold TwinY at HTw
            go_upto_region 29 with (go_at_call 18; refine HTw.out.mono ?_; rintro e W4 ⟨tx, Sx, rfl, hx4, hlx, hb4⟩)
            have HBx := Lib.hid (HW1.out.tab.bel hb4)
            have HX := Lib.hid hx4
            have HRo4 := Lib.hid (HW1.out.row.bel hb4)
            have HNt : Hid (¬ Sx tb) := Lib.hid (fun e => by have h1 := hlx tb e; have h2 := HW1.out.row.lt; omega)
            have HLx := Lib.hid hlx
            have HB4 := Lib.hid (HB1.out.trans (hb4.mono (HH.out ▸ HB1.out.size)))
            have hfit := HAl.out.fit HZ.out (by omega)
            have HOp := Lib.hid (opened_any W4 t S3 L2 n HBx.out (fun x hx => (hfit x hx).1) (Nat.le_trans (tabB_len2 hfit (by have := HAl.out.len; omega)) (by omega)))
            clear hx4 hlx hb4 HTw hfit
            unfold OpenedY at HOp
            go_upto_region 31 with (go_at_call 30; refine HOp.out.mono ?_; rintro e W5 ⟨ty, Sy, rfl, hy5, hly, hb5⟩; have HX5 := Lib.hid (HX.out.bel hb5); have HY5 := Lib.hid hy5; have HT5 := Lib.hid (HBx.out.bel hb5); have HB5 := Lib.hid (HB4.out.trans (hb5.mono (HH.out ▸ HB4.out.size))); have HS5 := Lib.hid hb5.size; have HDis : Hid ((∀ i, Sx i → ¬ S3 i) ∧ (∀ i, Sy i → ¬ S3 i) ∧ (∀ i, Sy i → ¬ Sx i) ∧ (∀ i, Sx i → H ≤ i) ∧ (∀ i, Sy i → H ≤ i)) := Lib.hid ⟨fun i hi hj => (by have h1 := HLx.out i hi; have h2 := HW1.out.tab.lts i hj; omega), fun i hi hj => (by have h1 := hly i hi; have h2 := HBx.out.lts i hj; omega), fun i hi hj => (by have h1 := hly i hi; have h2 := HX.out.lts i hj; omega), fun i hi => (by have h1 := HLx.out i hi; have h2 := HB1.out.size; rw [HH.out] at h2; omega), fun i hi => (by have h1 := hly i hi; have h2 := HB4.out.size; rw [HH.out] at h2; omega)⟩; have HRo5 := Lib.hid (HRo4.out.bel hb5); have HNy : Hid (¬ Sy tb) := Lib.hid (fun e => by have h1 := hly tb e; have h2 := HRo4.out.lt; omega); clear hy5 hly hb5 HBx HX HB4 HLx HRo4)
            go_wp2_with fail
            go_loopw [20, 21, 22] (fun nv ov iv wr => ∃ (i : Nat) (S' : Nat → Prop) (A : Option Addr) (c : Nat), i ≤ q ∧ nv = .int .i64 (mx g i) ∧ ov = .slice A (oneL g L2 i).length c ∧ iv = .int .i64 (i : Int) ∧ Hid (DuW W5 t n S3 wr S' (restL g L2 i) (.slice A (oneL g L2 i).length c) (oneL g L2 i))) (fun _ _ iv _ => q - (intOf iv).toNat)
            case atStart => exact ⟨0, S3, none, 0, by omega, rfl, rfl, rfl, Lib.hid (DuW.start HT5.out)⟩
            case round =>
              obtain ⟨i, S', A, c, hi, rfl, rfl, rfl, hDu⟩ := hrel
              have HBw := Lib.hid (low_step HH.out HB5.out HW1.out.lo hDu.out.turn)
              by_cases hlt : i < q
              · have hlt1 : (i : Int) < (q : Int) := by omega
                obtain ⟨x1, rfl, hx1, hc1⟩ := (I2.out.bel (by rw [HH.out]; exact HBw.out)).cell i hlt
                have hone := one_step g HAl.out.srt i
                have hle1 := oneL_len g L2 (i + 1)
                have hd := dueL wr t S' (restL g L2 i) n hDu.out.tab (mx g (i + 1))
                have HMs : Hid (mx g (i + 1) = max (mx g i) (g i)) := Lib.hid rfl
                have hsum : (oneL g L2 i).length + (ltE (mx g (i + 1)) (restL g L2 i)).length ≤ 100000 := by
                  rw [← List.length_append, hone.1]
                  have := HAl.out.len
                  omega
                rw [HMs.out] at hd hone hsum
                have HD := Lib.hid hd
                have HOne := Lib.hid hone
                have HSum := Lib.hid hsum
                clear hx1 hd hone hsum hle1
                generalize g i = gi at *
                go_wp2_with (first | (go_at_call 11; refine HD.out.mono ?_; rintro e w1 ⟨A1, c1, rfl, ho, S2, h2, g2, k2⟩; obtain ⟨A2, c2, w2, hrun, hD2⟩ := hDu.out.step ho h2 g2 k2 HSum.out 28; rw [HOne.out.1] at hrun hD2; rw [HOne.out.2] at hD2; have HRun := Lib.hid hrun; have HD2 := Lib.hid hD2; clear hrun hD2 ho h2 g2 k2) | (at_builtin; refine wpl_append_run rfl _ _ 28 rfl _ _ rfl rfl _ _ HRun.out ?_))
                go_roundw
                case measure => simp only [intOf]; omega
                case rel => first | exact ⟨i + 1, S2, A2, c2, by omega, by rw [HMs.out], by first | rfl | trivial, by go_num, HD2⟩ | ((repeat apply Exists.intro); exact ⟨⟨i + 1, S2, A2, c2, by omega, by rw [HMs.out], by first | rfl | trivial, by go_num, HD2⟩, rfl⟩)
              · obtain rfl : q = i := by omega
                have hlt1 : ¬ (q : Int) < (q : Int) := by omega
                have HX6 := Lib.hid (HX5.out.keep hDu.out.turn HDis.out.1)
                have HY6 := Lib.hid (HY5.out.keep hDu.out.turn HDis.out.2.1)
                have HR6 : Hid (∀ i, (Value.slice A (oneL g L2 q).length c).ownBlock = some i → W5.heap.size ≤ i ∧ i < wr.heap.size) := Lib.hid (fun i e => own_geT hDu.out.row e)
                have HDx := Lib.hid (dueL wr tx Sx L2 _ HX6.out (mx g q))
                go_upto_region 40 with (go_at_call 11; refine HDx.out.mono ?_; rintro e w6 ⟨A2, c2, rfl, ho2, Sx2, hx2, gx, kx⟩; have R1 := Lib.hid (own_turns hDu.out.row kx (fun i e hi => by have h1 := HR6.out i e; have h2 := HX5.out.lts i hi; omega)); have HY7 := Lib.hid (HY6.out.keep kx HDis.out.2.2.1); have R2 := Lib.hid ho2; have HB6 := Lib.hid (low_step HH.out HBw.out HDis.out.2.2.2.1 kx); have HR7 : Hid (∀ i, (Value.slice A2 (ltE (mx g q) L2).length c2).ownBlock = some i → wr.heap.size ≤ i) := Lib.hid (fun i e => (own_geT ho2 e).1); have HRw := Lib.hid ((HRo5.out.turns hDu.out.turn HW1.out.ne).turns kx HNt.out); clear ho2 hx2 gx kx)
                have HDy := Lib.hid (dueL w6 ty Sy L2 _ HY7.out (mx g q))
                have HS6 : Hid (W5.heap.size ≤ wr.heap.size) := Lib.hid hDu.out.turn.size
                go_upto_region 41 with (go_at_call 11; refine HDy.out.mono ?_; rintro e w7 ⟨A3, c3, rfl, ho3, Sy2, hy2, gy, ky⟩; have HRw7 := Lib.hid (HRw.out.turns ky HNy.out); have HB7 := Lib.hid (low_step HH.out HB6.out HDis.out.2.2.2.2 ky); have R3 := Lib.hid ho3; have R27 := Lib.hid (own_turns R2.out ky (fun i e hi => by have h1 := HR7.out i e; have h2 := HY5.out.lts i hi; have h3 := HS6.out; omega)); have R17 := Lib.hid (own_turns R1.out ky (fun i e hi => by have h1 := HR6.out i e; have h2 := HY5.out.lts i hi; omega)); clear ho3 hy2 gy ky)
                have HOm : Hid (∀ x ∈ oneL g L2 q, x ∈ L2) := Lib.hid (fun x hx => oneL_mem hx)
                have HOl : Hid ((oneL g L2 q).length ≤ n) := Lib.hid (Nat.le_trans (oneL_len g L2 q) HAl.out.len)
                rcases Nat.eq_zero_or_pos q with hq0 | hq0
                all_goals first
                  | (skip
                     have hqz : ((q : Int) == 0) = true := by rw [beq_iff_eq]; omega
                     have hqp : decide ((0 : Int) < (q : Int)) = false := decide_eq_false (by omega)
                     have hO : oneL g L2 q = [] := by rw [hq0]; rfl
                     generalize oneL g L2 q = O at *
                     obtain rfl : O = [] := hO
                     go_wp2_with fail)
                  | (skip
                     have hqz : ((q : Int) == 0) = false := by rw [beq_eq_false_iff_ne]; omega
                     have hqp : decide ((0 : Int) < (q : Int)) = true := decide_eq_true (by omega)
                     have hO : oneL g L2 q = ltE (mx g q) L2 := by unfold oneL; rw [if_neg (by omega)]
                     generalize oneL g L2 q = O at *
                     generalize ltE (mx g q) L2 = E at *
                     obtain rfl : O = E := hO
                     go_wp2_with fail)
                all_goals
                  go_loopw [25, 26] (fun nv iv wr => ∃ i : Nat, i ≤ n ∧ iv = .int .i64 (i : Int) ∧ nv = .int .i64 (cn i : Int) ∧ wr = w7) (fun _ iv _ => n - (intOf iv).toNat)
                  case atStart => exact ⟨0, by omega, rfl, by rw [HC0.out]; rfl, rfl⟩
                  case round =>
                    obtain ⟨i, hi, rfl, rfl, hw7⟩ := hrel
                    obtain rfl := hw7.symm
                    by_cases hlt : i < n
                    · have hlt1 : (i : Int) < (n : Int) := by omega
                      obtain ⟨x1, rfl, hx1, hc1⟩ := (I0.out.bel (by rw [HH.out]; exact HB7.out)).cell i hlt
                      have hce := HRw7.out.cell i
                      rw [bl_at out hlt] at hce
                      have hcl := HCL.out i
                      have hS := HCS.out i
                      have etm : ((i : Int)).tmod 2 = (i : Int) % 2 := Int.tmod_eq_emod_of_nonneg (by omega)
                      clear hx1
                      cases hoi : out i
                      · rw [hoi] at hce
                        have hp : (i % 2 = 0 ∧ ((i : Int) % 2 == 0) = true) ∨ (¬ i % 2 = 0 ∧ ((i : Int) % 2 == 0) = false) := by
                          by_cases e : i % 2 = 0
                          · exact .inl ⟨e, by rw [beq_iff_eq]; omega⟩
                          · exact .inr ⟨e, by rw [beq_eq_false_iff_ne]; omega⟩
                        have hz : (z i ≤ mx g q ∧ decide (z i ≤ mx g q) = true) ∨ (¬ z i ≤ mx g q ∧ decide (z i ≤ mx g q) = false) := by
                          by_cases e : z i ≤ mx g q
                          · exact .inl ⟨e, decide_eq_true e⟩
                          · exact .inr ⟨e, decide_eq_false e⟩
                        rcases hp with ⟨hp1, hp2⟩ | ⟨hp1, hp2⟩ <;> rcases hz with ⟨hz1, hz2⟩ | ⟨hz1, hz2⟩
                        all_goals
                          simp [cntB, aliveB, hoi, hp1, hz1, hq0] at hS
                          have HSi := Lib.hid hS
                          clear hS hp1 hz1 hoi
                          go_wp2_with fail
                          go_roundw
                          case measure => simp only [intOf]; omega
                          case rel => first | exact ⟨i + 1, by omega, by go_num, (by rw [HSi.out]; first | done | rfl | go_num), by first | rfl | trivial⟩ | ((repeat apply Exists.intro); exact ⟨⟨i + 1, by omega, by go_num, (by rw [HSi.out]; first | done | rfl | go_num), by first | rfl | trivial⟩, rfl⟩)
                      · rw [hoi] at hce
                        simp [cntB, aliveB, hoi] at hS
                        have HSi := Lib.hid hS
                        clear hS hoi
                        go_wp2_with fail
                        go_roundw
                        case measure => simp only [intOf]; omega
                        case rel => first | exact ⟨i + 1, by omega, by go_num, (by rw [HSi.out]; first | done | rfl | go_num), by first | rfl | trivial⟩ | ((repeat apply Exists.intro); exact ⟨⟨i + 1, by omega, by go_num, (by rw [HSi.out]; first | done | rfl | go_num), by first | rfl | trivial⟩, rfl⟩)
                    · obtain rfl : n = i := by omega
                      have hlt1 : ¬ (n : Int) < (n : Int) := by omega
                      rw [HCn.out]
                      go_wp2_with fail
                      first
                        | (skip
                           have hq1 : q = 0 := hq0
                           go_loopw [27, 28] (fun iv _ wr => iv = .int .i64 0 ∧ wr = w7) (fun _ _ _ => 0)
                           case atStart => exact ⟨rfl, rfl⟩
                           case round =>
                             obtain ⟨rfl, hw8⟩ := hrel
                             obtain rfl := hw8.symm
                             go_wp2_with fail
                             go_ret
                             exact ⟨rfl, by first | exact HB7.out | (rw [HH.out]; exact HB7.out)⟩)
                        | (skip
                           go_loopw [27, 28] (fun iv _ wr => ∃ i : Nat, i ≤ O.length ∧ iv = .int .i64 (i : Int) ∧ Hid (Below w7.heap.size w7 wr)) (fun iv _ _ => O.length - (intOf iv).toNat)
                           case atStart => exact ⟨0, by omega, rfl, Lib.hid (Below.refl _ _)⟩
                           case round =>
                             obtain ⟨i, hi, rfl, hBw⟩ := hrel
                             have hOl := HOl.out
                             by_cases hlt : i < O.length
                             · have hlt1 : (i : Int) < (O.length : Int) := by omega
                               obtain ⟨g1, b1, e1, _, hg1, hn1, hm1⟩ := own_at R17.out (by omega)
                               obtain ⟨g2, b2, e2, _, hg2, hn2, hm2⟩ := own_at R27.out (by omega)
                               obtain ⟨g3, b3, e3, _, hg3, hn3, hm3⟩ := own_at R3.out (by omega)
                               injection e1 with e1a _ e1c
                               injection e2 with e2a _ e2c
                               injection e3 with e3a _ e3c
                               subst e1a e1c e2a e2c e3a e3c
                               unfold maxLen at hm1 hm2 hm3
                               obtain ⟨d0, d1, d2⟩ := ltC_cells (own_turns R17.out (.of_below (S := fun _ => False) hBw.out) (fun _ _ => id)) rfl i hlt
                               obtain ⟨f0, f1, f2⟩ := ltC_cells (own_turns R27.out (.of_below (S := fun _ => False) hBw.out) (fun _ _ => id)) rfl i hlt
                               obtain ⟨h0, h1, h2⟩ := ltC_cells (own_turns R3.out (.of_below (S := fun _ => False) hBw.out) (fun _ _ => id)) rfl i hlt
                               obtain ⟨j, hj, hx, ha⟩ := HAl.out.mem O[i] (HOm.out _ (List.getElem_mem hlt))
                               rw [hx] at d0 d1 d2 f0 f1 f2 h0 h1 h2
                               simp only at d0 d1 d2 f0 f1 f2 h0 h1 h2
                               have heq := tmeq (z j) j (ownr j)
                               have hoj : out j = false := by
                                 unfold aliveB at ha
                                 cases h : out j <;> simp [h] at ha ⊢
                               have hce := (HRw7.out.bel hBw.out).cell j
                               rw [bl_at out hj, hoj] at hce
                               have q5 : ((j : Int) % 2 == 1) = false ∨ True := .inr trivial
                               clear q5
                               try
                                 have hpj : j % 2 = 0 := by
                                   unfold aliveB at ha
                                   simp at ha
                                   exact ha.2
                                 have q5 : ((j : Int).tmod 2 == 1) = false := by rw [beq_eq_false_iff_ne, Int.tmod_eq_emod_of_nonneg (by omega)]; omega
                                 have q6 : ((j : Int) % 2 == 1) = false := by rw [beq_eq_false_iff_ne]; omega
                               have q0 : decide ((j : Int) < 0) = false := decide_eq_false (by omega)
                               have q1 : decide ((n : Int) ≤ (j : Int)) = false := decide_eq_false (by omega)
                               have q2 : decide (n ≤ j) = false := decide_eq_false (by omega)
                               have q4 : (j : Int) < (n : Int) := by omega
                               clear hx ha hoj
                               generalize ownr j = ow at *
                               generalize z j = zj at *
                               go_wp2_with fail
                               go_quiet (fail)
                               have HBn := Lib.hid (below_drewN' hBw.out nq)
                               go_wp2_with fail
                               go_roundw
                               case measure => simp only [intOf]; omega
                               case rel => first | exact ⟨i + 1, by omega, by go_num, HBn⟩ | ((repeat apply Exists.intro); exact ⟨⟨i + 1, by omega, by go_num, HBn⟩, rfl⟩)
                             · obtain rfl : O.length = i := by omega
                               have hlt1 : ¬ (O.length : Int) < (O.length : Int) := by omega
                               go_wp2_with fail
                               go_ret
                               have hb := HB7.out.trans (hBw.out.mono (HH.out ▸ HB7.out.size))
                               exact ⟨rfl, by first | exact hb | (rw [HH.out]; exact hb)⟩)
end Go.Proofs.Yteondokncalbnaa

namespace Go.Proofs.Yteondokncalbnaa
open Go.RowKit
def CameI (w : World) (a : Option Addr) (len cap : Nat) (zs : List Int) : Prop :=
  (a = none ∧ len = 0 ∧ cap = 0 ∧ zs = []) ∨
  ∃ x, a = some x ∧ len ≤ cap ∧ cap ≤ maxLen ∧ zs.length = cap ∧ (∀ i, i < zs.length → w.cell? (x.add i) = some (.int .i64 (zs.getD i 0))) ∧ ∀ n ∈ zs, (Lit.int .i64 n).wf = true
theorem ints_of {w : World} {a : Option Addr} {len cap : Nat} {zs : List Int} (h : CameI w a len cap zs) : Ints w a len (fun i => zs.getD i 0) := by
  rcases h with ⟨rfl, rfl, rfl, rfl⟩ | ⟨x, rfl, hl, hm, hz, hc, hw⟩
  · exact ⟨fun i hi => absurd hi (Nat.not_lt_zero _), fun i hi => absurd hi (Nat.not_lt_zero _)⟩
  · refine ⟨fun i hi => ⟨x, rfl, ?_, hc i (by omega)⟩, fun i hi => ?_⟩
    · have := World.block_lt_of_cell? w _ (hc i (by omega)); rwa [blk_add] at this
    · have hiz : i < zs.length := by omega
      have hb := bounds_i64 (hw zs[i] (List.getElem_mem hiz))
      have e1 : zs.getD i 0 = zs[i] := by simp [List.getD, hiz]
      simp only [e1]
      omega
theorem dropped_any (a0 a1 a2 : Option Addr) (n c0 m c1 q c2 : Nat) (all : Bool) (z0 z1 z2 : List Int) (w : World) (h0 : CameI w a0 n c0 z0) (h1 : CameI w a1 m c1 z1) (h2 : CameI w a2 q c2 z2) :
    Calls Try.prog 8 #[.slice a0 n c0, .slice a1 m c1, .slice a2 q c2, .bool all] w fun e w' => e = .returned (.bool true) ∧ Below w.heap.size w w' := by
  by_cases hl : 100 < n ∨ 100 < m ∨ 30 < q
  · exact dropped_long a0 a1 a2 n c0 m c1 q c2 all w hl
  · exact dropped_in a0 a1 a2 n c0 m c1 q c2 all _ _ _ w (ints_of h0) (ints_of h1) (ints_of h2) (by omega) (by omega) (by omega)
end Go.Proofs.Yteondokncalbnaa
