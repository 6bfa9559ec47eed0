/- check: the document's make. -/
import Derived.Test.YtmacmejpcpdnnaaCkRfState
import Derived.StillTailTactics
import Derived.Laws.Rows
import Derived.Deep.Cut
import Derived.Deep.CutBlock
import Derived.Deep.DeepCutAuto
namespace Go.Proofs.Ytmacmejpcpdnnaa
open Go.RowKit

set_option maxRecDepth 20000 in
set_option maxHeartbeats 6400000 in
theorem make_any (w : World) (base p : Nat) (a : Option Addr) (n c : Nat) (t : List Tw) (g cL : Nat) (s : RS) (h : RSt w base p a n c t g cL s) (hn : n ≤ 5000) (hs : s.made ≤ 50000) (at_ : Nat) (x : Tw) (hx : t[at_]? = some x) (A : Option Addr) (cS : Nat) (l : Vrs) (hv : Vs w A cS l) (hl : l.length ≤ 100000) (hfar : ∀ i, VsB A l.length i → ¬ RSet p g i) :
    Calls Try.prog 28 #[.pointer (some ⟨p, 0, none⟩), .int .i64 (at_ : Int), .slice A l.length cS] w fun e w' => e = .returned (.agg #[.string x.text, .int .i64 (s.made : Int)]) ∧ RSt w' base p a n c t g cL (mkR x at_ l s) ∧ Turns (RSet p g) w w' := by
  obtain ⟨b, o_, ea, hbl, t0, t1, t2, t3⟩ := tree_cell h.tw hx
  obtain ⟨atv, ev, hb, hm⟩ := h.blk
  have hlt := (List.getElem?_eq_some_iff.1 hx).1
  have hln := h.tw.tw.len
  have hcap := h.tw.cap.1
  have hcap2 := h.tw.cap.2
  unfold maxLen at hcap2
  subst ea
  have c0 := hb.cell 0
  have c1 := hb.cell 1
  have c2 := hb.cell 2
  simp only [List.getElem?_cons_zero, List.getElem?_cons_succ] at c0 c1 c2
  have hat : (at_ : Int) < (n : Int) := by omega
  have e0 : ∀ o, ((w.alloc o).drew).cell? ⟨p, 0, none⟩ = some (.slice (some ⟨b, o_, none⟩) n c) := fun o => ((hb.alloc o).drew).cell 0
  have e2 : ∀ o, ((w.alloc o).drew).cell? ⟨p, 2, none⟩ = some (.int .i64 (s.made : Int)) := fun o => ((hb.alloc o).drew).cell 2
  have e3 : ∀ q, ((w.alloc q).drew).cell? ⟨b, o_ + at_ * 4 + 3, none⟩ = some (.string x.text) := fun q => (World.cell?_alloc_lt w q _ hbl).trans t3
  have g0 : ∀ o o2, (((w.alloc o).alloc o2).drew).cell? ⟨p, 0, none⟩ = some (.slice (some ⟨b, o_, none⟩) n c) := fun o o2 => (((hb.alloc o).alloc o2).drew).cell 0
  have g2 : ∀ o o2, (((w.alloc o).alloc o2).drew).cell? ⟨p, 2, none⟩ = some (.int .i64 (s.made : Int)) := fun o o2 => (((hb.alloc o).alloc o2).drew).cell 2
  have g3 : ∀ q q2, (((w.alloc q).alloc q2).drew).cell? ⟨b, o_ + at_ * 4 + 3, none⟩ = some (.string x.text) := fun q q2 => (World.cell?_alloc_lt (w.alloc q) q2 _ (by simp; omega)).trans ((World.cell?_alloc_lt w q _ hbl).trans t3)
  have HH := Lib.hid h
  have HV := Lib.hid hv
  have HL := Lib.hid hl
  have HF := Lib.hid hfar
  have HX := Lib.hid hx
  have hsI : (s.made : Int) ≤ 50000 := by omega
  clear h hb hm hv hl hfar hx
  go_enter Try.func28, Try.ntmps28
  go_wp2_with fail
  go_region
  go_wp2_with fail
  have hp0 := HH.out.blk
  obtain ⟨_, _, hpb, _⟩ := hp0
  have hpl := hpb.lt
  have hgl := (row_lo (g := g) HH.out.row rfl).2
  clear hpb
  have hB2 : Below w.heap.size w ((w.alloc (.cells #[.string ⟨#[]⟩, .int .i64 0] 56)).alloc (.cells #[.string x.text, .int .i64 (s.made : Int)] 56)).drew := below_drewN' (Below.new2 w _ _) 1
  have H2 := Lib.hid (HH.out.bel hB2)
  have HV2 := Lib.hid (HV.out.bel hB2)
  have h6 : Blk ((w.alloc (.cells #[.string ⟨#[]⟩, .int .i64 0] 56)).alloc (.cells #[.string x.text, .int .i64 (s.made : Int)] 56)).drew w.heap.size 56 [.string ⟨#[]⟩, .int .i64 0] := ((Blk.new w _ [_, _]).alloc _).drew
  have h7 : Blk ((w.alloc (.cells #[.string ⟨#[]⟩, .int .i64 0] 56)).alloc (.cells #[.string x.text, .int .i64 (s.made : Int)] 56)).drew (w.heap.size + 1) 56 [.string x.text, .int .i64 (s.made : Int)] := (Blk.new2 w _ _ [_, _]).drew
  have HB2 := Lib.hid hB2
  have H6 := Lib.hid h6
  have H7 := Lib.hid h7
  clear hB2 h6 h7 e0 e2 e3 g0 g2 g3 c0 c1 c2 t0 t1 t2 t3
  generalize ((w.alloc (.cells #[.string ⟨#[]⟩, .int .i64 0] 56)).alloc (.cells #[.string x.text, .int .i64 (s.made : Int)] 56)).drew = W at *
  have HFD := Lib.hid (find_any W A cS l x.text HV2.out HL.out)
  refine HFD.out.mono ?_
  rintro e wn ⟨rfl, rfl⟩
  obtain ⟨fv, hfv⟩ : ∃ fv, findV l x.text = fv := ⟨_, rfl⟩
  rw [hfv]
  have HFV := Lib.hid hfv
  clear hfv
  go_upto_if 25 with fail
  obtain ⟨s1, hs1⟩ : ∃ s1, (if 0 ≤ fv then wrongR s at_ 111 else s) = s1 := ⟨_, rfl⟩
  have HS1 := Lib.hid hs1
  have hm1 : s1.made = s.made := by rw [← hs1]; split; unfold wrongR; split; rfl; rfl; rfl
  clear hs1
  go_cut [7] (fun s7 wc => s7 = .pointer (some ⟨w.heap.size + 1, 0, none⟩) ∧ Hid (RSt wc base p (some ⟨b, o_, none⟩) n c t g cL s1 ∧ Turns (RSet p g) W wc))
  case first =>
    by_cases hf : 0 ≤ fv
    · have hE : s1 = wrongR s at_ 111 := by rw [← HS1.out, if_pos hf]
      have HE := Lib.hid hE
      have HWR := Lib.hid (wrong_any W base p _ n c t g cL s H2.out at_ 111 (by decide))
      clear hE
      go_wp2_with (go_at_call 40; refine HWR.out.mono ?_; rintro e wq ⟨rfl, hr, ht⟩)
      go_meet
      exact ⟨rfl, Lib.hid ⟨by rw [HE.out]; exact hr, ht⟩⟩
    · have hE : s1 = s := by rw [← HS1.out, if_neg hf]
      have HE := Lib.hid hE
      clear hE
      go_wp2_with fail
      go_meet
      exact ⟨rfl, Lib.hid ⟨by rw [HE.out]; exact H2.out, Turns.refl _ _⟩⟩
  case rest =>
    obtain ⟨rfl, HC⟩ := hcut
    obtain ⟨atv1, ev1, hb1, _⟩ := HC.out.1.blk
    have d2 := hb1.cell 2
    simp only [List.getElem?_cons_zero, List.getElem?_cons_succ] at d2
    rw [hm1] at d2
    clear hb1
    go_upto_if 33 with fail
    obtain ⟨s2, hs2⟩ : ∃ s2, (if 100 ≤ s.made then wrongR s1 at_ 2 else s1) = s2 := ⟨_, rfl⟩
    have HS2 := Lib.hid hs2
    have hm2 : s2.made = s.made := by rw [← hs2]; split; unfold wrongR; split; exact hm1; exact hm1; exact hm1
    clear hs2
    go_cut [7] (fun s7 wd => s7 = .pointer (some ⟨w.heap.size + 1, 0, none⟩) ∧ Hid (RSt wd base p (some ⟨b, o_, none⟩) n c t g cL s2 ∧ Turns (RSet p g) W wd))
    case first =>
      by_cases hf : 100 ≤ s.made
      · have hf' : (100 : Int) ≤ (s.made : Int) := by omega
        have hE : s2 = wrongR s1 at_ 2 := by rw [← HS2.out, if_pos hf]
        have HE := Lib.hid hE
        have HWR := Lib.hid (wrong_any wc base p _ n c t g cL s1 HC.out.1 at_ 2 (by decide))
        clear hE
        go_wp2_with (go_at_call 40; refine HWR.out.mono ?_; rintro e wq ⟨rfl, hr, ht⟩)
        go_meet
        exact ⟨rfl, Lib.hid ⟨by rw [HE.out]; exact hr, HC.out.2.then ht⟩⟩
      · have hf' : ¬ (100 : Int) ≤ (s.made : Int) := by omega
        have hE : s2 = s1 := by rw [← HS2.out, if_neg hf]
        have HE := Lib.hid hE
        clear hE
        go_wp2_with fail
        go_meet
        exact ⟨rfl, Lib.hid ⟨by rw [HE.out]; exact HC.out.1, HC.out.2⟩⟩
    case rest =>
      obtain ⟨rfl, HD⟩ := hcut
      clear d2 HC
      obtain ⟨atv2, ev2, hb2, hm3⟩ := HD.out.1.blk
      rw [hm2] at hb2
      have n6 : ¬ RSet p g w.heap.size := by rintro (q | q) <;> omega
      have n7 : ¬ RSet p g (w.heap.size + 1) := by rintro (q | q) <;> omega
      have h6 := H6.out.turns HD.out.2 n6
      have h7 := H7.out.turns HD.out.2 n7
      have hLl := HD.out.1.len
      have a1 := hb2.drew.cell 1
      have a7 := h7.drew.cell 1
      obtain ⟨u0, hu0⟩ : ∃ u0, wc.drew.cell? ⟨g, at_, none⟩ = some u0 := by
        have := HD.out.1.row.cellAt at_ (by omega)
        rw [List.getElem?_map, List.getElem?_eq_getElem (by omega)] at this
        exact ⟨_, this⟩
      have hz0 : wc.drew.frozen? ⟨g, at_, none⟩ = false := HD.out.1.row.frozenAt at_
      obtain ⟨gg, gc, ge, _, _, hgn, hgm⟩ := own_at HD.out.1.row (by omega)
      injection ge with ge1 _ ge3
      injection ge1 with ge1
      injection ge1 with ge1 _ _
      subst ge1 ge3
      unfold maxLen at hgm
      simp only [List.getElem?_cons_zero, List.getElem?_cons_succ] at a1 a7
      have hbf : Blk (wc.setCell ⟨g, at_, none⟩ (.int .i64 (s.made : Int))).drew p 52 _ := (hb2.far (p := ⟨g, at_, none⟩) HH.out.ne _).drew
      have b2 := hbf.cell 2
      have bz := hbf.fz 2
      simp only [List.getElem?_cons_zero, List.getElem?_cons_succ] at b2
      have HB2f := Lib.hid hbf
      have HM3 := Lib.hid hm3
      have H6c := Lib.hid h6
      have H7c := Lib.hid h7
      have h7a := (((h7.far (p := ⟨g, at_, none⟩) (by show w.heap.size + 1 ≠ g; omega) (.int .i64 (s.made : Int))).far (p := ⟨p, 2, none⟩) (by show w.heap.size + 1 ≠ p; omega) (.int .i64 ((s.made : Int) + 1)))).drew
      have r70 := h7a.cell 0
      have r71 := h7a.cell 1
      have h6a := (((h6.far (p := ⟨g, at_, none⟩) (by show w.heap.size ≠ g; omega) (.int .i64 (s.made : Int))).far (p := ⟨p, 2, none⟩) (by show w.heap.size ≠ p; omega) (.int .i64 ((s.made : Int) + 1)))).drew
      have r60 := h6a.cell 0
      have r61 := h6a.cell 1
      have z60 := h6a.fz 0
      have z61 := h6a.fz 1
      have H6A := Lib.hid h6a
      have w60 := h6.cell 0
      have w61 := h6.cell 1
      have v60 := h6.fz 0
      have v61 := h6.fz 1
      simp only [List.getElem?_cons_zero, List.getElem?_cons_succ] at r70 r71 r60 r61 w60 w61
      clear hb2 hm3 h6 h7 hLl hbf h7a h6a
      go_wp2_with fail
      refine wp_tail 8 (by kernel_rfl) (by kernel_rfl) ?_
      simp only [List.take_succ_cons, List.take_zero, List.drop_succ_cons, List.drop_zero]
      repeat still_step
      refine wpStill_nil ?_
      go_wp2_with fail
      have hK : Blk ((((wc.setCell ⟨g, at_, none⟩ (.int .i64 (s.made : Int))).setCell ⟨p, 2, none⟩ (.int .i64 ((s.made : Int) + 1))).setCell ⟨w.heap.size, 0, none⟩ (.string x.text)).setCell ⟨w.heap.size, 1, none⟩ (.int .i64 (s.made : Int))).drew w.heap.size 56 [.string x.text, .int .i64 (s.made : Int)] :=
        ((((H6c.out.far (p := ⟨g, at_, none⟩) (by show w.heap.size ≠ g; omega) _).far (p := ⟨p, 2, none⟩) (by show w.heap.size ≠ p; omega) _).set 0 (.string x.text)).set 1 (.int .i64 (s.made : Int))).drew
      have TT : Turns (RSet p g) w ((((wc.setCell ⟨g, at_, none⟩ (.int .i64 (s.made : Int))).setCell ⟨p, 2, none⟩ (.int .i64 ((s.made : Int) + 1))).setCell ⟨w.heap.size, 0, none⟩ (.string x.text)).setCell ⟨w.heap.size, 1, none⟩ (.int .i64 (s.made : Int))).drew :=
        ((((((Turns.of_below HB2.out).then HD.out.2).set ⟨g, at_, none⟩ _ (fun _ => .inr rfl)).set ⟨p, 2, none⟩ _ (fun _ => .inl rfl)).set ⟨w.heap.size, 0, none⟩ _ (fun q => absurd q (Nat.lt_irrefl _))).set ⟨w.heap.size, 1, none⟩ _ (fun q => absurd q (Nat.lt_irrefl _))).drewN 1
      have TG : Turns (fun i => i = p ∨ i = w.heap.size) (wc.setCell ⟨g, at_, none⟩ (.int .i64 (s.made : Int))) ((((wc.setCell ⟨g, at_, none⟩ (.int .i64 (s.made : Int))).setCell ⟨p, 2, none⟩ (.int .i64 ((s.made : Int) + 1))).setCell ⟨w.heap.size, 0, none⟩ (.string x.text)).setCell ⟨w.heap.size, 1, none⟩ (.int .i64 (s.made : Int))).drew :=
        ((((Turns.refl _ _).set ⟨p, 2, none⟩ _ (fun _ => .inl rfl)).set ⟨w.heap.size, 0, none⟩ _ (fun _ => .inr rfl)).set ⟨w.heap.size, 1, none⟩ _ (fun _ => .inr rfl)).drewN 1
      refine bodyPost_ret (results_cell_row (h := rfl) (g := w.heap.size) (t := 56) (cs := ([.string x.text, .int .i64 (s.made : Int)] : List Value).toArray) (fr := (0, 0)) (hp := rfl) (hg := hK) (hu := Try.underlying56) (hd := rfl) (hi := by kernel_rfl) _ _) rfl ?_
      obtain ⟨atv3, ev3, hb3, hm4⟩ := HD.out.1.blk
      have hmk : mkR x at_ l s = ⟨s.made + 1, s2.L.set at_ (s.made : Int), s2.fl⟩ := by
        unfold mkR
        simp only
        rw [HFV.out, HS1.out, HS2.out]
      rw [hmk]
      refine ⟨rfl, ⟨⟨atv3, ev3, ?_, hm4⟩, ?_, by simp only [List.length_set]; exact HD.out.1.len, HH.out.tree TT, HH.out.far, HH.out.ne, by simp only; omega⟩, TT⟩
      · have := ((((hb3.far (p := ⟨g, at_, none⟩) HH.out.ne (.int .i64 (s.made : Int))).set 2 (.int .i64 ((s.made : Int) + 1))).far (p := ⟨w.heap.size, 0, none⟩) (by show p ≠ w.heap.size; omega) (.string x.text)).far (p := ⟨w.heap.size, 1, none⟩) (by show p ≠ w.heap.size; omega) (.int .i64 (s.made : Int))).drew
        exact this
      · have hst := (HD.out.1.row.stored at_ (.int .i64 (s.made : Int))).1
        rw [show (s2.L.map intI).set at_ (.int .i64 (s.made : Int)) = (s2.L.set at_ (s.made : Int)).map intI from by rw [List.map_set]; rfl] at hst
        refine own_turns hst TG (fun g' hg' e' => ?_)
        simp only [Value.ownBlock, Option.some.injEq] at hg'
        have hg2 : g = g' := hg'
        rcases e' with e' | e'
        · exact HH.out.ne (by omega)
        · omega
end Go.Proofs.Ytmacmejpcpdnnaa
