/- check: the walk of the document's walk. -/
import Derived.Test.YtmacmejpcpdnnaaCkRfWalk0
import Derived.BigQuiet
namespace Go.Proofs.Ytmacmejpcpdnnaa
open Go.RowKit

theorem RSt.setL {w : World} {base p : Nat} {a : Option Addr} {n c : Nat} {t : List Tw} {g cL : Nat} {s : RS} (h : RSt w base p a n c t g cL s) (i : Nat) (v : Int) : RSt (w.setCell ⟨g, i, none⟩ (.int .i64 v)) base p a n c t g cL ⟨s.made, s.L.set i v, s.fl⟩ ∧ Turns (RSet p g) w (w.setCell ⟨g, i, none⟩ (.int .i64 v)) := by
  have TS : Turns (RSet p g) w (w.setCell ⟨g, i, none⟩ (.int .i64 v)) := .of_set _ _ _ (.inr rfl)
  obtain ⟨atv, ev, hb, hm⟩ := h.blk
  refine ⟨⟨⟨atv, ev, hb.far (p := ⟨g, i, none⟩) h.ne _, hm⟩, ?_, by simp only [List.length_set]; exact h.len, h.tree TS, h.far, h.ne, h.made⟩, TS⟩
  have hst := (h.row.stored i (.int .i64 v)).1
  rw [show (s.L.map intI).set i (.int .i64 v) = (s.L.set i v).map intI from by rw [List.map_set]; rfl] at hst
  exact hst
theorem RSt.lts {w : World} {base p : Nat} {a : Option Addr} {n c : Nat} {t : List Tw} {g cL : Nat} {s : RS} (h : RSt w base p a n c t g cL s) : p < w.heap.size ∧ g < w.heap.size := by
  obtain ⟨_, _, hb, _⟩ := h.blk
  exact ⟨hb.lt, (row_lo (g := g) h.row rfl).2⟩
theorem RSt.cells {w : World} {base p : Nat} {a : Option Addr} {n c : Nat} {t : List Tw} {g cL : Nat} {s : RS} (h : RSt w base p a n c t g cL s) : w.cell? ⟨p, 0, none⟩ = some (.slice a n c) ∧ w.cell? ⟨p, 1, none⟩ = some (.slice (some ⟨g, 0, none⟩) n cL) := by
  obtain ⟨_, _, hb, _⟩ := h.blk
  exact ⟨hb.cell 0, hb.cell 1⟩
theorem RSt.Lcap {w : World} {base p : Nat} {a : Option Addr} {n c : Nat} {t : List Tw} {g cL : Nat} {s : RS} (h : RSt w base p a n c t g cL s) (h0 : 0 < n) : n ≤ cL ∧ cL ≤ 9223372036854775807 := by
  obtain ⟨gg, gc, ge, _, _, hgn, hgm⟩ := own_at h.row h0
  injection ge with _ _ ge3
  subst ge3
  unfold maxLen at hgm
  exact ⟨hgn, by omega⟩
/-- what the loop over parts that are no statements keeps -/
structure Ek (wc wr : World) (base p : Nat) (a : Option Addr) (n c : Nat) (t : List Tw) (g cL : Nat) (l : Vrs) (k : Fo) (a0 : Nat) (rs0 : RS) (i : Nat) (f : Fo) (ai : Nat) (rs : RS) (mm : May) : Prop where
  cnt : i + f.cnt = k.cnt
  st : Stands t ai f
  ok : f.ok
  rt : f.rt mm
  size : f.size ≤ k.size
  rst : RSt wr base p a n c t g cL rs
  tr : Turns (RSet p g) wc wr
  run : dE f ai l rs = dE k a0 l rs0
  starts : ∃ pre : List Int, pre.length = i ∧ startsF k a0 = pre ++ startsF f ai
  made : rs.made + f.size ≤ rs0.made + k.size
theorem Ek.step {wc wr w' : World} {base p : Nat} {a : Option Addr} {n c : Nat} {t : List Tw} {g cL : Nat} {l : Vrs} {k : Fo} {a0 : Nat} {rs0 : RS} {i ai : Nat} {y : Tw} {k2 r : Fo} {rs : RS} {mm : May} (h : Ek wc wr base p a n c t g cL l k a0 rs0 i (.cons y k2 r) ai rs mm)
    (hr : RSt w' base p a n c t g cL (dE (.cons y k2 .nil) ai l rs)) (ht : Turns (RSet p g) wr w') : Ek wc w' base p a n c t g cL l k a0 rs0 (i + 1) r (ai + (1 + k2.size)) (dE (.cons y k2 .nil) ai l rs) mm.next := by
  obtain ⟨pre, h1, h2⟩ := h.starts
  have hc := h.cnt
  have hs := h.size
  have hm := h.made
  have hd := (d_made (.cons y k2 .nil) ai l rs).1
  simp only [Fo.cnt] at hc
  simp only [Fo.size] at hs hm hd
  refine ⟨by omega, h.st.rest, h.ok.2.2, h.rt.2.2, by omega, hr, h.tr.then ht, by rw [← h.run, ← dE_cons], ⟨pre ++ [(ai : Int)], by simp [h1], by rw [h2]; simp [startsF]⟩, by omega⟩
/-- what the loop over a block's statements keeps -/
structure Bk (wc wr : World) (base p : Nat) (a : Option Addr) (n c : Nat) (t : List Tw) (g cL : Nat) (l : Vrs) (k : Fo) (a0 : Nat) (rs0 : RS) (i : Nat) (f : Fo) (ai : Nat) (rs : RS) (mm : May) (Am : Option Addr) (cm : Nat) (lm : Vrs) : Prop where
  cnt : i + f.cnt = k.cnt
  st : Stands t ai f
  ok : f.ok
  rt : f.rt mm
  size : f.size ≤ k.size
  rst : RSt wr base p a n c t g cL rs
  tr : Turns (RSet p g) wc wr
  run : dB f ai lm rs = dB k a0 l rs0
  starts : ∃ pre : List Int, pre.length = i ∧ startsF k a0 = pre ++ startsF f ai
  made : rs.made + f.size ≤ rs0.made + k.size
  row : wr.ownsRow wc.heap.size 56 2 (.slice Am lm.length cm) lm.length (lm.flatMap vrC)
  wf : ∀ q ∈ lm, -1 ≤ q.2 ∧ q.2 ≤ 1000000
  ln : lm.length + f.size ≤ l.length + k.size
theorem Bk.step {wc wr w' : World} {base p : Nat} {a : Option Addr} {n c : Nat} {t : List Tw} {g cL : Nat} {l : Vrs} {k : Fo} {a0 : Nat} {rs0 : RS} {i ai : Nat} {y : Tw} {k2 r : Fo} {rs rs' : RS} {mm : May} {Am Am' : Option Addr} {cm cm' : Nat} {lm lm' : Vrs} (h : Bk wc wr base p a n c t g cL l k a0 rs0 i (.cons y k2 r) ai rs mm Am cm lm)
    (hr : RSt w' base p a n c t g cL rs') (ht : Turns (RSet p g) wc w') (hrun : dB (.cons y k2 r) ai lm rs = dB r (ai + (1 + k2.size)) lm' rs') (hmade : rs'.made ≤ rs.made + (1 + k2.size)) (hrow : w'.ownsRow wc.heap.size 56 2 (.slice Am' lm'.length cm') lm'.length (lm'.flatMap vrC)) (hwf : ∀ q ∈ lm', -1 ≤ q.2 ∧ q.2 ≤ 1000000) (hln : lm'.length ≤ lm.length + 1) :
    Bk wc w' base p a n c t g cL l k a0 rs0 (i + 1) r (ai + (1 + k2.size)) rs' mm.next Am' cm' lm' := by
  obtain ⟨pre, h1, h2⟩ := h.starts
  have hc := h.cnt
  have hs := h.size
  have hm := h.made
  have hl := h.ln
  simp only [Fo.cnt] at hc
  simp only [Fo.size] at hs hm hl
  refine ⟨by omega, h.st.rest, h.ok.2.2, h.rt.2.2, by omega, hr, ht, by rw [← h.run, hrun], ⟨pre ++ [(ai : Int)], by simp [h1], by rw [h2]; simp [startsF]⟩, by omega, hrow, hwf, by omega⟩
/-- a 'let' has one part -/
theorem let_one {m : May} {y : Tw} {k2 : Fo} (h : goodB m y = true) (h4 : y.op = 4) (hk : y.kids = (k2.cnt : Int)) : ∃ z kz, k2 = .cons z kz .nil := by
  have h0 : y.kids = 1 := by
    unfold goodB at h
    have e : formT 4 = some ⟨.own, 1, 1, .expr⟩ := rfl
    rw [h4, e] at h
    simp only [Bool.and_eq_true, Bool.not_eq_true', decide_eq_false_iff_not] at h
    have h1 := h.1.1.1.2
    have h2 := h.1.1.2
    omega
  cases k2 with
  | nil => simp only [Fo.cnt] at hk; omega
  | cons z kz r =>
    cases r with
    | nil => exact ⟨z, kz, rfl⟩
    | cons => simp only [Fo.cnt] at hk; omega
theorem starts_get {k f : Fo} {a0 ai i : Nat} {y : Tw} {k2 r : Fo} (hf : f = .cons y k2 r) (h : ∃ pre : List Int, pre.length = i ∧ startsF k a0 = pre ++ startsF f ai) : (startsF k a0)[i]? = some (ai : Int) := by
  obtain ⟨pre, h1, h2⟩ := h
  subst hf
  rw [h2, List.getElem?_append_right (by omega), h1, Nat.sub_self]
  rfl
set_option maxRecDepth 20000 in
set_option maxHeartbeats 25600000 in
theorem rw_step (w : World) (base p : Nat) (a : Option Addr) (n c : Nat) (t : List Tw) (g cL : Nat) (hn : n ≤ 5000) (x : Tw) (k : Fo) (at_ : Nat) (m : May) (s : RS) (h : RSt w base p a n c t g cL s) (hst : Stands t at_ (.cons x k .nil)) (hok : (Fo.cons x k .nil).ok) (hrt : (Fo.cons x k .nil).rt m)
    (A : Option Addr) (cS : Nat) (l : Vrs) (hv : Vs w A cS l) (hfar : ∀ i, VsB A l.length i → ¬ RSet p g i) (hl : l.length + (1 + k.size) ≤ 50000) (hs : s.made + (1 + k.size) ≤ 50000)
    (hih : ∀ (w : World) (s : RS) (y : Tw) (k2 : Fo) (a2 : Nat) (m : May) (A : Option Addr) (cS : Nat) (l : Vrs), k2.size < k.size → RSt w base p a n c t g cL s → Stands t a2 (.cons y k2 .nil) → (Fo.cons y k2 .nil).ok → (Fo.cons y k2 .nil).rt m → Vs w A cS l → (∀ i, VsB A l.length i → ¬ RSet p g i) → l.length + (1 + k2.size) ≤ 50000 → s.made + (1 + k2.size) ≤ 50000 →
      Calls Try.prog 29 #[.pointer (some ⟨p, 0, none⟩), .int .i64 (a2 : Int), .slice A l.length cS] w (RwY w base p a n c t g cL (dE (.cons y k2 .nil) a2 l s))) :
    Calls Try.prog 29 #[.pointer (some ⟨p, 0, none⟩), .int .i64 (at_ : Int), .slice A l.length cS] w (RwY w base p a n c t g cL (dE (.cons x k .nil) at_ l s)) := by
  obtain ⟨hlt, hxt⟩ := hst.head
  have hx : t[at_]? = some x := by rw [List.getElem?_eq_getElem hlt, hxt]
  obtain ⟨b, o_, ea, hbl, t0, t1, t2, t3⟩ := tree_cell h.tw hx
  obtain ⟨c0, c1⟩ := h.cells
  have hln := h.tw.tw.len
  have hcap := h.tw.cap.1
  have hcap2 := h.tw.cap.2
  unfold maxLen at hcap2
  have hsz := hst.1
  simp only [Fo.size] at hsz
  have hat : (at_ : Int) < (n : Int) := by omega
  have hw9 := h.tw.tw.wf at_ hlt
  rw [hxt] at hw9
  subst ea
  obtain ⟨hpl, hgl⟩ := h.lts
  have gp : ∀ o, (w.alloc o).cell? ⟨p, 0, none⟩ = some (.slice (some ⟨b, o_, none⟩) n c) := fun o => (World.cell?_alloc_lt w o _ hpl).trans c0
  have HKD := Lib.hid (kids_any (w.alloc (.cells (twC x).toArray 34)) (some ⟨b, o_, none⟩) n c t (h.tw.bel (Below.new w _)) hn x k at_ hst hok)
  have HX0 := Lib.hid (Blk.new w 34 (twC x))
  have HH := Lib.hid h
  have HV := Lib.hid hv
  have HF := Lib.hid hfar
  have HST := Lib.hid hst
  have HOK := Lib.hid hok
  have HRT := Lib.hid hrt
  have HIH := Lib.hid hih
  have HL := Lib.hid hl
  have HS := Lib.hid hs
  have HLN := Lib.hid hln
  have HSZ := Lib.hid hsz
  have HDE : Hid (dE (.cons x k .nil) at_ l s = if x.op = 3 then dB k (at_ + 1) l (useR x at_ l s) else dE k (at_ + 1) l (useR x at_ l s)) := Lib.hid (by simp only [dE])
  clear h hst hok hrt hv hfar hih hl hs hln hsz hx hxt
  go_enter Try.func29, Try.ntmps29
  go_upto_region 2 with (go_at_call 27; refine HKD.out.mono ?_; rintro e w2 ⟨A2, c2, rfl, hk2, hb2⟩; have HK2 := Lib.hid hk2; have HB2 := Lib.hid hb2; clear hk2 hb2)
  have hB0 : Below w.heap.size w w2 := (Below.new w _).trans (HB2.out.mono (by simp))
  have HB0 := Lib.hid hB0
  have H2 := Lib.hid (HH.out.bel hB0)
  have HV2 := Lib.hid (HV.out.bel hB0)
  have HX2 := Lib.hid (HX0.out.bel HB2.out)
  have y0 := HX2.out.cell 0
  have y3 := HX2.out.cell 3
  unfold twC at y0 y3
  simp only [List.getElem?_cons_zero, List.getElem?_cons_succ] at y0 y3
  clear hB0 gp c0 c1 t0 t1 t2 t3
  go_cut [32] (fun s32 wc => s32 = .bool (usB x) ∧ wc = w2)
  case first =>
    by_cases h5 : x.op = 5
    · have q5 : ((x.op : Int) == 5) = true := by rw [beq_iff_eq]; omega
      have H5 := Lib.hid h5
      clear h5
      go_wp2_with fail
      go_meet
      exact ⟨by unfold usB; rw [H5.out]; rfl, rfl⟩
    · have q5 : ((x.op : Int) == 5) = false := by rw [beq_eq_false_iff_ne]; omega
      have H5 : Hid ((x.op == 5) = false) := Lib.hid (by simpa using h5)
      have H6 : Hid (((x.op : Int) == 26) = (x.op == 26)) := Lib.hid (by rw [Bool.eq_iff_iff]; simp; omega)
      clear h5
      go_wp2_with fail
      go_meet
      refine ⟨?_, rfl⟩
      unfold usB
      rw [H5.out, Bool.false_or, ← H6.out]
  case rest =>
    obtain ⟨rfl, rfl⟩ := hcut
    go_upto_if 32 with fail
    go_cut [8] (fun _ wd => Hid (RSt wd base p (some ⟨b, o_, none⟩) n c t g cL (useR x at_ l s) ∧ Turns (RSet p g) wc wd))
    case first =>
      cases hu : usB x with
      | false =>
        have HU := Lib.hid hu
        clear hu
        go_wp2_with fail
        go_meet
        exact Lib.hid ⟨by unfold useR; rw [if_neg (by rw [HU.out]; simp)]; exact H2.out, Turns.refl _ _⟩
      | true =>
        have HU := Lib.hid hu
        clear hu
        obtain ⟨fv, hfv⟩ : ∃ fv, findV l x.text = fv := ⟨_, rfl⟩
        have hll : l.length ≤ 100000 := by have := HL.out; omega
        have HFD : Hid (Calls Try.prog 39 #[.slice A l.length cS, .string x.text] wc.drew fun e w' => e = .returned (.int .i64 fv) ∧ w' = wc.drew) := Lib.hid ((find_any wc.drew A cS l x.text (HV2.out.bel (below_drewN' (Below.refl _ _) 1)) hll).mono fun e w' ⟨h1, h2⟩ => ⟨by rw [h1, hfv], h2.symm⟩)
        have HFV := Lib.hid hfv
        have hfb : -1 ≤ fv ∧ fv ≤ 1000000 := by
          rw [← hfv]
          have key : ∀ (l : Vrs) (r : Int), (∀ q ∈ l, -1 ≤ q.2 ∧ q.2 ≤ 1000000) → (-1 ≤ r ∧ r ≤ 1000000) → (-1 ≤ l.foldl (fun r q => if q.1 = x.text then q.2 else r) r ∧ l.foldl (fun r q => if q.1 = x.text then q.2 else r) r ≤ 1000000) := by
            intro l
            induction l with
            | nil => intro r _ h; exact h
            | cons q l ih =>
              intro r hq hr
              refine ih _ (fun q' hq' => hq q' (List.mem_cons_of_mem _ hq')) ?_
              show -1 ≤ (if q.1 = x.text then q.2 else r) ∧ (if q.1 = x.text then q.2 else r) ≤ 1000000
              split
              · exact hq q (List.mem_cons_self ..)
              · exact hr
          exact key l (-1) HV2.out.wf ⟨by omega, by omega⟩
        obtain ⟨hgn, hgm⟩ := H2.out.Lcap (by omega)
        have e1 : wc.drew.cell? ⟨p, 1, none⟩ = some (.slice (some ⟨g, 0, none⟩) n cL) := H2.out.cells.2
        have e3 : wc.drew.cell? ⟨w.heap.size, 3, none⟩ = some (.string x.text) := y3
        obtain ⟨u0, hu0⟩ : ∃ u0, wc.drew.cell? ⟨g, at_, none⟩ = some u0 := by
          have := H2.out.row.cellAt at_ (by omega)
          rw [List.getElem?_map, List.getElem?_eq_getElem (by rw [H2.out.len]; omega)] at this
          exact ⟨_, this⟩
        have hz0 : wc.drew.frozen? ⟨g, at_, none⟩ = false := H2.out.row.frozenAt at_
        have hu0' : wc.cell? ⟨g, at_, none⟩ = some u0 := hu0
        have hu9 : u0.oneCell' = true ∨ True := .inr trivial
        obtain ⟨hR3, hT3⟩ := H2.out.setL at_ fv
        have hq1 : (wc.setCell ⟨g, at_, none⟩ (.int .i64 fv)).drew.cell? ⟨p, 1, none⟩ = some (.slice (some ⟨g, 0, none⟩) n cL) := hR3.cells.2
        have hr1 : (wc.setCell ⟨g, at_, none⟩ (.int .i64 fv)).drew.cell? ⟨g, at_, none⟩ = some (.int .i64 fv) := by
          have := hR3.row.cellAt at_ (by omega)
          rw [List.getElem?_map, List.getElem?_set_self (by rw [H2.out.len]; omega)] at this
          exact this
        have HR3 := Lib.hid hR3
        have HT3 := Lib.hid hT3
        clear hfv hR3 hT3 hu9 hll
        by_cases hf : fv < 0
        · have hE : useR x at_ l s = wrongR ⟨s.made, s.L.set at_ fv, s.fl⟩ at_ 110 := by unfold useR; rw [if_pos HU.out, HFV.out, if_pos hf]
          have HE := Lib.hid hE
          have HWR := Lib.hid (wrong_any (wc.setCell ⟨g, at_, none⟩ (.int .i64 fv)).drew base p _ n c t g cL _ (HR3.out.bel (below_drewN' (Below.refl _ _) 1)) at_ 110 (by decide))
          clear hE
          go_wp2_with fail
          refine wp_tail 10 (by kernel_rfl) (by decide +kernel) ?_
          simp only [List.take_succ_cons, List.take_zero, List.drop_succ_cons, List.drop_zero]
          repeat (first | still_step | still_call HFD.out)
          refine wpStill_nil ?_
          go_wp2_with (go_at_call 40; refine HWR.out.mono ?_; rintro e wq ⟨rfl, hr, ht⟩)
          go_meet
          exact Lib.hid ⟨by rw [HE.out]; exact hr, (HT3.out.drewN 1).then ht⟩
        · have hE : useR x at_ l s = ⟨s.made, s.L.set at_ fv, s.fl⟩ := by unfold useR; rw [if_pos HU.out, HFV.out, if_neg hf]
          have HE := Lib.hid hE
          clear hE
          go_wp2_with fail
          refine wp_tail 10 (by kernel_rfl) (by decide +kernel) ?_
          simp only [List.take_succ_cons, List.take_zero, List.drop_succ_cons, List.drop_zero]
          repeat (first | still_step | still_call HFD.out)
          refine wpStill_nil ?_
          go_wp2_with fail
          go_meet
          exact Lib.hid ⟨by rw [HE.out]; exact HR3.out.bel (below_drewN' (Below.refl _ _) 1), HT3.out.drewN 1⟩
    case rest =>
      have HD := hcut
      clear hcut y0 y3
      obtain ⟨rs0, hrs⟩ : ∃ rs0, useR x at_ l s = rs0 := ⟨_, rfl⟩
      have hm0 : rs0.made = s.made := by rw [← hrs]; exact useR_made x at_ l s
      rw [hrs] at HD HDE
      clear hrs
      have hkrow := own_turns HK2.out HD.out.2 (fun g' hg' q => by have hz := (row_lo HK2.out hg').1; (try simp only [World.size_alloc] at hz); rcases q with q | q <;> omega)
      have hvs := HV2.out.turns HD.out.2 HF.out
      have hX3 := HX2.out.turns HD.out.2 (by rintro (q | q) <;> omega)
      have TW : Turns (RSet p g) w wc := (Turns.of_below HB0.out).then HD.out.2
      have y0 := hX3.cell 0
      unfold twC at y0
      simp only [List.getElem?_cons_zero] at y0
      have hwc : w.heap.size + 1 ≤ wc.heap.size := by have := HB2.out.size; have := HD.out.2.size; (try simp only [World.size_alloc] at *); omega
      have HKR := Lib.hid hkrow
      have HVS := Lib.hid hvs
      have HTW := Lib.hid TW
      have HM0 := Lib.hid hm0
      clear hkrow hvs hX3 TW hm0
      have hkn : k.cnt ≤ 5000 := by have := cnt_size k; have := HSZ.out; have := HLN.out; omega
      by_cases h3 : x.op = 3
      · have q3 : ((x.op : Int) != 3) = false := by simp; omega
        have hde : dE (.cons x k .nil) at_ l s = dB k (at_ + 1) l rs0 := by rw [HDE.out, if_pos h3]
        have HDE2 := Lib.hid hde
        clear h3 hde HDE
        have HRM := Lib.hid (World.ownsRow_made (base := wc.heap.size) (e := 56) (size := 2) wc #[] 0 (Nat.le_refl _) (Nat.zero_le _) rfl)
        have HVA := Lib.hid (HVS.out.bel (Below.new wc (.cells #[] 56)))
        have HBS : Hid (wc.heap.size ≤ (wc.alloc (.cells #[] 56)).heap.size) := Lib.hid (by simp)
        have hll : l.length ≤ 100000 := by have := HL.out; omega
        obtain ⟨i0, hi, hz0, hz1, hz2⟩ := info_parts info_var
        go_wp2_with (at_builtin; refine wpl_vcopy _ rfl _ _ rfl wc.heap.size wc.heap.size rfl HRM.out HBS.out A cS l rfl HVA.out hll ?_; intro v3 w3 ho3 hb3; obtain ⟨A3, c3, rfl⟩ := own_slice' ho3; have HO3 := Lib.hid ho3; have HB3 := Lib.hid hb3; clear ho3 hb3)
        have hb4 : Below wc.heap.size wc w3 := (Below.new wc _).trans HB3.out
        have HB4 := Lib.hid hb4
        clear hb4
        go_loopw [9, 10] (fun mv iv wr => ∃ (i : Nat) (Am : Option Addr) (cm : Nat) (lm : Vrs), mv = .slice Am lm.length cm ∧ iv = .int .i64 (i : Int) ∧ i ≤ k.cnt ∧ Hid (∃ f ai rs mm, Bk wc wr base p (some ⟨b, o_, none⟩) n c t g cL l k (at_ + 1) rs0 i f ai rs mm Am cm lm)) (fun _ iv _ => k.cnt - (intOf iv).toNat)
        case atStart => exact ⟨0, A3, c3, l, rfl, rfl, Nat.zero_le _, Lib.hid ⟨k, at_ + 1, rs0, _, ⟨by omega, HST.out.kids, HOK.out.2.1, HRT.out.2.1, Nat.le_refl _, HD.out.1.bel HB4.out, .of_below HB4.out, rfl, ⟨[], rfl, rfl⟩, Nat.le_refl _, HO3.out, HVS.out.wf, Nat.le_refl _⟩⟩⟩
        case round =>
          obtain ⟨i, Am, cm, lm, rfl, rfl, hi9, HE⟩ := hrel
          obtain ⟨f, ai, rs, mm, hE⟩ := HE.out
          clear HE
          have HE := Lib.hid hE
          have hEc := hE.cnt
          cases f with
          | nil =>
            obtain rfl : i = k.cnt := by simp only [Fo.cnt] at hEc; omega
            have hlt9 : ¬ (k.cnt : Int) < (k.cnt : Int) := by omega
            clear hE hEc
            go_wp2_with fail
            go_end0
            refine ⟨rfl, ?_, HTW.out.then HE.out.tr⟩
            rw [HDE2.out, ← HE.out.run]
            have := HE.out.rst
            simpa [dB] using this
          | cons y k2 r =>
            have hlt9 : (i : Int) < (k.cnt : Int) := by simp only [Fo.cnt] at hEc; omega
            have hsg := starts_get rfl hE.starts
            obtain ⟨gk, ck, ek, _, hgk, hk5, hk6⟩ := own_at HKR.out (by omega)
            injection ek with ek1 _ ek3
            subst ek1 ek3
            have hgkp : ¬ RSet p g gk := by have hz := (row_lo (g := gk) HKR.out rfl).1; (try simp only [World.size_alloc] at hz); rintro (q | q) <;> omega
            unfold maxLen at hk6
            have h9 := HKR.out.cellAt i (by omega)
            rw [List.getElem?_map, hsg] at h9
            have hck : ∀ W, Turns (RSet p g) wc W → W.cell? ⟨gk, i, none⟩ = some (.int .i64 (ai : Int)) := fun W hW => (hW.cell (p := ⟨gk, i, none⟩) hgk hgkp).trans h9
            have HCK := Lib.hid hck
            have ckc := hck wr hE.tr
            obtain ⟨hylt, hyt⟩ := hE.st.head
            have hy : t[ai]? = some y := by rw [List.getElem?_eq_getElem hylt, hyt]
            obtain ⟨b2, o2, ea2, hbl2, u0, u1, u2, u3⟩ := tree_cell hE.rst.tw hy
            injection ea2 with ea2
            injection ea2 with ea2 ea3 _
            subst ea2 ea3
            obtain ⟨p0, p1⟩ := hE.rst.cells
            have hain : (ai : Int) < (n : Int) := by have := HLN.out; omega
            have hai0 : (0 : Int) ≤ (ai : Int) := by omega
            have hyw := hE.rst.tw.tw.wf ai hylt
            rw [hyt] at hyw
            have hszk := hE.size
            have hmd := hE.made
            have hln9 := hE.ln
            simp only [Fo.size] at hszk hmd hln9
            have hml : lm.length + (1 + k2.size) ≤ 50000 := by have := HL.out; omega
            have hmm : rs.made + (1 + k2.size) ≤ 50000 := by have := HS.out; have := HM0.out; omega
            have HMR := Lib.hid hE.row
            have hmfar : ∀ i, VsB Am lm.length i → ¬ RSet p g i := by
              rintro i ⟨_, xa, rfl, rfl⟩ hq
              have hz := (row_lo (g := xa.block) hE.row rfl).1
              rcases hq with hq | hq <;> omega
            have HMF := Lib.hid hmfar
            have HYT := Lib.hid hy
            have HSG := Lib.hid hsg
            clear hsg hmfar hck h9
            by_cases h4 : y.op = 4
            · have q4 : ((y.op : Int) == 4) = true := by rw [beq_iff_eq]; omega
              have H4 := Lib.hid h4
              clear h4
              obtain ⟨z, kz, hkz⟩ := let_one hE.rt.1 H4.out hE.ok.1
              subst hkz
              have HMK := Lib.hid (fun nq : Nat => make_any (wr.drewN nq) base p _ n c t g cL rs (hE.rst.bel (below_drewN' (Below.refl _ _) nq)) hn (by omega) ai y HYT.out Am cm lm ((Vs.of hE.row hE.wf).bel (below_drewN' (Below.refl _ _) nq)) (by omega) HMF.out)
              have hVM : ∀ W, Turns (RSet p g) wr W → Vs W Am cm lm := fun W hW => (Vs.of hE.row hE.wf).turns hW HMF.out
              have HVM := Lib.hid hVM
              have HSTK := Lib.hid hE.st.kids
              simp only [Fo.size] at hszk hmd hln9 hml hmm
              have hl1 : Hid (lm.length + 1 ≤ maxLen) := Lib.hid (by unfold maxLen; omega)
              have hl2 : Hid ((lm.length + 1) * 24 ≤ 140737488355328) := Lib.hid (by omega)
              have hai1 : (ai : Int) ≤ 5000 := by omega
              clear hE hEc hVM
              go_wp2_with fail
              go_quiet (fail)
              have hTq : Turns (RSet p g) wr (wr.drewN nq) := (Turns.refl _ wr).drewN nq
              have ckq := HCK.out _ (HE.out.tr.then hTq)
              have HTQ := Lib.hid hTq
              clear hTq
              go_wp2_with (first | (go_at_call 28; refine (HMK.out _).mono ?_; rintro e w5 ⟨rfl, hr5, ht5⟩; have hT5 : Turns (RSet p g) wr (w5.alloc (.cells #[.string y.text, .int .i64 (rs.made : Int)] 56)) := (HTQ.out.then ht5).alloc _; have ck5 := HCK.out _ (HE.out.tr.then hT5); have HT5 := Lib.hid hT5; have hw5 : wc.heap.size ≤ w5.heap.size := Nat.le_trans HE.out.tr.size (Nat.le_trans (HTQ.out.size) ht5.size); have HW := Lib.hid (HIH.out (w5.alloc (.cells #[.string y.text, .int .i64 (rs.made : Int)] 56)) (mkR y ai lm rs) z kz (ai + 1) _ Am cm lm (by omega) (hr5.bel (Below.new w5 _)) HSTK.out HE.out.ok.2.1 HE.out.rt.2.1 (HVM.out _ hT5) HMF.out (by omega) (by rw [mkR_made]; omega)); have HV5 := Lib.hid (Blk.new w5 56 [.string y.text, .int .i64 (rs.made : Int)]); clear hr5 ht5 hT5) | (go_at_call 29; refine HW.out.mono ?_; rintro e w6 ⟨rfl, hr6, ht6⟩; have hv6 := HV5.out.turns ht6 (by rintro (q | q) <;> omega); have v60 := hv6.cell 0; have v61 := hv6.cell 1; simp only [List.getElem?_cons_zero, List.getElem?_cons_succ] at v60 v61; have hT6 := HT5.out.then ht6; have HR6 := Lib.hid hr6; have HT6 := Lib.hid hT6; have HRW := Lib.hid ((own_turns HMR.out hT6 (fun g' hg' q => by have hz := (row_lo HMR.out hg').1; rcases q with q | q <;> omega)).alloc (.cells #[.string y.text, .int .i64 (rs.made : Int)] 56)); have HNW := Lib.hid (Blk.new w6 56 [.string y.text, .int .i64 (rs.made : Int)]).news; have HBS6 : Hid (wc.heap.size ≤ (w6.alloc (.cells #[.string y.text, .int .i64 (rs.made : Int)] 56)).heap.size) := Lib.hid (by have h8 := HE.out.tr.size; have h9 := hT6.size; simp; omega); clear hr6 ht6 hv6 hT6) | (at_builtin; refine wpList_append_own_at _ rfl _ _ 54 rfl wc.heap.size 56 i0 _ 2 24 Try.underlying54 hi hz0 hz1 hz2 rfl (by decide) _ _ _ rfl HRW.out ⟨w6.heap.size, 0, none⟩ 1 1 [.string y.text, .int .i64 (rs.made : Int)] rfl rfl HNW.out (by intro u hu; simp at hu; rcases hu with rfl | rfl <;> rfl) hl1.out hl2.out HBS6.out ?_; intro v7 y7 hown7 hgr7 _ _; obtain ⟨A7, c7, rfl⟩ := own_slice' hown7; have HO7 := Lib.hid hown7; have HG7 := Lib.hid hgr7; clear hown7 hgr7))
              have TC : Turns (RSet p g) wc y7 := ((HE.out.tr.then HT6.out).alloc _).trans (.of_grown (S := fun i => (Value.slice Am lm.length cm).ownBlock = some i) HG7.out (fun r e => e)) (fun i hi e => by have hz := (row_lo HRW.out e).1; omega)
              have T67 : Turns (fun i => wc.heap.size ≤ i) w6 y7 := ((Turns.refl _ w6).alloc _).trans (.of_grown (S := fun i => (Value.slice Am lm.length cm).ownBlock = some i) HG7.out (fun r e => e)) (fun i hi e => (row_lo HRW.out e).1)
              have hr7 : RSt y7 base p (some ⟨b, o_, none⟩) n c t g cL (dE (.cons z kz .nil) (ai + 1) lm (mkR y ai lm rs)) := by
                have hq := HR6.out
                obtain ⟨atv, ev, hb9, hm9⟩ := hq.blk
                have hbw : b < wc.heap.size := by omega
                refine ⟨⟨atv, ev, hb9.turns T67 (by omega), hm9⟩, own_turns hq.row T67 (fun g' hg' q => ?_), hq.len, ?_, hq.far, hq.ne, hq.made⟩
                · simp only [Value.ownBlock, Option.some.injEq] at hg'
                  have hg9 : g = g' := hg'
                  omega
                · exact HH.out.tree (HTW.out.then TC)
              refine ⟨⟨i + 1, A7, c7, lm ++ [(y.text, (rs.made : Int))], by simp, by go_num, by omega, Lib.hid ⟨r, _, _, _, HE.out.step hr7 TC (by simp only [dB]; rw [if_pos H4.out]) ?_ ?_ ?_ (by simp)⟩⟩, by simp [intOf]; omega⟩
              · have := (d_made (.cons z kz .nil) (ai + 1) lm (mkR y ai lm rs)).1
                rw [mkR_made] at this
                simp only [Fo.size] at this ⊢
                omega
              · simp only [List.flatMap_append, List.flatMap_cons, List.flatMap_nil, List.append_nil, List.length_append, List.length_cons, List.length_nil, vrC]
                exact HO7.out
              · intro q hq
                rcases List.mem_append.1 hq with hq | hq
                · exact HE.out.wf q hq
                · simp only [List.mem_singleton] at hq
                  subst hq
                  simp only
                  omega
            · have q4 : ((y.op : Int) == 4) = false := by rw [beq_eq_false_iff_ne]; omega
              have H4 := Lib.hid h4
              have HCALL := Lib.hid (fun nq : Nat => HIH.out (wr.drewN nq) rs y k2 ai mm Am cm lm (by omega) (hE.rst.bel (below_drewN' (Below.refl _ _) nq)) hE.st.one ⟨hE.ok.1, hE.ok.2.1, trivial⟩ ⟨hE.rt.1, hE.rt.2.1, trivial⟩ ((Vs.of hE.row hE.wf).bel (below_drewN' (Below.refl _ _) nq)) HMF.out hml hmm)
              clear h4 hE hEc
              go_wp2_with fail
              go_quiet (fail)
              go_wp2_with (go_at_call 29; refine (HCALL.out _).mono ?_; rintro e wn ⟨rfl, hrn, htn⟩; have HRN := Lib.hid hrn; have HTN := Lib.hid htn; clear hrn htn)
              have htt : Turns (RSet p g) wr wn := ((Turns.refl _ wr).drewN _).then HTN.out
              refine ⟨⟨i + 1, Am, cm, lm, rfl, by go_num, by omega, Lib.hid ⟨r, _, _, _, HE.out.step HRN.out (HE.out.tr.then htt) (dB_cons y k2 r ai lm rs H4.out) ?_ (own_turns HMR.out htt (fun g' hg' q => by have hz := (row_lo HMR.out hg').1; rcases q with q | q <;> omega)) HE.out.wf (by omega)⟩⟩, by simp [intOf]; omega⟩
              have := (d_made (.cons y k2 .nil) ai lm rs).1
              simpa [Fo.size] using this
      · have q3 : ((x.op : Int) != 3) = true := by simp; omega
        have hde : dE (.cons x k .nil) at_ l s = dE k (at_ + 1) l rs0 := by rw [HDE.out, if_neg h3]
        have HDE2 := Lib.hid hde
        clear h3 hde HDE
        go_wp2_with fail
        go_loopw [8] (fun iv wr => ∃ i : Nat, iv = .int .i64 (i : Int) ∧ i ≤ k.cnt ∧ Hid (∃ f ai rs mm, Ek wc wr base p (some ⟨b, o_, none⟩) n c t g cL l k (at_ + 1) rs0 i f ai rs mm)) (fun iv _ => k.cnt - (intOf iv).toNat)
        case atStart => exact ⟨0, rfl, Nat.zero_le _, Lib.hid ⟨k, at_ + 1, rs0, _, ⟨by omega, HST.out.kids, HOK.out.2.1, HRT.out.2.1, Nat.le_refl _, HD.out.1, Turns.refl _ _, rfl, ⟨[], rfl, rfl⟩, Nat.le_refl _⟩⟩⟩
        case round =>
          obtain ⟨i, rfl, hi9, HE⟩ := hrel
          obtain ⟨f, ai, rs, mm, hE⟩ := HE.out
          clear HE
          have HE := Lib.hid hE
          have hEc := hE.cnt
          cases f with
          | nil =>
            obtain rfl : i = k.cnt := by simp only [Fo.cnt] at hEc; omega
            have hlt9 : ¬ (k.cnt : Int) < (k.cnt : Int) := by omega
            clear hE hEc
            go_wp2_with fail
            go_end0
            refine ⟨rfl, ?_, HTW.out.then HE.out.tr⟩
            rw [HDE2.out, ← HE.out.run]
            have := HE.out.rst
            simpa [dE] using this
          | cons y k2 r =>
            have hlt9 : (i : Int) < (k.cnt : Int) := by simp only [Fo.cnt] at hEc; omega
            have hsg := starts_get rfl hE.starts
            obtain ⟨gk, ck, ek, _, hgk, hk5, hk6⟩ := own_at HKR.out (by omega)
            injection ek with ek1 _ ek3
            subst ek1 ek3
            have hgkp : ¬ RSet p g gk := by have := (row_lo (g := gk) HKR.out rfl).1; simp only [World.size_alloc] at this; rintro (q | q) <;> omega
            have ckc : wr.cell? ⟨gk, i, none⟩ = some (.int .i64 (ai : Int)) := by
              have h9 := HKR.out.cellAt i (by omega)
              rw [List.getElem?_map, hsg] at h9
              exact (hE.tr.cell (p := ⟨gk, i, none⟩) hgk hgkp).trans h9
            unfold maxLen at hk6
            have hszk := hE.size
            have hmd := hE.made
            simp only [Fo.size] at hszk hmd
            have HCALL := Lib.hid (HIH.out wr rs y k2 ai mm A cS l (by omega) hE.rst hE.st.one ⟨hE.ok.1, hE.ok.2.1, trivial⟩ ⟨hE.rt.1, hE.rt.2.1, trivial⟩ (HVS.out.turns hE.tr HF.out) HF.out (by have := HL.out; omega) (by have := HS.out; have := HM0.out; omega))
            clear hE hEc hsg hszk hmd
            go_wp2_with (go_at_call 29; refine HCALL.out.mono ?_; rintro e wn ⟨rfl, hrn, htn⟩; have HRN := Lib.hid hrn; have HTN := Lib.hid htn; clear hrn htn)
            exact ⟨⟨i + 1, by go_num, by omega, Lib.hid ⟨r, _, _, _, HE.out.step HRN.out HTN.out⟩⟩, by simp [intOf]; omega⟩
theorem rw_any (base p : Nat) (a : Option Addr) (n c : Nat) (t : List Tw) (g cL : Nat) (hn : n ≤ 5000) : ∀ (r : Nat) (w : World) (s : RS) (x : Tw) (k : Fo) (at_ : Nat) (m : May) (A : Option Addr) (cS : Nat) (l : Vrs), k.size < r → RSt w base p a n c t g cL s → Stands t at_ (.cons x k .nil) → (Fo.cons x k .nil).ok → (Fo.cons x k .nil).rt m → Vs w A cS l → (∀ i, VsB A l.length i → ¬ RSet p g i) → l.length + (1 + k.size) ≤ 50000 → s.made + (1 + k.size) ≤ 50000 →
    Calls Try.prog 29 #[.pointer (some ⟨p, 0, none⟩), .int .i64 (at_ : Int), .slice A l.length cS] w (RwY w base p a n c t g cL (dE (.cons x k .nil) at_ l s)) := by
  intro r
  induction r with
  | zero => intro w s x k at_ m A cS l h; omega
  | succ r ih =>
    intro w s x k at_ m A cS l hr h hst hok hrt hv hfar hl hs
    exact rw_step w base p a n c t g cL hn x k at_ m s h hst hok hrt A cS l hv hfar hl hs fun w s y k2 a2 m A cS l hk h1 h2 h3 h4 h5 h6 h7 h8 => ih w s y k2 a2 m A cS l (by omega) h1 h2 h3 h4 h5 h6 h7 h8
end Go.Proofs.Ytmacmejpcpdnnaa
