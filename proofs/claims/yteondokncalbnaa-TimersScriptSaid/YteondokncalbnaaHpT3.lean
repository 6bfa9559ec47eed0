/- heap.sink at prompter/api.Timer (written by gen_heap2.py). -/
import Derived.Test.YteondokncalbnaaHpT2
namespace Go.Proofs.Yteondokncalbnaa
open Go.RowKit

set_option maxRecDepth 20000 in
set_option maxHeartbeats 4000000 in
theorem sinkT (w : World) (p : Nat) (v : Value) (M : Nat) (xs : List Th) (m : Int → Option Value) (nx i : Nat) (h : HRawT w p v M xs m nx) (hV : Vir xs xs xs m i (gT xs i)) (hE : EE xs i) :
    Calls Try.prog 65 #[.pointer (some ⟨p, 0, none⟩), .int .i64 (i : Int)] w fun e w' => e = .returned (.tuple #[]) ∧ ∃ zs m' i', zs.Perm xs ∧ EUp zs i' ∧ gT zs i' = gT xs i ∧ i' < zs.length ∧ Pos m' zs ∧ HRawT w' p v M zs m' nx ∧ Turns (HS p v M) w w' := by
  have hi := hV.lt
  obtain ⟨g, cap, rfl, hvb, hg, hnc, hcm⟩ := own_at h.row (by omega)
  have hfew := h.few
  generalize hx : gT xs i = x at *
  have b1 := h.blk.cell 1
  simp only [List.getElem?_cons_succ, List.getElem?_cons_zero] at b1
  obtain ⟨r0, r1, r0', r1', r2'⟩ := row_cellsT h rfl hi hx
  have hone := h.one_at hi
  rw [hx] at hone
  have s0 := store_oneT hone 0 (by omega)
  have s1 := store_oneT hone 1 (by omega)
  have s2 := store_oneT hone 2 (by omega)
  have hi' : (i : Int) < (xs.length : Int) := by omega
  have HO := Lib.hid hone
  have HH := Lib.hid h
  have HVV := Lib.hid hV
  have HEE := Lib.hid hE
  have HX := Lib.hid hx
  clear h hV hE hx hone
  go_enter Try.func65, Try.ntmps65
  go_wp2_with fail
  have W0 : Blk (w.alloc (.cells #[.int .i64 x.key, .int .i64 (x.num : Int), x.v 0, x.v 1, x.v 2] 92)) w.heap.size 92 [.int .i64 x.key, .int .i64 (x.num : Int), x.v 0, x.v 1, x.v 2] := Blk.new w _ _
  have hB0 : Below w.heap.size w (w.alloc (.cells #[.int .i64 x.key, .int .i64 (x.num : Int), x.v 0, x.v 1, x.v 2] 92)) := Below.new w _
  have H0 := Lib.hid (HH.out.bel hB0)
  have T0 : Turns (HS p (.slice (some ⟨g, 0, none⟩) xs.length cap) M) w (w.alloc (.cells #[.int .i64 x.key, .int .i64 (x.num : Int), x.v 0, x.v 1, x.v 2] 92)) := .of_below hB0
  have hlts := Lib.hid HH.out.lts
  clear hB0 HH b1 r0 r1 r0' r1' r2'
  generalize w.alloc (.cells #[.int .i64 x.key, .int .i64 (x.num : Int), x.v 0, x.v 1, x.v 2] 92) = W at *
  generalize w.heap.size = b at *
  clear HX
  go_loopw [1] (fun iv wr => ∃ (k : Nat) (zs ys : List Th) (m1 : Int → Option Value), iv = .int .i64 (k : Int) ∧ HRawT wr p (.slice (some ⟨g, 0, none⟩) xs.length cap) M ys m1 nx ∧ Vir xs zs ys m1 k x ∧ EE zs k ∧ Turns (HS p (.slice (some ⟨g, 0, none⟩) xs.length cap) M) w wr ∧ Blk wr b 92 [.int .i64 x.key, .int .i64 (x.num : Int), x.v 0, x.v 1, x.v 2]) (fun iv _ => xs.length - (intOf iv).toNat)
  case atStart => exact ⟨i, xs, xs, m, rfl, H0.out, HVV.out, HEE.out, T0, W0⟩
  case round =>
    clear W0 T0 H0 HVV HEE hi hi'
    obtain ⟨k, zs, ys, m1, rfl, hR, hVr, hEr, hTr, hBx⟩ := hrel
    have hyl : ys.length = xs.length := hVr.len.trans hVr.perm.length_eq
    have hzl : zs.length = xs.length := hVr.perm.length_eq
    have hkl : k < xs.length := by have := hVr.lt; omega
    have hk' : (k : Int) < (xs.length : Int) := by omega
    have hbS : ¬ HS p (.slice (some ⟨g, 0, none⟩) xs.length cap) M b := fun hs => by have := hlts.out b hs; omega
    have hyz : ∀ j, j < zs.length → j ≠ k → gT ys j = gT zs j := hVr.ys
    have hsz : zs.length = xs.length := hzl
    have HYZ := Lib.hid hyz
    have HZL := Lib.hid hzl
    have HYL := Lib.hid hyl
    have hzi : zs.length ≤ xs.length ∧ xs.length ≤ zs.length := by omega
    have hyi : ys.length ≤ xs.length ∧ xs.length ≤ ys.length := by omega
    clear hyz hzl hsz
    by_cases h1 : 2 * k + 1 < xs.length
    · have h1I : 2 * (k : Int) + 1 < (xs.length : Int) := by omega
      by_cases h2 : 2 * k + 1 + 1 < xs.length
      · have h2I : 2 * (k : Int) + 1 + 1 < (xs.length : Int) := by omega
        have hw2 : IntKind.i64.wrap (2 * (k : Int) + 1 + 1) = 2 * (k : Int) + 1 + 1 := IntWalk.i64_in _ (by omega)
        generalize hya : gT ys (2 * k + 1) = ya at *
        generalize hyb : gT ys (2 * k + 1 + 1) = yb at *
        have Hyaz : Hid (ya = gT zs (2 * k + 1)) := Lib.hid (by rw [← hya]; exact HYZ.out _ (by omega) (by omega))
        have Hybz : Hid (yb = gT zs (2 * k + 1 + 1)) := Lib.hid (by rw [← hyb]; exact HYZ.out _ (by omega) (by omega))
        have Hya := Lib.hid hya
        have Hyb := Lib.hid hyb
        clear hya hyb
        have HRR := Lib.hid hR
        have HVr := Lib.hid hVr
        have HEr := Lib.hid hEr
        have HTr := Lib.hid hTr
        have HBx := Lib.hid hBx
        clear hR hVr hEr hTr hBx
        obtain ⟨r0, r1, r0', r1', r2'⟩ := row_cellsT HRR.out hyl.symm (i := 2 * k + 1) (by omega) Hya.out
        obtain ⟨t0, t1, t0', t1', t2'⟩ := row_cellsT HRR.out hyl.symm (i := 2 * k + 1 + 1) (by omega) Hyb.out
        have b1 := HRR.out.blk.cell 1
        simp only [List.getElem?_cons_succ, List.getElem?_cons_zero] at b1
        have hgw := HRR.out.lts g (.inr (.inr rfl))
        have q1 := BelowW.cell HRR.out.blk.lt b1
        have q2 := BelowW.cell hgw t0
        have q3 := BelowW.cell hgw t1
        have q0' := BelowW.cell hgw t0'
        have q1' := BelowW.cell hgw t1'
        have q2' := BelowW.cell hgw t2'
        have q4 := BelowW.cell hgw r0
        have q5 := BelowW.cell hgw r1
        have q0'' := BelowW.cell hgw r0'
        have q1'' := BelowW.cell hgw r1'
        have q2'' := BelowW.cell hgw r2'
        clear hyl r0 r1 t0 t1 r0' t0' r1' t1' r2' t2'
        by_cases hlt : yb.lt ya
        · have hd := cmpT_bool hlt
          have HLow : Hid (low zs k = 2 * k + 1 + 1) := Lib.hid (by unfold low; rw [if_pos ⟨by omega, by rw [← Hyaz.out, ← Hybz.out]; exact hlt⟩])
          go_wp2_with fail
          refine wp_region_quiet_below (by kernel_rfl) (by kernel_rfl) ?_
          repeat (go_big_quiet_step ((go_at_call 66; exact Calls.below_of (aheadT yb ya _))))
          refine wpQuiet_nil ?_
          intro wq hw'
          have hq := belowW_out hw'
          clear hw' hgw q1 q2 q3 q4 q5 q0' q0'' q1' q1'' q2' q2''
          have HRR := Lib.hid (HRR.out.bel hq)
          have HTr := Lib.hid (HTr.out.then (.of_below hq))
          have HBx := Lib.hid (HBx.out.bel hq)
          clear hq
          have hyl := HYL.out
          clear b1
          have b1 := HRR.out.blk.cell 1
          simp only [List.getElem?_cons_succ, List.getElem?_cons_zero] at b1
          go_wp2_with fail
          clear b1
          obtain ⟨r0, r1, r0', r1', r2'⟩ := row_cellsT HRR.out hyl.symm (i := 2 * k + 1 + 1) (by omega) Hyb.out
          have hcI : 2 * (k : Int) + 1 + 1 < (xs.length : Int) := by omega
          have b1 := HRR.out.blk.cell 1
          simp only [List.getElem?_cons_succ, List.getElem?_cons_zero] at b1
          have a0 := HBx.out.cell 0
          have a1 := HBx.out.cell 1
          have a0' := HBx.out.cell (0 + 2)
          have a1' := HBx.out.cell (1 + 2)
          have a2' := HBx.out.cell (2 + 2)
          simp only [List.getElem?_cons_succ, List.getElem?_cons_zero] at a0 a1 a0' a1' a2'
          have hbb := HBx.out.lt
          have hgw := HRR.out.lts g (.inr (.inr rfl))
          have q1 := BelowW.cell HRR.out.blk.lt b1
          have q2 := BelowW.cell hbb a0
          have q3 := BelowW.cell hbb a1
          have q0' := BelowW.cell hbb a0'
          have q1' := BelowW.cell hbb a1'
          have q2' := BelowW.cell hbb a2'
          have q4 := BelowW.cell hgw r0
          have q5 := BelowW.cell hgw r1
          have q0'' := BelowW.cell hgw r0'
          have q1'' := BelowW.cell hgw r1'
          have q2'' := BelowW.cell hgw r2'
          clear b1 a0 a1 r0 r1 a0' r0' a1' r1' a2' r2'
          by_cases hlx : x.lt yb
          · have hd := cmpT_bool hlx
            go_wp2_with fail
            refine wp_region_quiet_below (by kernel_rfl) (by kernel_rfl) ?_
            repeat (go_big_quiet_step ((go_at_call 66; exact Calls.below_of (aheadT x yb _))))
            refine wpQuiet_nil ?_
            intro wq hw'
            have hq := belowW_out hw'
            clear hw' hbb hgw q1 q2 q3 q4 q5 q0' q0'' q1' q1'' q2' q2''
            have HRR := Lib.hid (HRR.out.bel hq)
            have HTr := Lib.hid (HTr.out.then (.of_below hq))
            have HBx := Lib.hid (HBx.out.bel hq)
            clear hq
            have a0 := HBx.out.cell 0
            have a1 := HBx.out.cell 1
            have a0' := HBx.out.cell (0 + 2)
            have a1' := HBx.out.cell (1 + 2)
            have a2' := HBx.out.cell (2 + 2)
            simp only [List.getElem?_cons_succ, List.getElem?_cons_zero] at a0 a1 a0' a1' a2'
            go_wp2_with fail
            refine (layT wq p _ M ys m1 nx k x HRR.out (by omega) HO.out).mono ?_
            rintro e w3 ⟨rfl, h3, t3⟩
            go_wp2_with fail
            go_end0
            obtain ⟨h4, h5⟩ := HVr.out.done
            rw [h4] at h3
            exact ⟨rfl, zs, _, k, HVr.out.perm, HEr.out.stays (by rw [HVr.out.at_, HLow.out, ← Hybz.out]; exact hlx), HVr.out.at_, HVr.out.lt, h5, h3, HTr.out.then t3⟩
          · have hd := cmpT_not hlx
            go_wp2_with fail
            refine wp_region_quiet_below (by kernel_rfl) (by kernel_rfl) ?_
            repeat (go_big_quiet_step ((go_at_call 66; exact Calls.below_of (aheadT x yb _))))
            refine wpQuiet_nil ?_
            intro wq hw'
            have hq := belowW_out hw'
            clear hw' hbb hgw q1 q2 q3 q4 q5 q0' q0'' q1' q1'' q2' q2''
            have HRR := Lib.hid (HRR.out.bel hq)
            have HTr := Lib.hid (HTr.out.then (.of_below hq))
            have HBx := Lib.hid (HBx.out.bel hq)
            clear hq
            have b1 := HRR.out.blk.cell 1
            simp only [List.getElem?_cons_succ, List.getElem?_cons_zero] at b1
            obtain ⟨r0, r1, r0', r1', r2'⟩ := row_cellsT HRR.out hyl.symm (i := 2 * k + 1 + 1) (by omega) Hyb.out
            have hOy := HRR.out.one_at (i := 2 * k + 1 + 1) (by omega)
            rw [Hyb.out] at hOy
            have hOY := Lib.hid hOy
            clear hOy
            go_wp2_with fail
            refine (layT wq p _ M ys m1 nx k yb HRR.out (by omega) hOY.out).mono ?_
            rintro e w3 ⟨rfl, h3, t3⟩
            go_wp2_with fail
            go_roundw
            case rel =>
              refine ⟨2 * k + 1 + 1, swp zs k (2 * k + 1 + 1), ys.set k yb, upd m1 (yb.num : Int) (.int .i64 (k : Int)), by go_num, h3, ?_, ?_, HTr.out.then t3, HBx.out.turns t3 hbS⟩
              · have := HVr.out.step (p := 2 * k + 1 + 1) (by have := HVr.out.len; omega) (by omega)
                rw [Hyb.out] at this
                exact this
              · have := HEr.out.step (by have := HVr.out.len; omega)
                rw [HLow.out] at this
                exact this
            case measure => simp [intOf]; omega
        · have hd := cmpT_not hlt
          have HLow : Hid (low zs k = 2 * k + 1) := Lib.hid (by unfold low; rw [if_neg]; rintro ⟨_, hh⟩; rw [← Hyaz.out, ← Hybz.out] at hh; exact hlt hh)
          go_wp2_with fail
          refine wp_region_quiet_below (by kernel_rfl) (by kernel_rfl) ?_
          repeat (go_big_quiet_step ((go_at_call 66; exact Calls.below_of (aheadT yb ya _))))
          refine wpQuiet_nil ?_
          intro wq hw'
          have hq := belowW_out hw'
          clear hw' hgw q1 q2 q3 q4 q5 q0' q0'' q1' q1'' q2' q2''
          have HRR := Lib.hid (HRR.out.bel hq)
          have HTr := Lib.hid (HTr.out.then (.of_below hq))
          have HBx := Lib.hid (HBx.out.bel hq)
          clear hq
          have hyl := HYL.out
          clear b1
          have b1 := HRR.out.blk.cell 1
          simp only [List.getElem?_cons_succ, List.getElem?_cons_zero] at b1
          go_wp2_with fail
          clear b1
          obtain ⟨r0, r1, r0', r1', r2'⟩ := row_cellsT HRR.out hyl.symm (i := 2 * k + 1) (by omega) Hya.out
          have hcI : 2 * (k : Int) + 1 < (xs.length : Int) := by omega
          have b1 := HRR.out.blk.cell 1
          simp only [List.getElem?_cons_succ, List.getElem?_cons_zero] at b1
          have a0 := HBx.out.cell 0
          have a1 := HBx.out.cell 1
          have a0' := HBx.out.cell (0 + 2)
          have a1' := HBx.out.cell (1 + 2)
          have a2' := HBx.out.cell (2 + 2)
          simp only [List.getElem?_cons_succ, List.getElem?_cons_zero] at a0 a1 a0' a1' a2'
          have hbb := HBx.out.lt
          have hgw := HRR.out.lts g (.inr (.inr rfl))
          have q1 := BelowW.cell HRR.out.blk.lt b1
          have q2 := BelowW.cell hbb a0
          have q3 := BelowW.cell hbb a1
          have q0' := BelowW.cell hbb a0'
          have q1' := BelowW.cell hbb a1'
          have q2' := BelowW.cell hbb a2'
          have q4 := BelowW.cell hgw r0
          have q5 := BelowW.cell hgw r1
          have q0'' := BelowW.cell hgw r0'
          have q1'' := BelowW.cell hgw r1'
          have q2'' := BelowW.cell hgw r2'
          clear b1 a0 a1 r0 r1 a0' r0' a1' r1' a2' r2'
          by_cases hlx : x.lt ya
          · have hd := cmpT_bool hlx
            go_wp2_with fail
            refine wp_region_quiet_below (by kernel_rfl) (by kernel_rfl) ?_
            repeat (go_big_quiet_step ((go_at_call 66; exact Calls.below_of (aheadT x ya _))))
            refine wpQuiet_nil ?_
            intro wq hw'
            have hq := belowW_out hw'
            clear hw' hbb hgw q1 q2 q3 q4 q5 q0' q0'' q1' q1'' q2' q2''
            have HRR := Lib.hid (HRR.out.bel hq)
            have HTr := Lib.hid (HTr.out.then (.of_below hq))
            have HBx := Lib.hid (HBx.out.bel hq)
            clear hq
            have a0 := HBx.out.cell 0
            have a1 := HBx.out.cell 1
            have a0' := HBx.out.cell (0 + 2)
            have a1' := HBx.out.cell (1 + 2)
            have a2' := HBx.out.cell (2 + 2)
            simp only [List.getElem?_cons_succ, List.getElem?_cons_zero] at a0 a1 a0' a1' a2'
            go_wp2_with fail
            refine (layT wq p _ M ys m1 nx k x HRR.out (by omega) HO.out).mono ?_
            rintro e w3 ⟨rfl, h3, t3⟩
            go_wp2_with fail
            go_end0
            obtain ⟨h4, h5⟩ := HVr.out.done
            rw [h4] at h3
            exact ⟨rfl, zs, _, k, HVr.out.perm, HEr.out.stays (by rw [HVr.out.at_, HLow.out, ← Hyaz.out]; exact hlx), HVr.out.at_, HVr.out.lt, h5, h3, HTr.out.then t3⟩
          · have hd := cmpT_not hlx
            go_wp2_with fail
            refine wp_region_quiet_below (by kernel_rfl) (by kernel_rfl) ?_
            repeat (go_big_quiet_step ((go_at_call 66; exact Calls.below_of (aheadT x ya _))))
            refine wpQuiet_nil ?_
            intro wq hw'
            have hq := belowW_out hw'
            clear hw' hbb hgw q1 q2 q3 q4 q5 q0' q0'' q1' q1'' q2' q2''
            have HRR := Lib.hid (HRR.out.bel hq)
            have HTr := Lib.hid (HTr.out.then (.of_below hq))
            have HBx := Lib.hid (HBx.out.bel hq)
            clear hq
            have b1 := HRR.out.blk.cell 1
            simp only [List.getElem?_cons_succ, List.getElem?_cons_zero] at b1
            obtain ⟨r0, r1, r0', r1', r2'⟩ := row_cellsT HRR.out hyl.symm (i := 2 * k + 1) (by omega) Hya.out
            have hOy := HRR.out.one_at (i := 2 * k + 1) (by omega)
            rw [Hya.out] at hOy
            have hOY := Lib.hid hOy
            clear hOy
            go_wp2_with fail
            refine (layT wq p _ M ys m1 nx k ya HRR.out (by omega) hOY.out).mono ?_
            rintro e w3 ⟨rfl, h3, t3⟩
            go_wp2_with fail
            go_roundw
            case rel =>
              refine ⟨2 * k + 1, swp zs k (2 * k + 1), ys.set k ya, upd m1 (ya.num : Int) (.int .i64 (k : Int)), by go_num, h3, ?_, ?_, HTr.out.then t3, HBx.out.turns t3 hbS⟩
              · have := HVr.out.step (p := 2 * k + 1) (by have := HVr.out.len; omega) (by omega)
                rw [Hya.out] at this
                exact this
              · have := HEr.out.step (by have := HVr.out.len; omega)
                rw [HLow.out] at this
                exact this
            case measure => simp [intOf]; omega
      · have h2I : ¬ 2 * (k : Int) + 1 + 1 < (xs.length : Int) := by omega
        have hd2 : decide (2 * (k : Int) + 1 + 1 < (xs.length : Int)) = false := by simpa using h2I
        have hw2 : IntKind.i64.wrap (2 * (k : Int) + 1 + 1) = 2 * (k : Int) + 1 + 1 := IntWalk.i64_in _ (by omega)
        generalize hya : gT ys (2 * k + 1) = ya at *
        have Hyaz : Hid (ya = gT zs (2 * k + 1)) := Lib.hid (by rw [← hya]; exact HYZ.out _ (by omega) (by omega))
        have Hya := Lib.hid hya
        have HLow : Hid (low zs k = 2 * k + 1) := Lib.hid (by unfold low; rw [if_neg]; rintro ⟨hh, _⟩; omega)
        clear hya hyl
        have HRR := Lib.hid hR
        have HVr := Lib.hid hVr
        have HEr := Lib.hid hEr
        have HTr := Lib.hid hTr
        have HBx := Lib.hid hBx
        clear hR hVr hEr hTr hBx
        have b1 := HRR.out.blk.cell 1
        simp only [List.getElem?_cons_succ, List.getElem?_cons_zero] at b1
        go_wp2_with fail
        go_quiet (fail)
        clear b1
        have HRR := Lib.hid (HRR.out.bel (below_drewN' (Below.refl _ _) nq))
        have HTr := Lib.hid (HTr.out.then (.of_below (below_drewN' (Below.refl _ _) nq)))
        have HBx := Lib.hid (HBx.out.bel (below_drewN' (Below.refl _ _) nq))
        have hyl := HYL.out
        generalize wr.drewN nq = wv at *
        have b1 := HRR.out.blk.cell 1
        simp only [List.getElem?_cons_succ, List.getElem?_cons_zero] at b1
        go_wp2_with fail
        clear b1
        obtain ⟨r0, r1, r0', r1', r2'⟩ := row_cellsT HRR.out hyl.symm (i := 2 * k + 1) (by omega) Hya.out
        have hcI : 2 * (k : Int) + 1 < (xs.length : Int) := by omega
        have b1 := HRR.out.blk.cell 1
        simp only [List.getElem?_cons_succ, List.getElem?_cons_zero] at b1
        have a0 := HBx.out.cell 0
        have a1 := HBx.out.cell 1
        have a0' := HBx.out.cell (0 + 2)
        have a1' := HBx.out.cell (1 + 2)
        have a2' := HBx.out.cell (2 + 2)
        simp only [List.getElem?_cons_succ, List.getElem?_cons_zero] at a0 a1 a0' a1' a2'
        have hbb := HBx.out.lt
        have hgw := HRR.out.lts g (.inr (.inr rfl))
        have q1 := BelowW.cell HRR.out.blk.lt b1
        have q2 := BelowW.cell hbb a0
        have q3 := BelowW.cell hbb a1
        have q0' := BelowW.cell hbb a0'
        have q1' := BelowW.cell hbb a1'
        have q2' := BelowW.cell hbb a2'
        have q4 := BelowW.cell hgw r0
        have q5 := BelowW.cell hgw r1
        have q0'' := BelowW.cell hgw r0'
        have q1'' := BelowW.cell hgw r1'
        have q2'' := BelowW.cell hgw r2'
        clear b1 a0 a1 r0 r1 a0' r0' a1' r1' a2' r2'
        by_cases hlx : x.lt ya
        · have hd := cmpT_bool hlx
          go_wp2_with fail
          refine wp_region_quiet_below (by kernel_rfl) (by kernel_rfl) ?_
          repeat (go_big_quiet_step ((go_at_call 66; exact Calls.below_of (aheadT x ya _))))
          refine wpQuiet_nil ?_
          intro wq hw'
          have hq := belowW_out hw'
          clear hw' hbb hgw q1 q2 q3 q4 q5 q0' q0'' q1' q1'' q2' q2''
          have HRR := Lib.hid (HRR.out.bel hq)
          have HTr := Lib.hid (HTr.out.then (.of_below hq))
          have HBx := Lib.hid (HBx.out.bel hq)
          clear hq
          have a0 := HBx.out.cell 0
          have a1 := HBx.out.cell 1
          have a0' := HBx.out.cell (0 + 2)
          have a1' := HBx.out.cell (1 + 2)
          have a2' := HBx.out.cell (2 + 2)
          simp only [List.getElem?_cons_succ, List.getElem?_cons_zero] at a0 a1 a0' a1' a2'
          go_wp2_with fail
          refine (layT wq p _ M ys m1 nx k x HRR.out (by omega) HO.out).mono ?_
          rintro e w3 ⟨rfl, h3, t3⟩
          go_wp2_with fail
          go_end0
          obtain ⟨h4, h5⟩ := HVr.out.done
          rw [h4] at h3
          exact ⟨rfl, zs, _, k, HVr.out.perm, HEr.out.stays (by rw [HVr.out.at_, HLow.out, ← Hyaz.out]; exact hlx), HVr.out.at_, HVr.out.lt, h5, h3, HTr.out.then t3⟩
        · have hd := cmpT_not hlx
          go_wp2_with fail
          refine wp_region_quiet_below (by kernel_rfl) (by kernel_rfl) ?_
          repeat (go_big_quiet_step ((go_at_call 66; exact Calls.below_of (aheadT x ya _))))
          refine wpQuiet_nil ?_
          intro wq hw'
          have hq := belowW_out hw'
          clear hw' hbb hgw q1 q2 q3 q4 q5 q0' q0'' q1' q1'' q2' q2''
          have HRR := Lib.hid (HRR.out.bel hq)
          have HTr := Lib.hid (HTr.out.then (.of_below hq))
          have HBx := Lib.hid (HBx.out.bel hq)
          clear hq
          have b1 := HRR.out.blk.cell 1
          simp only [List.getElem?_cons_succ, List.getElem?_cons_zero] at b1
          obtain ⟨r0, r1, r0', r1', r2'⟩ := row_cellsT HRR.out hyl.symm (i := 2 * k + 1) (by omega) Hya.out
          have hOy := HRR.out.one_at (i := 2 * k + 1) (by omega)
          rw [Hya.out] at hOy
          have hOY := Lib.hid hOy
          clear hOy
          go_wp2_with fail
          refine (layT wq p _ M ys m1 nx k ya HRR.out (by omega) hOY.out).mono ?_
          rintro e w3 ⟨rfl, h3, t3⟩
          go_wp2_with fail
          go_roundw
          case rel =>
            refine ⟨2 * k + 1, swp zs k (2 * k + 1), ys.set k ya, upd m1 (ya.num : Int) (.int .i64 (k : Int)), by go_num, h3, ?_, ?_, HTr.out.then t3, HBx.out.turns t3 hbS⟩
            · have := HVr.out.step (p := 2 * k + 1) (by have := HVr.out.len; omega) (by omega)
              rw [Hya.out] at this
              exact this
            · have := HEr.out.step (by have := HVr.out.len; omega)
              rw [HLow.out] at this
              exact this
          case measure => simp [intOf]; omega
    · have h1I : ¬ 2 * (k : Int) + 1 < (xs.length : Int) := by omega
      have HRR := Lib.hid hR
      have HVr := Lib.hid hVr
      have HEr := Lib.hid hEr
      have HTr := Lib.hid hTr
      have HBx := Lib.hid hBx
      clear hR hVr hEr hTr hBx
      clear hyl
      have b1 := HRR.out.blk.cell 1
      simp only [List.getElem?_cons_succ, List.getElem?_cons_zero] at b1
      have a0 := HBx.out.cell 0
      have a1 := HBx.out.cell 1
      have a0' := HBx.out.cell (0 + 2)
      have a1' := HBx.out.cell (1 + 2)
      have a2' := HBx.out.cell (2 + 2)
      simp only [List.getElem?_cons_succ, List.getElem?_cons_zero] at a0 a1 a0' a1' a2'
      go_wp2_with fail
      refine (layT _ p _ M ys m1 nx k x HRR.out (by omega) HO.out).mono ?_
      rintro e w3 ⟨rfl, h3, t3⟩
      go_wp2_with fail
      go_end0
      obtain ⟨h4, h5⟩ := HVr.out.done
      rw [h4] at h3
      exact ⟨rfl, zs, _, k, HVr.out.perm, HEr.out.leaf (by omega), HVr.out.at_, HVr.out.lt, h5, h3, HTr.out.then t3⟩
end Go.Proofs.Yteondokncalbnaa
