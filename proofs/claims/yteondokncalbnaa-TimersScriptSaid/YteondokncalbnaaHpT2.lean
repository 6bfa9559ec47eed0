/- heap.rise at prompter/api.Timer (written by gen_heap2.py). -/
import Derived.Test.YteondokncalbnaaHpT1
namespace Go.Proofs.Yteondokncalbnaa
open Go.RowKit

theorem HRawT.one_at {w : World} {p : Nat} {v : Value} {M : Nat} {xs : List Th} {m : Int → Option Value} {nx i : Nat} (h : HRawT w p v M xs m nx) (hi : i < xs.length) : ∀ u ∈ thCT (gT xs i), u.oneCell' = true := by
  rw [gT_of hi]
  exact h.one _ (List.getElem_mem hi)
theorem store_oneT {t : Th} (h : ∀ u ∈ thCT t, u.oneCell' = true) (j : Nat) (hj : j < 3) : ∀ (w : World) (a : Addr) (md : Mode), (store a (t.v j) md).run Try.prog w = stored Try.prog w a (t.v j) md :=
  fun w a md => run_store Try.prog w a _ md (h _ (by
    unfold thCT
    rcases j with _ | _ | _ | j <;> first | omega | simp))
/-- a thing's cells in a row, as the walk spells them -/
theorem row_cellsT {w : World} {p g cap M nx : Nat} {n : Nat} {xs : List Th} {m : Int → Option Value} (h : HRawT w p (.slice (some ⟨g, 0, none⟩) n cap) M xs m nx) (hn : n = xs.length) {i : Nat} (hi : i < xs.length) {x : Th} (hx : gT xs i = x) :
    w.cell? ⟨g, i * 5, none⟩ = some (.int .i64 x.key) ∧ w.cell? ⟨g, i * 5 + 1, none⟩ = some (.int .i64 (x.num : Int)) ∧ w.cell? ⟨g, i * 5 + (0 + 2), none⟩ = some (x.v 0) ∧ w.cell? ⟨g, i * 5 + (1 + 2), none⟩ = some (x.v 1) ∧ w.cell? ⟨g, i * 5 + (2 + 2), none⟩ = some (x.v 2) := by
  subst hn hx
  exact ⟨row_cellT h.row rfl i 0 hi (by omega), row_cellT h.row rfl i 1 hi (by omega), row_cellT h.row rfl i (0 + 2) hi (by omega), row_cellT h.row rfl i (1 + 2) hi (by omega), row_cellT h.row rfl i (2 + 2) hi (by omega)⟩

theorem HRawT.keep {S : Nat → Prop} {w w' : World} {p : Nat} {v : Value} {M : Nat} {xs : List Th} {m : Int → Option Value} {nx : Nat} (h : HRawT w p v M xs m nx) (k : Turns S w w') (hp : ¬ S p) (hM : ¬ S M) (hv : ∀ g, v.ownBlock = some g → ¬ S g) : HRawT w' p v M xs m nx := by
  obtain ⟨n, hm⟩ := h.map
  exact ⟨h.blk.turns k hp, own_turns h.row k hv, ⟨n, hm.turns k hM⟩, h.one, h.few⟩
theorem HRawT.bel {w w' : World} {p : Nat} {v : Value} {M : Nat} {xs : List Th} {m : Int → Option Value} {nx : Nat} (h : HRawT w p v M xs m nx) (k : Below w.heap.size w w') : HRawT w' p v M xs m nx :=
  h.keep (.of_below (S := fun _ => False) k) id id (fun _ _ => id)
theorem HRawT.lts {w : World} {p : Nat} {v : Value} {M : Nat} {xs : List Th} {m : Int → Option Value} {nx : Nat} (h : HRawT w p v M xs m nx) : ∀ i, HS p v M i → i < w.heap.size := by
  obtain ⟨n, hm⟩ := h.map
  rintro i (rfl | rfl | hi)
  · exact h.blk.lt
  · exact hm.lt
  · exact (h.row.lt i hi).2
set_option maxRecDepth 20000 in
set_option maxHeartbeats 8000000 in
theorem riseT (w : World) (p : Nat) (v : Value) (M : Nat) (xs : List Th) (m : Int → Option Value) (nx i : Nat) (h : HRawT w p v M xs m nx) (hV : Vir xs xs xs m i (gT xs i)) (hE : EUp xs i) :
    Calls Try.prog 51 #[.pointer (some ⟨p, 0, none⟩), .int .i64 (i : Int)] w fun e w' => e = .returned (.tuple #[]) ∧ ∃ zs m', zs.Perm xs ∧ Heap zs ∧ Pos m' zs ∧ HRawT w' p v M zs m' nx ∧ Turns (HS p v M) w w' := by
  have hi := hV.lt
  obtain ⟨g, cap, rfl, hvb, hg, hnc, hcm⟩ := own_at h.row (by omega)
  have hfew := h.few
  generalize hx : gT xs i = x at *
  have b1 := h.blk.cell 1
  simp only [List.getElem?_cons_succ, List.getElem?_cons_zero] at b1
  obtain ⟨r0, r1, r0', r1', r2'⟩ := row_cellsT h rfl hi hx
  have hone := h.one_at hi
  rw [hx] at hone
  have s0 := store_oneT hone 0 (by omega)
  have s1 := store_oneT hone 1 (by omega)
  have s2 := store_oneT hone 2 (by omega)
  have hi' : (i : Int) < (xs.length : Int) := by omega
  have HO := Lib.hid hone
  have HH := Lib.hid h
  have HVV := Lib.hid hV
  have HEE := Lib.hid hE
  have HX := Lib.hid hx
  clear h hV hE hx hone
  go_enter Try.func51, Try.ntmps51
  go_wp2_with fail
  have W0 : Blk (w.alloc (.cells #[.int .i64 x.key, .int .i64 (x.num : Int), x.v 0, x.v 1, x.v 2] 92)) w.heap.size 92 [.int .i64 x.key, .int .i64 (x.num : Int), x.v 0, x.v 1, x.v 2] := Blk.new w _ _
  have hB0 : Below w.heap.size w (w.alloc (.cells #[.int .i64 x.key, .int .i64 (x.num : Int), x.v 0, x.v 1, x.v 2] 92)) := Below.new w _
  have H0 := Lib.hid (HH.out.bel hB0)
  have T0 : Turns (HS p (.slice (some ⟨g, 0, none⟩) xs.length cap) M) w (w.alloc (.cells #[.int .i64 x.key, .int .i64 (x.num : Int), x.v 0, x.v 1, x.v 2] 92)) := .of_below hB0
  have hlts := Lib.hid HH.out.lts
  clear hB0 HH b1 r0 r1 r0' r1' r2'
  generalize w.alloc (.cells #[.int .i64 x.key, .int .i64 (x.num : Int), x.v 0, x.v 1, x.v 2] 92) = W at *
  generalize w.heap.size = b at *
  go_loopw [1] (fun iv wr => ∃ (k : Nat) (zs ys : List Th) (m1 : Int → Option Value), iv = .int .i64 (k : Int) ∧ HRawT wr p (.slice (some ⟨g, 0, none⟩) xs.length cap) M ys m1 nx ∧ Vir xs zs ys m1 k x ∧ EUp zs k ∧ Turns (HS p (.slice (some ⟨g, 0, none⟩) xs.length cap) M) w wr ∧ Blk wr b 92 [.int .i64 x.key, .int .i64 (x.num : Int), x.v 0, x.v 1, x.v 2]) (fun iv _ => (intOf iv).toNat)
  case atStart => exact ⟨i, xs, xs, m, rfl, H0.out, HVV.out, HEE.out, T0, W0⟩
  case round =>
    clear W0 T0 H0 HVV HEE hi hi'
    obtain ⟨k, zs, ys, m1, rfl, hR, hVr, hEr, hTr, hBx⟩ := hrel
    have hyl : ys.length = xs.length := hVr.len.trans hVr.perm.length_eq
    have hkl : k < xs.length := by have := hVr.lt; have := hVr.perm.length_eq; omega
    have hk' : (k : Int) < (xs.length : Int) := by omega
    have hbb : b < wr.heap.size := hBx.lt
    have hbS : ¬ HS p (.slice (some ⟨g, 0, none⟩) xs.length cap) M b := fun hs => by have := hlts.out b hs; omega
    by_cases h0 : 0 < k
    · have hp := par_lt h0
      have hpi := par_int h0
      obtain ⟨r0, r1, r0', r1', r2'⟩ := row_cellsT hR hyl.symm (i := par k) (by omega) rfl
      have b1 := hR.blk.cell 1
      simp only [List.getElem?_cons_succ, List.getElem?_cons_zero] at b1
      have hw1 : IntKind.i64.wrap ((k : Int) - 1) = (k : Int) - 1 := IntWalk.i64_in _ (by omega)
      have hpl : par k < ys.length := by omega
      have hpk : ((par k : Nat) : Int) < (xs.length : Int) := by omega
      have hyz : gT ys (par k) = gT zs (par k) := hVr.ys _ (by have := hVr.lt; omega) (by omega)
      have a0 := hBx.cell 0
      have a1 := hBx.cell 1
      have a0' := hBx.cell (0 + 2)
      have a1' := hBx.cell (1 + 2)
      have a2' := hBx.cell (2 + 2)
      simp only [List.getElem?_cons_succ, List.getElem?_cons_zero] at a0 a1 a0' a1' a2'
      generalize hye : gT ys (par k) = y at *
      have HYZ := Lib.hid hyz
      have HYE := Lib.hid hye
      clear hyz hye
      have hgw : g < wr.heap.size := hR.lts g (.inr (.inr rfl))
      have q1 := BelowW.cell hR.blk.lt b1
      have q2 := BelowW.cell hbb a0
      have q3 := BelowW.cell hbb a1
      have q0' := BelowW.cell hbb a0'
      have q1' := BelowW.cell hbb a1'
      have q2' := BelowW.cell hbb a2'
      have q4 := BelowW.cell hgw r0
      have q5 := BelowW.cell hgw r1
      have q0'' := BelowW.cell hgw r0'
      have q1'' := BelowW.cell hgw r1'
      have q2'' := BelowW.cell hgw r2'
      have HRR := Lib.hid hR
      have HVr := Lib.hid hVr
      have HEr := Lib.hid hEr
      have HTr := Lib.hid hTr
      have HBx := Lib.hid hBx
      clear hR hVr hEr hTr hBx a0 a1 a0' a1' a2' b1 r0 r1 r0' r1' r2'
      by_cases hlt : x.lt y
      · have hd := cmpT_bool hlt
        go_wp2_with fail
        refine wp_region_quiet_below (by kernel_rfl) (by kernel_rfl) ?_
        repeat (go_big_quiet_step ((go_at_call 66; exact Calls.below_of (aheadT x y _))))
        refine wpQuiet_nil ?_
        intro wq hw'
        have hq := belowW_out hw'
        clear hw'
        clear q1 q2 q3 q4 q5 q0' q0'' q1' q1'' q2' q2''
        have hR2 := HRR.out.bel hq
        have hOy := HRR.out.one_at hpl
        rw [HYE.out] at hOy
        have hOY := Lib.hid hOy
        clear hOy
        obtain ⟨r0, r1, r0', r1', r2'⟩ := row_cellsT hR2 hyl.symm hpl HYE.out
        have b1 := hR2.blk.cell 1
        simp only [List.getElem?_cons_succ, List.getElem?_cons_zero] at b1
        have HR2 := Lib.hid hR2
        clear hR2
        go_wp2_with fail
        refine (layT wq p _ M ys m1 nx k y HR2.out (by omega) hOY.out).mono ?_
        rintro e w3 ⟨rfl, h3, t3⟩
        go_wp2_with fail
        go_roundw
        case rel =>
          refine ⟨par k, swp zs k (par k), ys.set k y, upd m1 (y.num : Int) (.int .i64 (k : Int)), by rw [hpi], h3, ?_, ?_, ?_, ?_⟩
          · have := HVr.out.step (p := par k) (by have := HVr.out.len; omega) (by omega)
            rw [HYE.out] at this
            exact this
          · exact HEr.out.step HVr.out.lt h0 (by rw [HVr.out.at_, ← HYZ.out]; exact hlt)
          · exact (HTr.out.then (.of_below hq)).then t3
          · exact (HBx.out.bel hq).turns t3 hbS
        case measure => simp [intOf]; omega
      · have hd := cmpT_not hlt
        go_wp2_with fail
        refine wp_region_quiet_below (by kernel_rfl) (by kernel_rfl) ?_
        repeat (go_big_quiet_step ((go_at_call 66; exact Calls.below_of (aheadT x y _))))
        refine wpQuiet_nil ?_
        intro wq hw'
        have hq := belowW_out hw'
        clear hw' q1 q2 q3 q4 q5 q0' q0'' q1' q1'' q2' q2''
        have hB2 := HBx.out.bel hq
        have a0 := hB2.cell 0
        have a1 := hB2.cell 1
        have a0' := hB2.cell (0 + 2)
        have a1' := hB2.cell (1 + 2)
        have a2' := hB2.cell (2 + 2)
        simp only [List.getElem?_cons_succ, List.getElem?_cons_zero] at a0 a1 a0' a1' a2'
        go_wp2_with fail
        refine (layT wq p _ M ys m1 nx k x (HRR.out.bel hq) (by omega) HO.out).mono ?_
        rintro e w3 ⟨rfl, h3, t3⟩
        go_wp2_with fail
        go_end0
        obtain ⟨h4, h5⟩ := HVr.out.done
        rw [h4] at h3
        exact ⟨rfl, zs, _, HVr.out.perm, HEr.out.done (.inr (by rw [HVr.out.at_, ← HYZ.out]; exact hlt)), h5, h3, (HTr.out.then (.of_below hq)).then t3⟩
    · obtain rfl : k = 0 := by omega
      have a0 := hBx.cell 0
      have a1 := hBx.cell 1
      have a0' := hBx.cell (0 + 2)
      have a1' := hBx.cell (1 + 2)
      have a2' := hBx.cell (2 + 2)
      simp only [List.getElem?_cons_succ, List.getElem?_cons_zero] at a0 a1 a0' a1' a2'
      have HRR := Lib.hid hR
      have HVr := Lib.hid hVr
      have HEr := Lib.hid hEr
      have HTr := Lib.hid hTr
      have HBx := Lib.hid hBx
      clear hR hVr hEr hTr hBx
      go_wp2_with fail
      go_quiet (fail)
      go_wp2_with fail
      refine (layT _ p _ M ys m1 nx 0 x (HRR.out.bel (below_drewN' (Below.refl _ _) _)) (by omega) HO.out).mono ?_
      rintro e w3 ⟨rfl, h3, t3⟩
      go_wp2_with fail
      go_end0
      obtain ⟨h4, h5⟩ := HVr.out.done
      rw [h4] at h3
      exact ⟨rfl, zs, _, HVr.out.perm, HEr.out.done (.inl rfl), h5, h3, (HTr.out.then (.of_below (below_drewN' (Below.refl _ _) _))).then t3⟩
end Go.Proofs.Yteondokncalbnaa
