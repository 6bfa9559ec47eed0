/- heap: drop at prompter/api.Timer (written by gen_heap3.py). -/
import Derived.Test.YteondokncalbnaaHpT5
import Derived.Deep.Cut
namespace Go.Proofs.Yteondokncalbnaa
open Go.RowKit

set_option maxRecDepth 20000 in
set_option maxHeartbeats 8000000 in
theorem dropT (w : World) (p : Nat) (v : Value) (M : Nat) (xs : List Th) (nx i : Nat) (h : HStT w p v M xs nx) (hi : i < xs.length) :
    Calls Try.prog 49 #[.pointer (some ⟨p, 0, none⟩), .int .i64 (i : Int)] w fun e w' => e = .returned (.tuple #[]) ∧ ∃ zs v', (gT xs i :: zs).Perm xs ∧ HStT w' p v' M zs nx ∧ v'.ownBlock = v.ownBlock ∧ Turns (HS p v M) w w' := by
  obtain ⟨m, hm, hp⟩ := h.raw
  obtain ⟨g, cap, rfl, hvb, hg, hnc, hcm⟩ := own_at hm.row (by omega)
  have hfew := hm.few
  have hlL : xs.length - 1 < xs.length := by omega
  generalize hx : gT xs i = x at *
  generalize hy : gT xs (xs.length - 1) = y at *
  obtain ⟨r0, r1, r0', r1', r2'⟩ := row_cellsT hm rfl hi hx
  obtain ⟨t0, t1, t0', t1', t2'⟩ := row_cellsT hm rfl hlL hy
  have b1 := hm.blk.cell 1
  have b2 := hm.blk.cell 2
  simp only [List.getElem?_cons_succ, List.getElem?_cons_zero] at b1 b2
  have hox := hm.one_at hi
  have hoy := hm.one_at hlL
  rw [hx] at hox
  rw [hy] at hoy
  have s0 := store_oneT hox 0 (by omega)
  have s1 := store_oneT hox 1 (by omega)
  have s2 := store_oneT hox 2 (by omega)
  have s0' := store_oneT hoy 0 (by omega)
  have s1' := store_oneT hoy 1 (by omega)
  have s2' := store_oneT hoy 2 (by omega)
  have hi' : (i : Int) < (xs.length : Int) := by omega
  have hn1 : (1 : Int) ≤ (xs.length : Int) := by omega
  have hnI : (xs.length : Int) ≤ 1000000 := by omega
  have HH := Lib.hid h
  have HM := Lib.hid hm
  have HP := Lib.hid hp
  have HX := Lib.hid hx
  have HY := Lib.hid hy
  have HOX := Lib.hid hox
  have HOY := Lib.hid hoy
  clear h hm hp hx hy hox hoy
  have hlts := Lib.hid HH.out.lts
  have HNB : ∀ r, (Value.slice (some ⟨g, 0, none⟩) xs.length cap).ownBlock = some r → r ≠ p := fun r hr => own_ne_blk HM.out.row hr HM.out.blk (by decide)
  obtain ⟨nm, hmm⟩ := HM.out.map
  have hMp : M ≠ p := hmm.ne_cells HM.out.blk
  have hMg : M ≠ g := fun e => own_ne_map HM.out.row hvb hmm e.symm
  have hgp : g ≠ p := HNB g hvb
  have hpw := HM.out.blk.lt
  have hMw := hmm.lt
  have HMM := Lib.hid hmm
  clear hmm HNB
  go_enter Try.func49, Try.ntmps49
  go_wp2_with fail
  have W0 : Blk (w.alloc (.cells #[.int .i64 x.key, .int .i64 (x.num : Int), x.v 0, x.v 1, x.v 2] 92)) w.heap.size 92 [.int .i64 x.key, .int .i64 (x.num : Int), x.v 0, x.v 1, x.v 2] := Blk.new w _ _
  have hB0 : Below w.heap.size w (w.alloc (.cells #[.int .i64 x.key, .int .i64 (x.num : Int), x.v 0, x.v 1, x.v 2] 92)) := Below.new w _
  have T0 : Turns (fun i => i = p ∨ i = g ∨ i = M) w (w.alloc (.cells #[.int .i64 x.key, .int .i64 (x.num : Int), x.v 0, x.v 1, x.v 2] 92)) := .of_below hB0
  have KB := Lib.hid (HM.out.blk.bel hB0)
  have KR := Lib.hid (own_turns HM.out.row (.of_below (S := fun _ => False) hB0) (fun _ _ => id))
  have KM := Lib.hid (HMM.out.below hB0)
  have hs1 : w.heap.size < (w.alloc (.cells #[.int .i64 x.key, .int .i64 (x.num : Int), x.v 0, x.v 1, x.v 2] 92)).heap.size := by simp
  clear hB0
  generalize w.alloc (.cells #[.int .i64 x.key, .int .i64 (x.num : Int), x.v 0, x.v 1, x.v 2] 92) = W at *
  generalize hb : w.heap.size = b at *
  have HBq := Lib.hid hb
  clear hb b1 b2 r0 r1 t0 t1 r0' t0' r1' t1' r2' t2'
  have b2 := KB.out.cell 2
  have a1 := W0.cell 1
  simp only [List.getElem?_cons_succ, List.getElem?_cons_zero] at b2 a1
  refine wp_tail 6 (by kernel_rfl) (by kernel_rfl) ?_
  simp only [List.take_succ_cons, List.take_zero, List.drop_succ_cons, List.drop_zero]
  repeat still_step
  refine wpStill_nil ?_
  refine wpl_delete (w := W.drew) rfl _ _ 94 3 rfl (int_keys Try.underlying3) Try.underlying94 KM.out (x.num : Int) rfl rfl ?_
  intro w3 hm3 ht3
  have HT3 : Turns (fun i => i = M) W w3 := ((Turns.refl (fun i => i = M) W).drewN 1).trans (.of_map (S := fun i => i = M) ht3 rfl) (fun _ _ e => e)
  have kb3 := KB.out.turns HT3 (fun e => hMp e.symm)
  have kr3 := own_turns KR.out HT3 (fun r hr e => by simp [Value.ownBlock] at hr; omega)
  clear b2 a1
  have b1 := kb3.cell 1
  have z1 := kb3.fz 1
  simp only [List.getElem?_cons_succ, List.getElem?_cons_zero] at b1
  have t0 := row_cellT kr3 rfl (xs.length - 1) 0 hlL (by omega)
  have t1 := row_cellT kr3 rfl (xs.length - 1) 1 hlL (by omega)
  have t0' := row_cellT kr3 rfl (xs.length - 1) (0 + 2) hlL (by omega)
  have t1' := row_cellT kr3 rfl (xs.length - 1) (1 + 2) hlL (by omega)
  have t2' := row_cellT kr3 rfl (xs.length - 1) (2 + 2) hlL (by omega)
  rw [HY.out] at t0 t1 t0' t1' t2'
  simp only [thCT, Nat.add_zero, Nat.zero_add, List.getElem?_cons_succ, List.getElem?_cons_zero] at t0 t1 t0' t1' t2'
  have z0' := kr3.frozenAt ((xs.length - 1) * 5 + 0)
  have z1' := kr3.frozenAt ((xs.length - 1) * 5 + 1)
  have z2' := kr3.frozenAt ((xs.length - 1) * 5 + 2)
  have z3' := kr3.frozenAt ((xs.length - 1) * 5 + 3)
  have z4' := kr3.frozenAt ((xs.length - 1) * 5 + 4)
  have KT3 := Lib.hid (T0.trans HT3 (fun _ _ e => .inr (.inr e)))
  have KM3 := Lib.hid hm3
  have hp3 := kb3.lt
  have hg3 := (kr3.lt g rfl).2
  have hpg' : p ≠ g := fun e => hgp e.symm
  have yB := Lib.hid (kb3.alloc (.cells #[.int .i64 y.key, .int .i64 (y.num : Int), y.v 0, y.v 1, y.v 2] 92))
  have yR := Lib.hid (kr3.alloc (.cells #[.int .i64 y.key, .int .i64 (y.num : Int), y.v 0, y.v 1, y.v 2] 92))
  have yW := Lib.hid (Blk.new w3 92 [.int .i64 y.key, .int .i64 (y.num : Int), y.v 0, y.v 1, y.v 2])
  have yM := Lib.hid (KM3.out.alloc (.cells #[.int .i64 y.key, .int .i64 (y.num : Int), y.v 0, y.v 1, y.v 2] 92))
  have yT := Lib.hid (KT3.out.alloc (.cells #[.int .i64 y.key, .int .i64 (y.num : Int), y.v 0, y.v 1, y.v 2] 92))
  have hcM : w3.heap.size ≠ M := by have := KM3.out.lt; omega
  clear kb3 kr3 hm3 HT3 T0 ht3 KB KR KM KT3 KM3 z0' z1' z2' z3' z4'
  go_upto_region 4 with (fail)
  generalize w3.alloc (.cells #[.int .i64 y.key, .int .i64 (y.num : Int), y.v 0, y.v 1, y.v 2] 92) = Y at *
  generalize hc : w3.heap.size = c at *
  have HC := Lib.hid hc
  have hcp : c ≠ p := by omega
  have hcg : c ≠ g := by omega
  clear hc b1 z1 t0 t1 t0' t1' t2'
  have b1 := yB.out.cell 1
  simp only [List.getElem?_cons_succ, List.getElem?_cons_zero] at b1
  have t0 := row_cellT yR.out rfl (xs.length - 1) 0 hlL (by omega)
  have t1 := row_cellT yR.out rfl (xs.length - 1) 1 hlL (by omega)
  have t2 := row_cellT yR.out rfl (xs.length - 1) 2 hlL (by omega)
  have t3 := row_cellT yR.out rfl (xs.length - 1) 3 hlL (by omega)
  have t4 := row_cellT yR.out rfl (xs.length - 1) 4 hlL (by omega)
  simp only [thCT, Nat.add_zero, List.getElem?_cons_succ, List.getElem?_cons_zero] at t0 t1 t2 t3 t4
  have z0' := yR.out.frozenAt ((xs.length - 1) * 5 + 0)
  have z1' := yR.out.frozenAt ((xs.length - 1) * 5 + 1)
  have z2' := yR.out.frozenAt ((xs.length - 1) * 5 + 2)
  have z3' := yR.out.frozenAt ((xs.length - 1) * 5 + 3)
  have z4' := yR.out.frozenAt ((xs.length - 1) * 5 + 4)
  simp only [Nat.add_zero] at z0'
  go_upto_region 5 with (fail)
  have zB := Lib.hid (((((yB.out.far (p := ⟨g, (xs.length - 1) * 5, none⟩) hpg' (.int .i64 0)).far (p := ⟨g, (xs.length - 1) * 5 + 1, none⟩) hpg' (.int .i64 0)).far (p := ⟨g, (xs.length - 1) * 5 + 2, none⟩) hpg' (.int .i64 0)).far (p := ⟨g, (xs.length - 1) * 5 + 3, none⟩) hpg' (.string ⟨#[]⟩)).far (p := ⟨g, (xs.length - 1) * 5 + 4, none⟩) hpg' (.int .i64 0))
  have zW := Lib.hid (((((yW.out.far (p := ⟨g, (xs.length - 1) * 5, none⟩) (by omega) (.int .i64 0)).far (p := ⟨g, (xs.length - 1) * 5 + 1, none⟩) (by omega) (.int .i64 0)).far (p := ⟨g, (xs.length - 1) * 5 + 2, none⟩) (by omega) (.int .i64 0)).far (p := ⟨g, (xs.length - 1) * 5 + 3, none⟩) (by omega) (.string ⟨#[]⟩)).far (p := ⟨g, (xs.length - 1) * 5 + 4, none⟩) (by omega) (.int .i64 0))
  have zT := Lib.hid (((((yT.out.set ⟨g, (xs.length - 1) * 5, none⟩ (.int .i64 0) (fun _ => .inr (.inl rfl))).set ⟨g, (xs.length - 1) * 5 + 1, none⟩ (.int .i64 0) (fun _ => .inr (.inl rfl))).set ⟨g, (xs.length - 1) * 5 + 2, none⟩ (.int .i64 0) (fun _ => .inr (.inl rfl))).set ⟨g, (xs.length - 1) * 5 + 3, none⟩ (.string ⟨#[]⟩) (fun _ => .inr (.inl rfl))).set ⟨g, (xs.length - 1) * 5 + 4, none⟩ (.int .i64 0) (fun _ => .inr (.inl rfl)))
  have zM := Lib.hid (((((yM.out.setCell ⟨g, (xs.length - 1) * 5, none⟩ (.int .i64 0)).setCell ⟨g, (xs.length - 1) * 5 + 1, none⟩ (.int .i64 0)).setCell ⟨g, (xs.length - 1) * 5 + 2, none⟩ (.int .i64 0)).setCell ⟨g, (xs.length - 1) * 5 + 3, none⟩ (.string ⟨#[]⟩)).setCell ⟨g, (xs.length - 1) * 5 + 4, none⟩ (.int .i64 0))
  have zR : Hid (World.ownsRow (((((Y.setCell ⟨g, (xs.length - 1) * 5, none⟩ (.int .i64 0)).setCell ⟨g, (xs.length - 1) * 5 + 1, none⟩ (.int .i64 0)).setCell ⟨g, (xs.length - 1) * 5 + 2, none⟩ (.int .i64 0)).setCell ⟨g, (xs.length - 1) * 5 + 3, none⟩ (.string ⟨#[]⟩)).setCell ⟨g, (xs.length - 1) * 5 + 4, none⟩ (.int .i64 0)) 0 92 5 (.slice (some ⟨g, 0, none⟩) (xs.length - 1) cap) (xs.length - 1) ((xs.take (xs.length - 1)).flatMap thCT)) := Lib.hid (by
    have h1 := own_take (((((yR.out.stored ((xs.length - 1) * 5) (.int .i64 0)).1.stored ((xs.length - 1) * 5 + 1) (.int .i64 0)).1.stored ((xs.length - 1) * 5 + 2) (.int .i64 0)).1.stored ((xs.length - 1) * 5 + 3) (.string ⟨#[]⟩)).1.stored ((xs.length - 1) * 5 + 4) (.int .i64 0)).1 (Nat.sub_le xs.length 1)
    rwa [List.take_set_of_le (by omega), List.take_set_of_le (by omega), List.take_set_of_le (by omega), List.take_set_of_le (by omega), List.take_set_of_le (by omega), flat_take thCT 5 thCT_len] at h1)
  clear yB yR yW yM yT b1 t0 t1 t2 t3 t4 z0' z1' z2' z3' z4'
  generalize ((((Y.setCell ⟨g, (xs.length - 1) * 5, none⟩ (.int .i64 0)).setCell ⟨g, (xs.length - 1) * 5 + 1, none⟩ (.int .i64 0)).setCell ⟨g, (xs.length - 1) * 5 + 2, none⟩ (.int .i64 0)).setCell ⟨g, (xs.length - 1) * 5 + 3, none⟩ (.string ⟨#[]⟩)).setCell ⟨g, (xs.length - 1) * 5 + 4, none⟩ (.int .i64 0) = Z at *
  have b1 := zB.out.cell 1
  have z1 := zB.out.fz 1
  simp only [List.getElem?_cons_succ, List.getElem?_cons_zero] at b1
  go_upto_region 6 with (fail)
  have KW4 := Lib.hid (zW.out.far (p := ⟨p, 1, none⟩) hcp (.slice (some ⟨g, 0, none⟩) (xs.length - 1) cap))
  have hRX : HRawT (Z.setCell ⟨p, 1, none⟩ (.slice (some ⟨g, 0, none⟩) (xs.length - 1) cap)) p (.slice (some ⟨g, 0, none⟩) (xs.length - 1) cap) M (xs.take (xs.length - 1)) (wipe m (x.num : Int)) nx := by
    have hln : (xs.take (xs.length - 1)).length = xs.length - 1 := by rw [List.length_take]; omega
    refine ⟨zB.out.set 1 _, by rw [hln]; exact own_turns zR.out ((Turns.refl (fun i => i = p) _).set ⟨p, 1, none⟩ _ (fun _ => rfl)) (fun r hr e => by simp [Value.ownBlock] at hr; omega), ⟨_, zM.out.setCell _ _⟩, fun t ht => HM.out.one t (List.mem_of_mem_take ht), by omega⟩
  have hTX : Turns (HS p (.slice (some ⟨g, 0, none⟩) xs.length cap) M) w (Z.setCell ⟨p, 1, none⟩ (.slice (some ⟨g, 0, none⟩) (xs.length - 1) cap)) :=
    (zT.out.set ⟨p, 1, none⟩ _ (fun _ => .inl rfl)).mono (fun i _ e => by
      rcases e with e | e | e
      · exact .inl e
      · exact .inr (.inr (by rw [e]; rfl))
      · exact .inr (.inl e))
  have KX := Lib.hid hRX
  have KTX := Lib.hid hTX
  clear zB zR zW zM zT hRX hTX b1 z1
  generalize Z.setCell ⟨p, 1, none⟩ (.slice (some ⟨g, 0, none⟩) (xs.length - 1) cap) = X4 at *
  have a0 := KW4.out.cell 0
  have a1 := KW4.out.cell 1
  have a2 := KW4.out.cell 2
  have a3 := KW4.out.cell 3
  have a4 := KW4.out.cell 4
  simp only [List.getElem?_cons_succ, List.getElem?_cons_zero] at a0 a1 a2 a3 a4
  by_cases hil : i = xs.length - 1
  · have hb1 : ((i : Int) == (xs.length : Int) - 1) = true := beq_iff_eq.2 (by omega)
    go_wp2_with fail
    refine bodyPost_ret (results_none rfl _ _ _) rfl ?_
    subst hil
    have hxx := HX.out
    have hpl := HP.out.last HH.out.apart (by omega)
    rw [hxx] at hpl
    have hperm := drop_perm hi
    rw [hxx] at hperm
    rw [List.take_set_of_le (Nat.le_refl _)] at hperm
    exact ⟨rfl, xs.take (xs.length - 1), _, hperm, ⟨⟨_, KX.out, hpl⟩, HH.out.heap.take _, HH.out.apart.tail hperm, fun t ht => HH.out.lt t (List.mem_of_mem_take ht), HH.out.few, by rw [List.length_take]; have := HH.out.len; omega⟩, rfl, KTX.out⟩
  · have hb1 : ((i : Int) == (xs.length : Int) - 1) = false := beq_eq_false_iff_ne.2 (by omega)
    go_wp2_with fail
    have hln : (xs.take (xs.length - 1)).length = xs.length - 1 := by rw [List.length_take]; omega
    refine (layT X4 p _ M (xs.take (xs.length - 1)) (wipe m (x.num : Int)) nx i y KX.out (by omega) HOY.out).mono ?_
    rintro e w5 ⟨rfl, h5, t5⟩
    have hcS : ¬ HS p (.slice (some ⟨g, 0, none⟩) (xs.length - 1) cap) M c := by
      rintro (e | e | e)
      · exact hcp e
      · exact hcM e
      · simp [Value.ownBlock] at e; omega
    have K5 := Lib.hid h5
    clear a0 a1 a2 a3 a4
    have T5 := Lib.hid (KTX.out.trans t5 (fun i _ e => e))
    have KW5 := Lib.hid (KW4.out.turns t5 hcS)
    clear h5 t5 KX KTX KW4
    have hap0 : Apart ((xs.set i y).take (xs.length - 1)) := HH.out.apart.tail (by have := drop_perm hi; rw [HX.out, HY.out] at this; exact this)
    have hpo := HP.out.moved HH.out.apart (i := i) (by omega)
    rw [HX.out, HY.out] at hpo
    rw [List.take_set] at hap0
    have hdp : (x :: (xs.take (xs.length - 1)).set i y).Perm xs := by have := drop_perm hi; rw [HX.out, HY.out, List.take_set] at this; exact this
    have HD5 := Lib.hid hdp
    clear hdp
    have hee : EE ((xs.take (xs.length - 1)).set i y) i := by
      have := (EE.of_set HH.out.heap y hi).take (n := xs.length - 1) (by omega)
      rwa [List.take_set] at this
    have hii : i < ((xs.take (xs.length - 1)).set i y).length := by rw [List.length_set, hln]; omega
    have hgi : gT ((xs.take (xs.length - 1)).set i y) i = y := by rw [gT_set (by omega), if_pos rfl]
    have HV5 := Lib.hid (Vir.start hpo hap0 hii)
    have HE5 := Lib.hid hee
    have HG5 := Lib.hid hgi
    have HA5 := Lib.hid hap0
    have HI5 := Lib.hid hii
    clear hap0 hpo hee hgi hii
    generalize (xs.take (xs.length - 1)).set i y = zs0 at *
    go_wp2_with fail
    refine (sinkT w5 p _ M zs0 _ nx i K5.out HV5.out HE5.out).mono ?_
    rintro e w6 ⟨rfl, zs1, m3, i3, p1, e1, g1, l1, po1, h6, t6⟩
    rw [HG5.out] at g1
    have K6 := Lib.hid h6
    have T6 := Lib.hid (T5.out.trans t6 (fun i _ e => e))
    have KW6 := Lib.hid (KW5.out.turns t6 hcS)
    have HA6 := Lib.hid (HA5.out.perm p1)
    have HV6 := Lib.hid (Vir.start po1 (HA5.out.perm p1) l1)
    have HE6 := Lib.hid e1
    have HP6 := Lib.hid p1
    have hm3 : m3 (y.num : Int) = some (.int .i64 (i3 : Int)) := by rw [← g1]; exact po1.is i3 l1
    obtain ⟨n6, hm6⟩ := h6.map
    have hlk : (Instr.lookup 94 (.map (some M)) (.int .i64 (y.num : Int)) false).run Try.prog w6.drew = .ok (.int .i64 (i3 : Int)) w6.drew := by
      have := MapIs.lookup (w := w6.drew) (t := 94) (e := 3) hm6 (int_keys Try.underlying3) Try.underlying94 (zeroIntE _) (y.num : Int) false
      rw [hm3] at this
      exact this
    have b2 := h6.blk.cell 2
    have a1 := KW6.out.cell 1
    simp only [List.getElem?_cons_succ, List.getElem?_cons_zero] at b2 a1
    clear h6 t6 p1 e1 g1 l1 po1 hm3 hm6 K5 T5 KW5 HV5 HE5
    go_wp2_with fail
    refine wp_tail 8 (by kernel_rfl) (by kernel_rfl) ?_
    simp only [List.take_succ_cons, List.take_zero, List.drop_succ_cons, List.drop_zero]
    repeat still_step
    refine wpStill_nil ?_
    go_wp2_with fail
    refine (riseT w6.drew p _ M zs1 m3 nx i3 (K6.out.bel (below_drewN' (Below.refl _ _) 1)) HV6.out HE6.out).mono ?_
    rintro e w7 ⟨rfl, zs2, m4, p2, hh2, po2, h7, t7⟩
    go_wp2_with fail
    go_end0
    have hpp : (x :: zs2).Perm xs := ((p2.trans HP6.out).cons x).trans HD5.out
    exact ⟨rfl, zs2, _, hpp, ⟨⟨m4, h7, po2⟩, hh2, HA6.out.perm p2, fun t ht => HH.out.lt t (hpp.mem_iff.1 (List.mem_cons_of_mem _ ht)), HH.out.few, by have := hpp.length_eq; have := HH.out.len; simp only [List.length_cons] at *; omega⟩, rfl, (T6.out.drewN 1).trans t7 (fun i _ e => e)⟩
end Go.Proofs.Yteondokncalbnaa
