/- wal, the law's world: keep, where a wal is open. -/
import Derived.Test.YteihedfmmiihiaaGreatWmJ
namespace Go.Proofs.YteihedfmmiihiaaGreat
open Go.RowKit Go.Maps Go.Sort Go.Shelf

theorem turns_x5 (W : World) (g : Nat) (u5 u6 u7 u8 u1 : Value) : Turns (fun i => i = g) W (((((W.setCell ⟨g, 5, none⟩ u5).setCell ⟨g, 6, none⟩ u6).setCell ⟨g, 7, none⟩ u7).setCell ⟨g, 8, none⟩ u8).setCell ⟨g, 1, none⟩ u1) :=
  Turns.set (S := fun i => i = g) (Turns.set (S := fun i => i = g) (Turns.set (S := fun i => i = g) (Turns.set (S := fun i => i = g) (Turns.of_set (S := fun i => i = g) W ⟨g, 5, none⟩ u5 rfl) ⟨g, 6, none⟩ u6 (fun _ => rfl)) ⟨g, 7, none⟩ u7 (fun _ => rfl)) ⟨g, 8, none⟩ u8 (fun _ => rfl)) ⟨g, 1, none⟩ u1 (fun _ => rfl)
def KSet (x d F wl : Nat) : Nat → Prop := fun i => XSet x d F i ∨ i = wl
def KeepX (w : World) (H x d F N : Nat) (dk : Dk) (s s2 : Sv) (wl : Nat) (e : Ending) (w' : World) : Prop :=
  e = .returned (.bool true) ∧ Turns (KSet x d F wl) w w' ∧
  ((∃ dk', AX w' H x d F (N + 5) dk' s2 wl ∧ (Lit dk → Lit dk')) ∨ (∃ dk', BX w' H x d F (N + 5) dk' s (some s2) ∧ ¬ Lit dk))
set_option maxRecDepth 20000 in
set_option maxHeartbeats 8000000 in
theorem keep_x (w : World) (H x d F N : Nat) (dk : Dk) (s : Sv) (wl : Nat) (h : AX w H x d F N dk s wl) (hN : N ≤ 900000) (hH : H ≤ w.heap.size) (s2 : Sv) (A : Option Addr) (c : Nat) (hl : Lg w A s2.log.length c s2.log) (hc2 : Cap s2) :
    Calls Tryz.prog 8 #[.pointer (some ⟨x, 0, none⟩), svV s2.term s2.vote A s2.log.length c] w (KeepX w H x d F N dk s s2 wl) := by
  have HR := Lib.hid h
  obtain ⟨A0, c0, p5, p6, p7, hb, hl0⟩ := h.blk
  obtain ⟨A1, c1, size, hw, hl1, ht⟩ := h.wal
  have B0 := Lib.hid (Below.new w (.cells #[.int .i64 s2.term, .int .i64 s2.vote, .slice A s2.log.length c] 27))
  have K0 := Lib.hid (Blk.new w 27 [.int .i64 s2.term, .int .i64 s2.vote, .slice A s2.log.length c])
  have HX := Lib.hid (hb.bel B0.out)
  have HL2 := Lib.hid (hl.bel B0.out)
  have HC2 := Lib.hid hc2
  have HW := Lib.hid (hw.bel B0.out)
  have HL1 := Lib.hid (hl1.bel B0.out)
  have HL0 := Lib.hid (hl0.bel B0.out)
  have HT := Lib.hid ht
  have HD := Lib.hid (DS.bel h.is B0.out)
  have hlt := hb.lt
  have HLT := Lib.hid (show d < w.heap.size ∧ F < w.heap.size ∧ wl < w.heap.size from ⟨(DS.lts h.is).1, (DS.lts h.is).2, hw.lt⟩)
  clear h hb hl0 hw hl1 hl hc2 ht
  unfold svV
  go_enter Tryz.func8, Tryz.ntmps8
  go_upto_region 1 with (fail)
  obtain ⟨g, hg⟩ : ∃ g, w.heap.size = g := ⟨_, rfl⟩
  have HG := Lib.hid hg
  rw [hg] at K0 B0 hlt
  generalize (w.alloc (.cells #[.int .i64 s2.term, .int .i64 s2.vote, .slice A s2.log.length c] 27)) = X at *
  have q1 : X.cell? ⟨x, 1, none⟩ = some (.pointer (some ⟨wl, 0, none⟩)) := HX.out.cell 1
  have k0 : X.cell? ⟨g, 0, none⟩ = some (.int .i64 s2.term) := K0.out.cell 0
  have k1 : X.cell? ⟨g, 1, none⟩ = some (.int .i64 s2.vote) := K0.out.cell 1
  have k2 : X.cell? ⟨g, 2, none⟩ = some (.slice A s2.log.length c) := K0.out.cell 2
  have HCP := copy_any X A s2.log.length c s2 HL2.out (by have := HC2.out.len; omega)
  unfold SavedY svV at HCP
  have HCP := Lib.hid HCP
  go_wp2_with fail
  refine HCP.out.mono ?_
  rintro e X1 ⟨A5, c5, rfl, ho5, hb5⟩
  have O5 := Lib.hid ho5
  have B5 := Lib.hid hb5
  have X5 := Lib.hid (HX.out.bel hb5)
  have W5 := Lib.hid (HW.out.bel hb5)
  have M5 := Lib.hid (HL1.out.bel hb5)
  have L5 := Lib.hid (HL0.out.bel hb5)
  have N5 := Lib.hid (HL2.out.bel hb5)
  have D5 := Lib.hid (DS.bel HD.out hb5)
  have K5 := Lib.hid (K0.out.bel hb5)
  clear ho5 hb5 HCP q1 k0 k1 k2
  obtain ⟨z, hz⟩ : ∃ z, X1.heap.size = z := ⟨_, rfl⟩
  have HZ := Lib.hid hz
  have BY := Lib.hid (Below.new X1 (.cells #[.int .i64 s2.term, .int .i64 s2.vote, .slice A5 s2.log.length c5] 27))
  have KY := Lib.hid (Blk.new X1 27 [.int .i64 s2.term, .int .i64 s2.vote, .slice A5 s2.log.length c5])
  go_upto_region 4 with (fail)
  rw [hz] at KY
  clear hz
  generalize (X1.alloc (.cells #[.int .i64 s2.term, .int .i64 s2.vote, .slice A5 s2.log.length c5] 27)) = Y at *
  obtain ⟨rc, rd, hr⟩ : ∃ a b, keepR dk s s2 size = (a, b) := ⟨(keepR dk s s2 size).1, (keepR dk s s2 size).2, rfl⟩
  obtain ⟨sz2, hs2⟩ : ∃ n, keepN s s2 size = n := ⟨_, rfl⟩
  have HLIT : Hid (Lit dk → rc = 0 ∧ Lit rd) := Lib.hid (fun hl => by have := keepR_lit HR.out.off hl s s2 size; rw [hr] at this; exact this)
  have hsay := keep_says HR.out.off HT.out HC2.out.ok (M := 2000000) (by have := HC2.out.full; omega) (by have := HT.out.small; have := HR.out.cap.full; omega)
  rw [hr, hs2] at hsay
  simp only at hsay
  have HSAY := Lib.hid hsay
  have HD1 := Lib.hid (below_drewN' (Below.refl Y.heap.size Y) 1)
  have OY := Lib.hid (O5.out.bel BY.out)
  have XY := Lib.hid (X5.out.bel BY.out)
  have HKP := Lib.hid (keep_ok Y.drew d F N wl dk (DS.bel (DS.bel D5.out BY.out) HD1.out) HR.out.off x0 s A1 c1 size ((W5.out.bel BY.out).bel HD1.out) ((M5.out.bel BY.out).bel HD1.out) HR.out.cap.len ⟨by have := HT.out.small; have := HR.out.cap.full; omega, HT.out.sz⟩ A5 s2.log.length c5 s2 (OY.out.lg.bel HD1.out) HC2.out.ok (by have := HC2.out.wgt; omega) rc rd hr sz2 hs2)
  have HK : Hid (∀ V, Below Y.heap.size Y V → V.cell? ⟨x, 1, none⟩ = some (.pointer (some ⟨wl, 0, none⟩)) ∧ V.cell? ⟨z, 0, none⟩ = some (.int .i64 s2.term) ∧ V.cell? ⟨z, 1, none⟩ = some (.int .i64 s2.vote) ∧ V.cell? ⟨z, 2, none⟩ = some (.slice A5 s2.log.length c5)) := Lib.hid (fun V hV => ⟨(XY.out.bel hV).cell 1, (KY.out.bel hV).cell 0, (KY.out.bel hV).cell 1, (KY.out.bel hV).cell 2⟩)
  clear hr hs2 hsay
  have HNE : Hid (x ≠ d ∧ x ≠ F ∧ x ≠ wl ∧ d < X1.heap.size ∧ F < X1.heap.size ∧ wl < X1.heap.size ∧ x < X1.heap.size) := Lib.hid ⟨fun e => by
      have h1 := DS.blk D5.out
      rw [← e] at h1
      have := h1.symm.trans X5.out
      simp at this, fun e => by
      obtain ⟨mv, n, _, hm, _⟩ := DS.files D5.out
      rw [← e] at hm
      exact hm.ne_cells X5.out rfl, fun e => by
      have h1 := W5.out
      rw [← e] at h1
      have := h1.symm.trans X5.out
      simp at this, (DS.lts D5.out).1, (DS.lts D5.out).2, W5.out.lt, X5.out.lt⟩
  have HK7 : Hid (∀ V, Turns (AnS d F wl) Y.drew V → Blk V x 35 (xC d (some ⟨wl, 0, none⟩) s A0 c0 p5 p6 p7 false) ∧ Blk V z 27 [.int .i64 s2.term, .int .i64 s2.vote, .slice A5 s2.log.length c5]) := Lib.hid (fun V hV => ⟨(XY.out.bel HD1.out).turns hV (by have := HNE.out; unfold AnS; omega), (KY.out.bel HD1.out).turns hV (by have := HNE.out; have := HZ.out; unfold AnS; omega)⟩)
  unfold svV at HKP
  go_region_held3 (fun V => V.cell? ⟨x, 1, none⟩ = some (.pointer (some ⟨wl, 0, none⟩)) ∧ V.cell? ⟨z, 0, none⟩ = some (.int .i64 s2.term) ∧ V.cell? ⟨z, 1, none⟩ = some (.int .i64 s2.vote) ∧ V.cell? ⟨z, 2, none⟩ = some (.slice A5 s2.log.length c5)) (first | exact HK.out _ HD1.out | exact HS7.out) (first | (go_at_call 12; refine HKP.out.mono ?_; rintro e w7 ⟨rfl, h1, h2, h3⟩; have V1 := Lib.hid h1; have V2 := Lib.hid h2; have V3 := Lib.hid h3; have HS7 := Lib.hid (show w7.cell? ⟨x, 1, none⟩ = some (.pointer (some ⟨wl, 0, none⟩)) ∧ w7.cell? ⟨z, 0, none⟩ = some (.int .i64 s2.term) ∧ w7.cell? ⟨z, 1, none⟩ = some (.int .i64 s2.vote) ∧ w7.cell? ⟨z, 2, none⟩ = some (.slice A5 s2.log.length c5) from ⟨(HK7.out _ h2).1.cell 1, (HK7.out _ h2).2.cell 0, (HK7.out _ h2).2.cell 1, (HK7.out _ h2).2.cell 2⟩)))
  have KZ7 := Lib.hid (HK7.out _ V2.out).2
  have X7 := Lib.hid (HK7.out _ V2.out).1
  have O7 := Lib.hid (((OY.out.bel HD1.out).keep V2.out (fun q hq => en_far (DS.bel (DS.bel D5.out BY.out) HD1.out) ((W5.out.bel BY.out).bel HD1.out) q ((OY.out.bel HD1.out).is q hq))))
  have RU := O7.out.rowE
  clear HS7 HK HKP
  have k2 : w7.cell? ⟨z, 2, none⟩ = some (.slice A5 s2.log.length c5) := KZ7.out.cell 2
  obtain ⟨nl, hnl⟩ : ∃ m, s2.log.length = m := ⟨_, rfl⟩
  have HNL := Lib.hid hnl
  have hnlI : (nl : Int) ≤ 4096 := by have := HC2.out.len; omega
  rw [hnl] at k2 RU
  have RU := Lib.hid RU
  clear hnl
  go_wp2_with fail
  go_loopw [7] (fun iv wr => ∃ i : Nat, i ≤ nl ∧ iv = .int .i64 (i : Int) ∧ Hid (Turns (fun q => A5.map Addr.block = some q) w7 wr) ∧ Hid (RowE wr A5 nl)) (fun iv _ => nl - (intOf iv).toNat)
  case atStart => exact ⟨0, by omega, rfl, Lib.hid (Turns.refl _ _), RU⟩
  case round =>
    obtain ⟨i, hi, rfl, hT, hR⟩ := hrel
    have KW := Lib.hid (KZ7.out.turns hT.out (fun e => IsEn.ne (O7.out.is z e) KZ7.out (by decide) rfl))
    have k2' : wr.cell? ⟨z, 2, none⟩ = some (.slice A5 nl c5) := by rw [← HNL.out]; exact KW.out.cell 2
    by_cases hlt' : i < nl
    · have hlt1 : (i : Int) < (nl : Int) := by omega
      obtain ⟨g', o, rfl⟩ := O7.out.lg.ens.some_at (by rw [HNL.out]; omega)
      obtain ⟨e0, cs, hbc, hcl⟩ := hR.out g' rfl
      injection e0 with e0
      injection e0 with _ e0 _
      subst e0
      obtain ⟨u0, hu0⟩ : ∃ u, cs[i * 2]? = some u := ⟨cs[i * 2], List.getElem?_eq_getElem (by omega)⟩
      obtain ⟨u1, hu1⟩ : ∃ u, cs[i * 2 + 1]? = some u := ⟨cs[i * 2 + 1], List.getElem?_eq_getElem (by omega)⟩
      have c0' : wr.cell? ⟨g', i * 2, none⟩ = some u0 := (hbc.cell (i * 2)).trans hu0
      have c1' : wr.cell? ⟨g', i * 2 + 1, none⟩ = some u1 := (hbc.cell (i * 2 + 1)).trans hu1
      have z0' := hbc.fz (i * 2)
      have z1' := hbc.fz (i * 2 + 1)
      have hT2 := Lib.hid ((hT.out.set ⟨g', i * 2, none⟩ (.int .i64 98) (fun _ => rfl)).set ⟨g', i * 2 + 1, none⟩ (.string ⟨#[119, 114, 105, 116, 116, 101, 110, 32, 111, 118, 101, 114]⟩) (fun _ => rfl))
      have hR2 := Lib.hid ((hR.out.set (g := g') rfl (i * 2) (.int .i64 98)).set (g := g') rfl (i * 2 + 1) (.string ⟨#[119, 114, 105, 116, 116, 101, 110, 32, 111, 118, 101, 114]⟩))
      clear hbc hcl hu0 hu1
      go_wp2_with fail
      refine ⟨⟨i + 1, by omega, by simp, hT2, hR2⟩, ?_⟩
      simp [intOf]; omega
    · obtain rfl : i = nl := by omega
      have hEA : Hid (∀ q, A5.map Addr.block = some q → IsEn w7 q) := Lib.hid (fun q hq => O7.out.is q hq)
      have DW := Lib.hid (DS.keep V1.out hT.out (fun e => (hEA.out _ e).ne (DS.blk V1.out) (by decide) rfl) (fun e => by
        obtain ⟨cur, hc⟩ := hEA.out _ e
        obtain ⟨mv, n, _, hm, _⟩ := DS.files V1.out
        exact hm.ne_cells hc rfl) (fun q cur hq _ e => (hEA.out _ e).ne8 ⟨cur, hq⟩ rfl))
      have XW := Lib.hid (X7.out.turns hT.out (fun e => (hEA.out _ e).ne X7.out (by decide) rfl))
      have KG7 := Lib.hid (((K5.out.bel BY.out).bel HD1.out).turns V2.out (by have := HLT.out; have := HG.out; unfold AnS; omega))
      have KGW := Lib.hid (KG7.out.turns hT.out (fun e => (hEA.out _ e).ne KG7.out (by decide) rfl))
      rcases V3.out with ⟨hc0, A9, c9, hwb, hlg, hge⟩ | ⟨hc0, hwb⟩
      · subst hc0
        have hsy : Tidy s2 sz2 rd.p ∧ rd.off = false := by
          rcases HSAY.out with q | q
          · exact ⟨q.2.2, q.2.1⟩
          · exact absurd q.1 (by decide)
        have HSY := Lib.hid hsy
        have WW := Lib.hid (hwb.turns hT.out (fun e => (hEA.out _ e).ne hwb (by decide) rfl))
        have LW := Lib.hid (hlg.over hT.out (fun _ q hq e => by
          have h1 := hge q hq
          have h2 := ((Array.getElem?_eq_some_iff.1 ((OY.out.is q e).choose_spec)).1)
          exact absurd h1 (Nat.not_le_of_lt h2)))
        clear hsy hwb hlg hge
        have g0 : wr.cell? ⟨g, 0, none⟩ = some (.int .i64 s2.term) := KGW.out.cell 0
        have g1 : wr.cell? ⟨g, 1, none⟩ = some (.int .i64 s2.vote) := KGW.out.cell 1
        have g2 : wr.cell? ⟨g, 2, none⟩ = some (.slice A s2.log.length c) := KGW.out.cell 2
        have q2 : wr.cell? ⟨x, 2, none⟩ = some (.int .i64 s.term) := XW.out.cell 2
        have q3 : wr.cell? ⟨x, 3, none⟩ = some (.int .i64 s.vote) := XW.out.cell 3
        have q4 : wr.cell? ⟨x, 4, none⟩ = some (.slice A0 s.log.length c0) := XW.out.cell 4
        have q8 : wr.cell? ⟨x, 8, none⟩ = some (.bool false) := XW.out.cell 8
        have f2 := XW.out.fz 2
        have f3 := XW.out.fz 3
        have f4 := XW.out.fz 4
        have f8 := XW.out.fz 8
        have TU := Lib.hid (turns_x4 wr x (.int .i64 s2.term) (.int .i64 s2.vote) (.slice A s2.log.length c) (.bool false))
        have XU := Lib.hid ((((XW.out.set 2 (.int .i64 s2.term)).set 3 (.int .i64 s2.vote)).set 4 (.slice A s2.log.length c)).set 8 (.bool false))
        go_upto_region 12 with (fail)
        generalize ((((wr.setCell ⟨x, 2, none⟩ (.int .i64 s2.term)).setCell ⟨x, 3, none⟩ (.int .i64 s2.vote)).setCell ⟨x, 4, none⟩ (.slice A s2.log.length c)).setCell ⟨x, 8, none⟩ (.bool false)) = U at *
        clear g0 g1 g2 q2 q3 q4 q8 f2 f3 f4 f8
        have EXU : Hid (∀ q, IsEn wr q → ¬ q = x) := Lib.hid (fun q hq e => hq.ne XW.out (by decide) e)
        have LU := Lib.hid (LW.out.keep TU.out (fun q cs hq _ => EXU.out q ⟨cs, hq⟩))
        have WU := Lib.hid (WW.out.turns TU.out (show ¬ wl = x from fun e => HNE.out.2.2.1 e.symm))
        have DU := Lib.hid (DS.keep DW.out TU.out (show ¬ d = x from fun e => HNE.out.1 e.symm) (show ¬ F = x from fun e => HNE.out.2.1 e.symm) (fun q cur hq _ e => IsU8.ne ⟨cur, hq⟩ XW.out (by decide) e))
        have LS7 := Lib.hid (((N5.out.bel BY.out).bel HD1.out).keep V2.out (fun q cs hq _ => en_far (DS.bel (DS.bel D5.out BY.out) HD1.out) ((W5.out.bel BY.out).bel HD1.out) q ⟨cs, hq⟩))
        have LSU := Lib.hid ((LS7.out.over hT.out (fun h0 q hq e => by
          have h1 := O5.out.ge q e
          obtain ⟨g2, o2, e2, hl2, _⟩ := lg_at HL2.out 0 h0
          rw [e2] at hq
          injection hq with hq
          simp only at hq
          omega)).keep TU.out (fun q cs hq _ => EXU.out q ⟨cs, hq⟩))
        have HTD := Lib.hid (tidy_any U x d F (N + 5) wl rd DU.out HSY.out.2 (by omega) s2 A c p5 p6 p7 false XU.out LSU.out false A9 c9 sz2 WU.out LU.out HSY.out.1 HC2.out)
        go_wp2_with fail
        refine HTD.out.mono ?_
        rintro e V9 ⟨rfl, hb9⟩
        have BZ := Lib.hid hb9
        clear hb9
        go_wp2_with fail
        go_ret
        refine ⟨rfl, ?_, .inl ⟨rd, ⟨⟨HR.out.lo.1, HR.out.lo.2.1, HR.out.lo.2.2.1, HR.out.lo.2.2.2⟩, DS.bel DU.out BZ.out, HSY.out.2, ⟨A, c, p5, p6, p7, XU.out.bel BZ.out, LSU.out.bel BZ.out⟩, ⟨A9, c9, sz2, WU.out.bel BZ.out, LU.out.bel BZ.out, HSY.out.1⟩, HC2.out⟩, fun hl => (HLIT.out hl).2⟩⟩
        have TK : Turns (KSet x d F wl) w w7 := ((((Turns.of_below (S := KSet x d F wl) (by rw [HG.out]; exact B0.out)).then (Turns.of_below B5.out)).then (Turns.of_below BY.out)).then (Turns.of_below HD1.out)).then (V2.out.mono (fun i _ e => by rcases e with e | e | e; exact .inl (.inr (.inl e)); exact .inl (.inr (.inr e)); exact .inr e))
        refine (TK.trans hT.out (fun q hq e => ?_)).then ((TU.out.mono (fun i _ e => .inl (.inl e))).then (Turns.of_below BZ.out))
        have h1 := O5.out.ge q e
        have h2 := K0.out.lt
        have h3 := HG.out
        omega
      · have h250 : rc = 250 ∧ rd.off = true ∧ Good (fun y => y = s ∨ y = s2) 2000000 rd.p := by
          rcases HSAY.out with q | q
          · exact absurd q.1 hc0
          · exact q
        obtain ⟨rfl, hoff2, hgood⟩ := h250
        have HOF2 := Lib.hid hoff2
        have HGD := Lib.hid hgood
        have HNLT := Lib.hid (show ¬ Lit dk from fun hl => absurd (HLIT.out hl).1 (by decide))
        have WW := Lib.hid (hwb.turns hT.out (fun e => (hEA.out _ e).ne hwb (by decide) rfl))
        clear HSAY hoff2 hgood HLIT hwb
        have LO7 := Lib.hid (((L5.out.bel BY.out).bel HD1.out).keep V2.out (fun q cs hq _ => en_far (DS.bel (DS.bel D5.out BY.out) HD1.out) ((W5.out.bel BY.out).bel HD1.out) q ⟨cs, hq⟩))
        have LM7 := Lib.hid (((M5.out.bel BY.out).bel HD1.out).keep V2.out (fun q cs hq _ => en_far (DS.bel (DS.bel D5.out BY.out) HD1.out) ((W5.out.bel BY.out).bel HD1.out) q ⟨cs, hq⟩))
        have LS7 := Lib.hid (((N5.out.bel BY.out).bel HD1.out).keep V2.out (fun q cs hq _ => en_far (DS.bel (DS.bel D5.out BY.out) HD1.out) ((W5.out.bel BY.out).bel HD1.out) q ⟨cs, hq⟩))
        have LOW := Lib.hid (LO7.out.over hT.out (fun h0 q hq e => by
          have h1 := O5.out.ge q e
          obtain ⟨g2, o2, e2, hl2, _⟩ := lg_at HL0.out 0 h0
          rw [e2] at hq
          injection hq with hq
          simp only at hq
          omega))
        have LMW := Lib.hid (LM7.out.over hT.out (fun h0 q hq e => by
          have h1 := O5.out.ge q e
          obtain ⟨g2, o2, e2, hl2, _⟩ := lg_at HL1.out 0 h0
          rw [e2] at hq
          injection hq with hq
          simp only at hq
          omega))
        have LSW := Lib.hid (LS7.out.over hT.out (fun h0 q hq e => by
          have h1 := O5.out.ge q e
          obtain ⟨g2, o2, e2, hl2, _⟩ := lg_at HL2.out 0 h0
          rw [e2] at hq
          injection hq with hq
          simp only at hq
          omega))
        have HD2 := Lib.hid (below_drewN' (Below.refl wr.heap.size wr) 1)
        have HK : Hid (∀ V, Turns (fun q => q = wl) wr V → V.cell? ⟨x, 0, none⟩ = some (.pointer (some ⟨d, 0, none⟩)) ∧ V.cell? ⟨x, 1, none⟩ = some (.pointer (some ⟨wl, 0, none⟩)) ∧ V.cell? ⟨x, 2, none⟩ = some (.int .i64 s.term) ∧ V.cell? ⟨x, 3, none⟩ = some (.int .i64 s.vote) ∧ V.cell? ⟨x, 4, none⟩ = some (.slice A0 s.log.length c0) ∧ V.cell? ⟨g, 0, none⟩ = some (.int .i64 s2.term) ∧ V.cell? ⟨g, 1, none⟩ = some (.int .i64 s2.vote) ∧ V.cell? ⟨g, 2, none⟩ = some (.slice A s2.log.length c)) := Lib.hid (fun V hV => by
          have hx := XW.out.turns hV (show ¬ x = wl from HNE.out.2.2.1)
          have hg2 := KGW.out.turns hV (show ¬ g = wl by have := HLT.out; have := HG.out; omega)
          exact ⟨hx.cell 0, hx.cell 1, hx.cell 2, hx.cell 3, hx.cell 4, hg2.cell 0, hg2.cell 1, hg2.cell 2⟩)
        have HO := offD wr.drew d F (N + 5) rd.off rd.fuse rd.p (DS.bel DW.out HD2.out)
        rw [HOF2.out] at HO
        have HO := Lib.hid HO
        have HKD := keep_down wr.drew d F (N + 5) wl rd (DS.bel DW.out HD2.out) s.term s.vote (.slice A1 s.log.length c1) true size (WW.out.bel HD2.out) (.inl rfl) A s2.log.length c s2 (LSW.out.bel HD2.out) HC2.out.ok
        unfold svV at HKD
        have HKD := Lib.hid HKD
        have HEW : Hid (∀ q, IsEn wr q → ¬ q = wl) := Lib.hid (fun q hq e => hq.ne WW.out (by decide) e)
        have HSV : Hid (∀ V, Turns (fun q => q = wl) wr V → Blk V wl 41 (walC d s.term s.vote (.slice A1 s.log.length c1) true size) → Calls Tryz.prog 16 #[.pointer (some ⟨wl, 0, none⟩)] V (SavedY V s)) := Lib.hid (fun V hV hb => saved_any V wl d s A1 c1 size true hb (LMW.out.keep hV (fun q cs hq _ => HEW.out q ⟨cs, hq⟩)) (by have := HR.out.cap.len; omega))
        have HSM : Hid (∀ V A6 c6, Turns (fun q => q = wl) wr V → Lg V A6 s.log.length c6 s.log → Calls Tryz.prog 15 #[svV s.term s.vote A6 s.log.length c6, .agg #[.int .i64 s.term, .int .i64 s.vote, .slice A0 s.log.length c0]] V fun e w' => e = .returned (.bool true) ∧ Below V.heap.size V w') := Lib.hid (fun V A6 c6 hV hl6 => (same_any V A6 A0 _ c6 _ c0 s s hl6 (LOW.out.keep hV (fun q cs hq _ => HEW.out q ⟨cs, hq⟩))).mono (fun e w' h => ⟨by rw [h.1]; simp, h.2⟩))
        go_wp2_with fail
        go_region_held3 (fun V => V.cell? ⟨x, 0, none⟩ = some (.pointer (some ⟨d, 0, none⟩)) ∧ V.cell? ⟨x, 1, none⟩ = some (.pointer (some ⟨wl, 0, none⟩)) ∧ V.cell? ⟨x, 2, none⟩ = some (.int .i64 s.term) ∧ V.cell? ⟨x, 3, none⟩ = some (.int .i64 s.vote) ∧ V.cell? ⟨x, 4, none⟩ = some (.slice A0 s.log.length c0) ∧ V.cell? ⟨g, 0, none⟩ = some (.int .i64 s2.term) ∧ V.cell? ⟨g, 1, none⟩ = some (.int .i64 s2.vote) ∧ V.cell? ⟨g, 2, none⟩ = some (.slice A s2.log.length c)) (first | exact HK.out _ (Turns.of_below HD2.out) | exact HK.out _ T8.out | exact HK.out _ T9.out | exact HK.out _ T10.out) (first | (go_at_call 27; refine HO.out.mono ?_; rintro e w5 ⟨rfl, rfl⟩) | (go_at_call 12; refine HKD.out.mono ?_; rintro e w8 ⟨rfl, hb8, ht8⟩; have T8 := Lib.hid ((Turns.of_below (S := fun q => q = wl) HD2.out).then ht8); have HB8 := Lib.hid hb8) | (go_at_call 16; refine (HSV.out _ T8.out HB8.out).mono ?_; rintro e w9 ⟨A9, c9, rfl, ho9, hb9⟩; have T9 := Lib.hid (T8.out.then (Turns.of_below (S := fun q => q = wl) hb9)); have HL9 := Lib.hid ho9.lg) | (go_at_call 15; refine (HSM.out _ _ _ T9.out HL9.out).mono ?_; rintro e w10 ⟨rfl, hb10⟩; have T10 := Lib.hid (T9.out.then (Turns.of_below (S := fun q => q = wl) hb10))))
        have X10 := Lib.hid (XW.out.turns T10.out (show ¬ x = wl from HNE.out.2.2.1))
        have G10 := Lib.hid (KGW.out.turns T10.out (show ¬ g = wl by have := HLT.out; have := HG.out; omega))
        have hdw : ¬ d = wl := fun e => by
          have h1 := DS.blk DW.out
          rw [e] at h1
          have := h1.symm.trans WW.out
          simp at this
        have hFw : ¬ F = wl := fun e => by
          obtain ⟨mv, n, _, hm, _⟩ := DS.files DW.out
          rw [e] at hm
          exact hm.ne_cells WW.out rfl
        have D10 := Lib.hid (DS.keep DW.out T10.out hdw hFw (fun q cur hq _ e => IsU8.ne ⟨cur, hq⟩ WW.out (by decide) e))
        have LO10 := Lib.hid (LOW.out.keep T10.out (fun q cs hq _ => HEW.out q ⟨cs, hq⟩))
        have LS10 := Lib.hid (LSW.out.keep T10.out (fun q cs hq _ => HEW.out q ⟨cs, hq⟩))
        have TKR : Hid (Turns (KSet x d F wl) w w10) := Lib.hid (by
          have TK : Turns (KSet x d F wl) w w7 := ((((Turns.of_below (S := KSet x d F wl) (by rw [HG.out]; exact B0.out)).then (Turns.of_below B5.out)).then (Turns.of_below BY.out)).then (Turns.of_below HD1.out)).then (V2.out.mono (fun i _ e => by rcases e with e | e | e; exact .inl (.inr (.inl e)); exact .inl (.inr (.inr e)); exact .inr e))
          refine (TK.trans hT.out (fun q hq e => ?_)).then (T10.out.mono (fun i _ e => .inr e))
          have h1 := O5.out.ge q e
          have h2 := K0.out.lt
          have h3 := HG.out
          omega)
        clear hdw hFw HK HSV HSM HKD HO
        have g0 : w10.cell? ⟨g, 0, none⟩ = some (.int .i64 s2.term) := G10.out.cell 0
        have g1 : w10.cell? ⟨g, 1, none⟩ = some (.int .i64 s2.vote) := G10.out.cell 1
        have g2 : w10.cell? ⟨g, 2, none⟩ = some (.slice A s2.log.length c) := G10.out.cell 2
        have q1 : w10.cell? ⟨x, 1, none⟩ = some (.pointer (some ⟨wl, 0, none⟩)) := X10.out.cell 1
        have q5 : w10.cell? ⟨x, 5, none⟩ = some p5 := X10.out.cell 5
        have q6 : w10.cell? ⟨x, 6, none⟩ = some p6 := X10.out.cell 6
        have q7 : w10.cell? ⟨x, 7, none⟩ = some p7 := X10.out.cell 7
        have q8 : w10.cell? ⟨x, 8, none⟩ = some (.bool false) := X10.out.cell 8
        have f1 := X10.out.fz 1
        have f5 := X10.out.fz 5
        have f6 := X10.out.fz 6
        have f7 := X10.out.fz 7
        have f8 := X10.out.fz 8
        go_wp2_with fail
        go_ret
        have TU := turns_x5 w10 x (.int .i64 s2.term) (.int .i64 s2.vote) (.slice A s2.log.length c) (.bool true) (.pointer none)
        have XU : Blk (((((w10.setCell ⟨x, 5, none⟩ (.int .i64 s2.term)).setCell ⟨x, 6, none⟩ (.int .i64 s2.vote)).setCell ⟨x, 7, none⟩ (.slice A s2.log.length c)).setCell ⟨x, 8, none⟩ (.bool true)).setCell ⟨x, 1, none⟩ (.pointer none)) x 35 (xC d none s A0 c0 (.int .i64 s2.term) (.int .i64 s2.vote) (.slice A s2.log.length c) true) := ((((X10.out.set 5 (.int .i64 s2.term)).set 6 (.int .i64 s2.vote)).set 7 (.slice A s2.log.length c)).set 8 (.bool true)).set 1 (.pointer none)
        clear g0 g1 g2 q1 q5 q6 q7 q8 f1 f5 f6 f7 f8
        generalize (((((w10.setCell ⟨x, 5, none⟩ (.int .i64 s2.term)).setCell ⟨x, 6, none⟩ (.int .i64 s2.vote)).setCell ⟨x, 7, none⟩ (.slice A s2.log.length c)).setCell ⟨x, 8, none⟩ (.bool true)).setCell ⟨x, 1, none⟩ (.pointer none)) = U at *
        have EX : ∀ q, IsEn w10 q → ¬ q = x := fun q hq e => hq.ne X10.out (by decide) e
        have PER : PerIs U (.int .i64 s2.term) (.int .i64 s2.vote) (.slice A s2.log.length c) (some s2) := fun y e => by
          injection e with e
          subst e
          exact ⟨rfl, rfl, A, c, rfl, LS10.out.keep TU (fun q cs hq _ => EX q ⟨cs, hq⟩)⟩
        have CAP : Cap s ∧ ∀ q, some s2 = some q → Cap q := ⟨HR.out.cap, fun y e => by
          injection e with e
          subst e
          exact HC2.out⟩
        have DU : rd.Is X0 U d F (N + 5) := DS.keep D10.out TU (show ¬ d = x from fun e => HNE.out.1 e.symm) (show ¬ F = x from fun e => HNE.out.2.1 e.symm) (fun q cur hq _ e => IsU8.ne ⟨cur, hq⟩ X10.out (by decide) e)
        have GD : Good (Told s (some s2)) 2000000 rd.p := HGD.out.mono (fun y hy => hy.imp id (fun e => by rw [e]))
        have LU : Lg U A0 s.log.length c0 s.log := LO10.out.keep TU (fun q cs hq _ => EX q ⟨cs, hq⟩)
        have TT : Turns (KSet x d F wl) w U := TKR.out.then (TU.mono (fun i _ e => .inl (.inl e)))
        have BXX : BX U H x d F (N + 5) rd s (some s2) := ⟨⟨HR.out.lo.1, HR.out.lo.2.1, HR.out.lo.2.2.1⟩, DU, HOF2.out, GD, ⟨A0, c0, _, _, _, XU, LU, PER⟩, CAP⟩
        exact ⟨rfl, TT, .inr ⟨rd, BXX, HNLT.out⟩⟩
end Go.Proofs.YteihedfmmiihiaaGreat
