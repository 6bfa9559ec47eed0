/- queue: Poll. -/
import Derived.Test.YtpbheicfplpemaaQuIdx
import Derived.Deep.CutRange
namespace Go.Proofs.Ytpbheicfplpemaa
open Go.RowKit

theorem results_tmp4 {fn : Func} {t u v x : Tmp} (h : fn.results = #[.tmp t, .tmp u, .tmp v, .tmp x]) (tmps : Array Value) (P : Program) (w : World) :
    (results fn tmps).run P w = .ok (.tuple #[tmps.getD t undef, tmps.getD u undef, tmps.getD v undef, tmps.getD x undef]) w := by
  simp [results, h]

theorem wrap64' (n : Int) (h1 : -9223372036854775808 ≤ n) (h2 : n ≤ 9223372036854775807) : IntKind.i64.wrap n = n := by
  rw [IntKind.wrap_i64]; omega

/-- the boxes of Poll's closure -/
structure PB (X : World) (b0 b1 b2 q : Nat) (who : ByteArray) (now : Int) : Prop where
  l0 : b0 < X.heap.size
  l1 : b1 < X.heap.size
  l2 : b2 < X.heap.size
  c0 : X.cell? ⟨b0, 0, none⟩ = some (.pointer (some ⟨q, 0, none⟩))
  c1 : X.cell? ⟨b1, 0, none⟩ = some (.string who)
  c2 : X.cell? ⟨b2, 0, none⟩ = some (.int .i64 now)
theorem PB.keep {S : Nat → Prop} {X Y : World} {b0 b1 b2 q : Nat} {who : ByteArray} {now : Int} (h : PB X b0 b1 b2 q who now) (k : Turns S X Y) (h0 : ¬ S b0) (h1 : ¬ S b1) (h2 : ¬ S b2) : PB Y b0 b1 b2 q who now :=
  ⟨Nat.lt_of_lt_of_le h.l0 k.size, Nat.lt_of_lt_of_le h.l1 k.size, Nat.lt_of_lt_of_le h.l2 k.size, (k.cell (p := ⟨b0, 0, none⟩) h.l0 h0).trans h.c0, (k.cell (p := ⟨b1, 0, none⟩) h.l1 h1).trans h.c1, (k.cell (p := ⟨b2, 0, none⟩) h.l2 h2).trans h.c2⟩

theorem PB.new (w : World) (q : Nat) (who : ByteArray) (now : Int) (t0 t1 t2 : TypeId) : PB (((w.alloc (.cells #[.pointer (some ⟨q, 0, none⟩)] t0)).alloc (.cells #[.string who] t1)).alloc (.cells #[.int .i64 now] t2)) w.heap.size (w.heap.size + 1) (w.heap.size + 1 + 1) q who now := by
  have K0 := ((Blk.new w t0 [.pointer (some ⟨q, 0, none⟩)]).alloc (.cells #[.string who] t1)).alloc (.cells #[.int .i64 now] t2)
  have K1 := (Blk.new2 w (.cells #[.pointer (some ⟨q, 0, none⟩)] t0) t1 [.string who]).alloc (.cells #[.int .i64 now] t2)
  have K2 := Blk.new3 w (.cells #[.pointer (some ⟨q, 0, none⟩)] t0) (.cells #[.string who] t1) t2 [.int .i64 now]
  exact ⟨K0.lt, K1.lt, K2.lt, K0.cell 0, K1.cell 0, K2.cell 0⟩

def PollY (w : World) (q : Nat) (most grace next : Int) (wv : Value) (ts : List Tk) (O T : Nat) (om : Int → Option Ot) (tm : ByteArray → Option Int) (who : ByteArray) (now lease : Int) (e : Ending) (w' : World) : Prop :=
  (e = .returned (.tuple #[.string ⟨#[]⟩, .int .i64 0, .int .i64 0, .int .i64 5]) ∧ (∀ t ∈ ts, isForI grace who now t = false) ∧ Below w.heap.size w w') ∨
  ∃ i wv', i < ts.length ∧ isForI grace who now (gT ts i) = true ∧ (∀ j, j < i → isForI grace who now (gT ts j) = false) ∧
    e = .returned (.tuple #[.string (gT ts i).key, .int .i64 next, .int .i64 ((gT ts i).att + 1), .int .i64 0]) ∧
    QS w' q most grace (next + 1) wv' (ts.eraseIdx i) O T (updI om next ⟨{ gT ts i with att := (gT ts i).att + 1 }, next, who, addI now lease⟩) (updS tm (gT ts i).key next) ∧ NextR w wv wv' ∧ Turns (QSet q wv O T) w w'
set_option maxRecDepth 20000 in
set_option maxHeartbeats 8000000 in
theorem pollQ (w : World) (q : Nat) (most grace next : Int) (wv : Value) (ts : List Tk) (O T : Nat) (om : Int → Option Ot) (tm : ByteArray → Option Int) (h : QS w q most grace next wv ts O T om tm) (who : ByteArray) (now lease : Int) (hnx : next < 1000000000) (hle : 1 ≤ lease ∧ lease ≤ 9223372036854775807) (hno : -9223372036854775808 ≤ now ∧ now ≤ 9223372036854775807) (hg : -9223372036854775808 ≤ grace ∧ grace ≤ 9223372036854775807) (hr : ∀ t ∈ ts, tkRdy t) (hat : ∀ t ∈ ts, 0 ≤ t.att ∧ t.att ≤ 1000000000) :
    Calls Try.prog 12 #[.pointer (some ⟨q, 0, none⟩), .string who, .int .i64 now, .int .i64 lease] w (PollY w q most grace next wv ts O T om tm who now lease) := by
  obtain ⟨A0, c0, rfl⟩ := own_slice' h.row
  have HH := Lib.hid h
  have hql := h.blk.lt
  have q1 : decide (lease < 1) = false := decide_eq_false (by omega)
  clear h
  go_enter Try.func12, Try.ntmps12
  go_upto_region 1 with (fail)
  have hbX := Below.new3 w (.cells #[.pointer (some ⟨q, 0, none⟩)] 24) (.cells #[.string who] 9) (.cells #[.int .i64 now] 2)
  have PX := Lib.hid (PB.new w q who now 24 9 2)
  have HX := Lib.hid (HH.out.bel hbX)
  have BX := Lib.hid hbX
  clear hbX
  generalize ((w.alloc (.cells #[.pointer (some ⟨q, 0, none⟩)] 24)).alloc (.cells #[.string who] 9)).alloc (.cells #[.int .i64 now] 2) = X at *
  generalize hb0 : w.heap.size = b0 at *
  generalize hb1 : b0 + 1 = b1 at *
  generalize hb2 : b1 + 1 = b2 at *
  have HB0 := Lib.hid hb0
  have HB1 := Lib.hid hb1
  have HB2 := Lib.hid hb2
  clear hb0 hb1 hb2
  have p0 := PX.out.c0
  have p1 := PX.out.c1
  have p2 := PX.out.c2
  obtain ⟨_, _, k2, k3, _, _⟩ := HX.out.cells
  have HM := Lib.hid (made1 X q next HH.out.pos k2)
  go_wp2_with (go_at_call 28; refine HM.out.mono ?_; rintro e w' ⟨rfl, rfl⟩)
  have hI := Lib.hid (indexQ w' _ ts HX.out.row HH.out.few (isForI grace who now) (.pointer (some ⟨b0, 0, none⟩)) (.pointer (some ⟨b1, 0, none⟩)) (.pointer (some ⟨b2, 0, none⟩)) (fun Y hY t ht => by
    have hP := PX.out.keep (.of_below (S := fun _ => False) hY) (fun h => h) (fun h => h) (fun h => h)
    obtain ⟨_, kg, _⟩ := (HX.out.bel hY).cells
    exact closeQ Y q b0 b1 b2 grace t who now (HX.out.bel hY).blk.lt ⟨hP.l0, hP.l1, hP.l2⟩ kg hP.c0 hP.c1 hP.c2 hg (hr t ht)))
  refine hI.out.mono ?_
  rintro e X1 ⟨a, rfl, hidx, hbx1⟩
  clear hI HM k2 k3 p0 p1 p2
  have HX1 := Lib.hid (HX.out.bel hbx1)
  have P1 := Lib.hid (PX.out.keep (.of_below (S := fun _ => False) hbx1) (fun h => h) (fun h => h) (fun h => h))
  have B1 := Lib.hid (BX.out.trans (hbx1.mono (by have := BX.out.size; have := HB0.out; omega)))
  clear hbx1 HX PX BX
  have p0 := P1.out.c0
  have p1 := P1.out.c1
  have p2 := P1.out.c2
  obtain ⟨_, _, k2, k3, k4, k5⟩ := HX1.out.cells
  rcases hidx with ⟨rfl, hno⟩ | ⟨i, hi, rfl, hp, hj⟩
  · go_wp2_with fail
    refine bodyPost_ret (results_tmp4 rfl _ _ _) rfl ?_
    exact .inl ⟨rfl, hno, by have := B1.out; rwa [← HB0.out] at this⟩
  · have HP := Lib.hid hp
    have HJ := Lib.hid hj
    have hlt1 : (i : Int) < (ts.length : Int) := by omega
    have n0 : decide ((i : Int) < 0) = false := decide_eq_false (by omega)
    obtain ⟨g, cap, e, _, hgl, hnc, hcm⟩ := own_at HX1.out.row (by omega)
    injection e with e1 _ e3
    subst e1 e3
    obtain ⟨d0, d1, d2, d3⟩ := gT_cells HX1.out.row rfl i hi
    clear hp hj
    go_upto_region 7 with (fail)
    have hbY := Below.new X1 (.cells #[.string (gT ts i).key, .string (gT ts i).sticky, .int .i64 (gT ts i).ready, .int .i64 (gT ts i).att] 75)
    have HY : Hid (QS (X1.alloc (.cells #[.string (gT ts i).key, .string (gT ts i).sticky, .int .i64 (gT ts i).ready, .int .i64 (gT ts i).att] 75)).drew q most grace next (.slice (some ⟨g, 0, none⟩) ts.length c0) ts O T om tm) := Lib.hid ((HX1.out.bel hbY).bel (below_drewN' (Below.refl _ _) 1))
    have HQ := Lib.hid (show ∀ j, QSet q (.slice (some ⟨g, 0, none⟩) ts.length c0) O T j → j < b0 from fun j hj => by have := HH.out.lts j hj; have := HB0.out; omega)
    have hb01 := HB1.out
    have hb12 := HB2.out
    have hb2l := P1.out.l2
    have PY : Hid (PB (X1.alloc (.cells #[.string (gT ts i).key, .string (gT ts i).sticky, .int .i64 (gT ts i).ready, .int .i64 (gT ts i).att] 75)).drew b0 b1 b2 q who now) := Lib.hid ((P1.out.keep (.of_below (S := fun _ => False) hbY) (fun h => h) (fun h => h) (fun h => h)).keep ((Turns.refl (fun _ => False) _).drewN 1) (fun h => h) (fun h => h) (fun h => h))
    have BY : Hid (Below b0 w (X1.alloc (.cells #[.string (gT ts i).key, .string (gT ts i).sticky, .int .i64 (gT ts i).ready, .int .i64 (gT ts i).att] 75)).drew) := Lib.hid (below_drewN' (B1.out.trans (hbY.mono (show b0 ≤ X1.heap.size from by have := B1.out.size; have := HB0.out; omega))) 1)
    have KY : Hid (Blk (X1.alloc (.cells #[.string (gT ts i).key, .string (gT ts i).sticky, .int .i64 (gT ts i).ready, .int .i64 (gT ts i).att] 75)).drew X1.heap.size 75 [.string (gT ts i).key, .string (gT ts i).sticky, .int .i64 (gT ts i).ready, .int .i64 (gT ts i).att]) := Lib.hid ((Blk.new X1 75 [.string (gT ts i).key, .string (gT ts i).sticky, .int .i64 (gT ts i).ready, .int .i64 (gT ts i).att]).drewN 1)
    clear hbY HX1 P1 B1 p0 p1 p2 k2 k3 k4 k5 d0 d1 d2 d3
    generalize X1.alloc (.cells #[.string (gT ts i).key, .string (gT ts i).sticky, .int .i64 (gT ts i).ready, .int .i64 (gT ts i).att] 75) = Y at *
    generalize hl : X1.heap.size = l at *
    clear hl
    have p0 : Y.cell? _ = _ := PY.out.c0
    obtain ⟨_, _, _, k3, _, _⟩ := HY.out.cells
    have k3 : Y.cell? _ = _ := k3
    have hw1 : IntKind.i64.wrap ((i : Int) + 1) = (i : Int) + 1 := wrap64' _ (by omega) (by have := HH.out.few; omega)
    have hD := Lib.hid (deleteQ Y.drew g c0 ts i HY.out.row hi HH.out.few)
    have hgb : g < b0 := HQ.out g (.inr (.inr (.inr rfl)))
    have hqb : q < b0 := HQ.out q (.inl rfl)
    have hqg : q ≠ g := fun e => own_ne_blk HY.out.row (g := g) rfl HY.out.blk (by decide) e.symm
    have KEEP : Hid (∀ w2, w2.ownsRow 0 75 4 (.slice (some ⟨g, 0, none⟩) (ts.length - 1) c0) (ts.length - 1) ((ts.eraseIdx i).flatMap tkC) → Turns (fun j => j = g) Y.drew w2 →
        Blk w2 q 61 [.int .i64 most, .int .i64 grace, .int .i64 next, .slice (some ⟨g, 0, none⟩) ts.length c0, .map (some O), .map (some T)] ∧ PB w2 b0 b1 b2 q who now ∧ Blk w2 l 75 [.string (gT ts i).key, .string (gT ts i).sticky, .int .i64 (gT ts i).ready, .int .i64 (gT ts i).att]) := Lib.hid (fun w2 _ ht =>
      ⟨HY.out.blk.turns ht hqg, PY.out.keep ht (by omega) (by omega) (by omega), KY.out.turns ht (by omega)⟩)
    have hnp := HH.out.pos
    have hat1 := hat _ (gT_mem hi)
    go_cut [36] from 36 to 46 (fun _ wx => Hid (Blk wx q 61 [.int .i64 most, .int .i64 grace, .int .i64 next, .slice (some ⟨g, 0, none⟩) (ts.length - 1) c0, .map (some O), .map (some T)] ∧ wx.ownsRow 0 75 4 (.slice (some ⟨g, 0, none⟩) (ts.length - 1) c0) (ts.length - 1) ((ts.eraseIdx i).flatMap tkC) ∧ PB wx b0 b1 b2 q who now ∧ Blk wx l 75 [.string (gT ts i).key, .string (gT ts i).sticky, .int .i64 (gT ts i).ready, .int .i64 (gT ts i).att] ∧ Turns (fun j => j = g ∨ j = q) Y.drew wx))
    case first =>
      go_region_law (go_simp; go_at_call 33; refine hD.out.mono ?_; rintro e w2 ⟨rfl, hr2, ht2⟩; obtain ⟨hb2, hp2, hk2⟩ := KEEP.out w2 hr2 ht2; have HB := Lib.hid hb2; have PW := Lib.hid hp2; have KW := Lib.hid hk2; have R2 := Lib.hid hr2; have T2 := Lib.hid ht2; have e0 := hp2.c0; have f2 := hb2.cell 2; have f3 := hb2.cell 3; have f3z := hb2.fz 3; have f2z := hb2.fz 2; have k3 := hk2.cell 3; have k3z := hk2.fz 3; simp only [List.getElem?_cons_succ, List.getElem?_cons_zero] at f2 f3 k3; clear hb2 hp2 hk2 hr2 ht2)
      all_goals
        go_wp2_with fail
        go_meet
        case rel =>
          have TS : Turns (fun j => j = q) w2 (w2.setCell ⟨q, 3, none⟩ (.slice (some ⟨g, 0, none⟩) (ts.length - 1) c0)) := (Turns.refl (fun j => j = q) w2).set ⟨q, 3, none⟩ _ (fun _ => rfl)
          exact Lib.hid ⟨HB.out.set 3 _, own_turns R2.out TS (fun g' hg' e => by simp [Value.ownBlock] at hg'; exact hqg (by rw [← e, hg'])), PW.out.keep TS (by omega) (by omega) (by omega), KW.out.turns TS (by omega), (T2.out.mono (fun _ _ e => .inl e)).trans TS (fun _ _ e => .inr e)⟩
    case rest =>
      have hqL : q ≠ l := by omega
      have e0 := hcut.out.2.2.1.c0
      have f2 := hcut.out.1.cell 2
      have f2z := hcut.out.1.fz 2
      have k3 := hcut.out.2.2.2.1.cell 3
      have k3z := hcut.out.2.2.2.1.fz 3
      simp only [List.getElem?_cons_succ, List.getElem?_cons_zero] at f2 k3
      go_upto_region 11 with (fail)
      have TL : Turns (fun j => j = l ∨ j = q) wc ((wc.setCell ⟨l, 3, none⟩ (.int .i64 ((gT ts i).att + 1))).setCell ⟨q, 2, none⟩ (.int .i64 (next + 1))) := ((Turns.refl _ wc).set ⟨l, 3, none⟩ _ (fun _ => .inl rfl)).set ⟨q, 2, none⟩ _ (fun _ => .inr rfl)
      have ZB := Lib.hid ((hcut.out.1.far (p := ⟨l, 3, none⟩) hqL (.int .i64 ((gT ts i).att + 1))).set 2 (.int .i64 (next + 1)))
      have ZR := Lib.hid (own_turns hcut.out.2.1 TL (fun g' hg' e => by simp [Value.ownBlock] at hg'; omega))
      have ZP := Lib.hid (hcut.out.2.2.1.keep TL (by omega) (by omega) (by omega))
      have ZK := Lib.hid ((hcut.out.2.2.2.1.set 3 (.int .i64 ((gT ts i).att + 1))).far (p := ⟨q, 2, none⟩) (Ne.symm hqL) (.int .i64 (next + 1)))
      have ZT := Lib.hid ((hcut.out.2.2.2.2.mono (T := fun j => j = g ∨ j = q ∨ j = l) (fun _ _ e => e.imp id .inl)).trans TL (fun _ _ e => .inr e.symm))
      clear TL hcut e0 f2 f2z k3 k3z
      generalize (wc.setCell ⟨l, 3, none⟩ (.int .i64 ((gT ts i).att + 1))).setCell ⟨q, 2, none⟩ (.int .i64 (next + 1)) = Z at *
      have e0 := ZP.out.c0
      have e1 := ZP.out.c1
      have e2 := ZP.out.c2
      have f4 := ZB.out.cell 4
      have m0 := ZK.out.cell 0
      have m1 := ZK.out.cell 1
      have m2 := ZK.out.cell 2
      have m3 := ZK.out.cell 3
      simp only [List.set_cons_succ, List.set_cons_zero, List.getElem?_cons_succ, List.getElem?_cons_zero] at f4 m0 m1 m2 m3
      have HA := Lib.hid (addQ Z.drew now lease hno ⟨by omega, by omega⟩)
      refine wp_tail 12 (by kernel_rfl) (by kernel_rfl) ?_
      simp only [List.take_succ_cons, List.take_zero, List.drop_succ_cons, List.drop_zero]
      repeat still_step
      still_call HA.out
      repeat still_step
      refine wpStill_nil ?_
      clear e0 e1 e2 f4 m0 m1 m2 m3
      obtain ⟨nO, hO⟩ := HY.out.outs
      obtain ⟨nT, hT⟩ := HY.out.there
      have hOb : O < b0 := HQ.out O (.inr (.inl rfl))
      have hTb : T < b0 := HQ.out T (.inr (.inr (.inl rfl)))
      have hOq : O ≠ q := hO.ne_cells HY.out.blk
      have hTq : T ≠ q := hT.ne_cells HY.out.blk
      have hOg : O ≠ g := fun e => own_ne_map HY.out.row (g := g) rfl hO e.symm
      have hTg : T ≠ g := fun e => own_ne_map HY.out.row (g := g) rfl hT e.symm
      have hZd : Below Z.heap.size Z Z.drew := below_drewN' (Below.refl Z.heap.size Z) 1
      have ZO := (hO.turns ZT.out (by omega)).below hZd
      have ZM := Lib.hid ((hT.turns ZT.out (by omega)).below hZd)
      clear hO hT
      refine wpl_update (w := Z.drew) rfl _ _ _ 59 rfl (int_keys Try.underlying3) Try.underlying59 ZO next (otV ⟨{ gT ts i with att := (gT ts i).att + 1 }, next, who, addI now lease⟩) rfl rfl rfl ?_
      intro w3 hm3 ht3
      have TO : Turns (fun j => j = O) Z.drew w3 := .of_map (S := fun j => j = O) ht3 rfl
      have HM3 := Lib.hid hm3
      have B3 := Lib.hid ((ZB.out.drewN 1).turns TO (Ne.symm hOq))
      have R3 := Lib.hid (own_turns (own_turns ZR.out (.of_below (S := fun _ => False) hZd) (fun _ _ => id)) TO (fun g' hg' e => by simp [Value.ownBlock] at hg'; omega))
      have P3 := Lib.hid ((ZP.out.keep (.of_below (S := fun _ => False) hZd) (fun h => h) (fun h => h) (fun h => h)).keep TO (by omega) (by omega) (by omega))
      have K3 := Lib.hid ((ZK.out.drewN 1).turns TO (by omega))
      have M3 := Lib.hid (ZM.out.turns TO (fun e => HY.out.ne e.symm))
      have T3 := Lib.hid (((ZT.out.drewN 1).mono (T := fun j => j = g ∨ j = q ∨ j = l ∨ j = O) (fun _ _ e => by omega)).trans TO (fun _ _ e => .inr (.inr (.inr e))))
      clear hm3 ht3 TO ZO hZd
      have e0 := P3.out.c0
      have f5 := B3.out.cell 5
      have m0 := K3.out.cell 0
      simp only [List.set_cons_succ, List.set_cons_zero, List.getElem?_cons_succ, List.getElem?_cons_zero] at f5 m0
      go_upto_region 12 with (fail)
      refine wp_tail 7 (by kernel_rfl) (by kernel_rfl) ?_
      simp only [List.take_succ_cons, List.take_zero, List.drop_succ_cons, List.drop_zero]
      repeat still_step
      refine wpStill_nil ?_
      clear e0 f5 m0
      have h3d : Below w3.heap.size w3 w3.drew := below_drewN' (Below.refl w3.heap.size w3) 1
      refine wpl_update (w := w3.drew) rfl _ _ _ 47 rfl (str_keys Try.underlying9) Try.underlying47 (M3.out.below h3d) (gT ts i).key (.int .i64 next) rfl rfl rfl ?_
      intro w4 hm4 ht4
      have TT : Turns (fun j => j = T) w3.drew w4 := .of_map (S := fun j => j = T) ht4 rfl
      have HM4 := Lib.hid hm4
      have B4 := Lib.hid ((B3.out.drewN 1).turns TT (Ne.symm hTq))
      have R4 := Lib.hid (own_turns (own_turns R3.out (.of_below (S := fun _ => False) h3d) (fun _ _ => id)) TT (fun g' hg' e => by simp [Value.ownBlock] at hg'; omega))
      have K4 := Lib.hid ((K3.out.drewN 1).turns TT (by omega))
      have O4 := Lib.hid ((HM3.out.below h3d).turns TT HY.out.ne)
      have T4 := Lib.hid (((T3.out.drewN 1).mono (T := fun j => j = g ∨ j = q ∨ j = l ∨ j = O ∨ j = T) (fun _ _ e => by omega)).trans TT (fun _ _ e => .inr (.inr (.inr (.inr e)))))
      clear hm4 ht4 TT h3d
      have m0 := K4.out.cell 0
      have m3 := K4.out.cell 3
      simp only [List.set_cons_succ, List.set_cons_zero, List.getElem?_cons_succ, List.getElem?_cons_zero] at m0 m3
      go_upto_region 13 with (fail)
      go_quiet (fail)
      clear m0 m3
      go_wp2_with fail
      refine bodyPost_ret (results_tmp4 rfl _ _ _) rfl ?_
      have h4d := below_drewN' (Below.refl w4.heap.size w4) nq
      have hel : (ts.eraseIdx i).length = ts.length - 1 := List.length_eraseIdx_of_lt hi
      have hO4 : ∃ n, MapIs kInt (w4.drewN nq) O (oV (updI om next ⟨{ gT ts i with att := (gT ts i).att + 1 }, next, who, addI now lease⟩)) n := ⟨_, by
        have := O4.out.below h4d
        rw [oV_upd] at this
        exact this⟩
      have hT4 : ∃ n, MapIs kStr (w4.drewN nq) T (sV (updS tm (gT ts i).key next)) n := ⟨_, by
        have := HM4.out.below h4d
        rw [sV_upd] at this
        exact this⟩
      refine .inr ⟨i, .slice (some ⟨g, 0, none⟩) (ts.length - 1) c0, hi, HP.out, HJ.out, rfl, ⟨by simpa using B4.out.bel h4d, ?_, hO4, hT4, HH.out.ne, by rw [hel]; have := HH.out.few; omega, by have := HH.out.pos; omega, by omega⟩, fun g' hg' => .inl (by simpa [Value.ownBlock] using hg'), ?_⟩
      · rw [hel]
        exact own_turns R4.out (.of_below (S := fun _ => False) h4d) (fun _ _ => id)
      · have hw := HB0.out
        have hby := BY.out
        rw [← hw] at hby
        have hT4 := T4.out.drewN nq
        refine (Turns.of_below (S := QSet q (.slice (some ⟨g, 0, none⟩) ts.length c0) O T) hby).trans (T4.out.drewN nq) (fun j hj e => ?_)
        rcases e with e | e | e | e | e
        · exact .inr (.inr (.inr (by rw [e]; rfl)))
        · exact .inl e
        · omega
        · exact .inr (.inl e)
        · exact .inr (.inr (.inl e))
end Go.Proofs.Ytpbheicfplpemaa
