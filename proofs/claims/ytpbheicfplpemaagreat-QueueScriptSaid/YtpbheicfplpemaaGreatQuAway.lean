/- queue: a task that is out is read of the bytes. -/
import Derived.Test.YtpbheicfplpemaaGreatQuOpenP
import Derived.Test.YtpbheicfplpemaaGreatMapEnt
import Derived.Deep.RegionHeld3
namespace Go.Proofs.YtpbheicfplpemaaGreat
open Go.RowKit

/-- what 'away' says -/
def AwayY (w : World) (q r : Nat) (most grace next : Int) (wv : Value) (ts : List Tk) (O T : Nat) (om : Int → Option Ot) (tm : ByteArray → Option Int) (A : Option Addr) (len cap : Nat) (l : List UInt8) (a : Nat) (last : Int) (e : Ending) (w' : World) : Prop :=
  Turns (fun i => QSet q wv O T i ∨ i = r) w w' ∧
  (((ot5 l (a, 0)).2.2 ≠ 0 ∧ e = .returned (.int .i64 last) ∧ ER w' r 57 [] A len cap l (ot5 l (a, 0)).2.1 (ot5 l (a, 0)).2.2) ∨
   ((ot5 l (a, 0)).2.2 = 0 ∧ tm (ot5 l (a, 0)).1.tk.key ≠ none ∧ e = .returned (.int .i64 (ot5 l (a, 0)).1.token) ∧ ER w' r 57 [] A len cap l a 6) ∨
   ((ot5 l (a, 0)).2.2 = 0 ∧ tm (ot5 l (a, 0)).1.tk.key = none ∧ badO next last (ot5 l (a, 0)).1 = true ∧ e = .returned (.int .i64 (ot5 l (a, 0)).1.token) ∧ ER w' r 57 [] A len cap l a 3) ∨
   ((ot5 l (a, 0)).2.2 = 0 ∧ tm (ot5 l (a, 0)).1.tk.key = none ∧ badO next last (ot5 l (a, 0)).1 = false ∧ e = .returned (.int .i64 (ot5 l (a, 0)).1.token) ∧ ER w' r 57 [] A len cap l (ot5 l (a, 0)).2.1 0 ∧
     QS w' q most grace next wv ts O T (updI om (ot5 l (a, 0)).1.token (ot5 l (a, 0)).1) (updS tm (ot5 l (a, 0)).1.tk.key (ot5 l (a, 0)).1.token)))
theorem away_s {W : World} {q O T bx : Nat} {most grace next : Int} {wv v0 v1 v2 v3 v4 v5 v6 : Value} (h : Blk W q 82 [.int .i64 most, .int .i64 grace, .int .i64 next, wv, .map (some O), .map (some T)]) (k : Blk W bx 88 [v0, v1, v2, v3, v4, v5, v6]) :
    W.cell? ⟨q, 4, none⟩ = some (.map (some O)) ∧ W.cell? ⟨q, 5, none⟩ = some (.map (some T)) ∧ W.cell? ⟨bx, 0, none⟩ = some v0 ∧ W.cell? ⟨bx, 1, none⟩ = some v1 ∧ W.cell? ⟨bx, 2, none⟩ = some v2 ∧ W.cell? ⟨bx, 3, none⟩ = some v3 ∧ W.cell? ⟨bx, 4, none⟩ = some v4 ∧ W.cell? ⟨bx, 5, none⟩ = some v5 ∧ W.cell? ⟨bx, 6, none⟩ = some v6 :=
  ⟨h.cell 4, h.cell 5, k.cell 0, k.cell 1, k.cell 2, k.cell 3, k.cell 4, k.cell 5, k.cell 6⟩
theorem away_q {W W4 : World} {q O T nO nT : Nat} {most grace next tok y : Int} {wv z z2 : Value} {ts : List Tk} {om : Int → Option Ot} {tm : ByteArray → Option Int} {key : ByteArray} {x : Ot} (h : QS W q most grace next wv ts O T om tm) (u : Turns (fun i => i = O ∨ i = T) W W4) (hv : ∀ g, wv.ownBlock = some g → ¬ (g = O ∨ g = T)) (hq : ¬ (q = O ∨ q = T))
    (h1 : MapIs kInt W4 O (fun k' => if k' = tok then some (otV x) else if k' = tok then z else oV om k') nO) (h2 : MapIs kStr W4 T (fun k' => if k' = key then some (Value.int .i64 y) else if k' = key then z2 else sV tm k') nT) :
    QS W4 q most grace next wv ts O T (updI om tok x) (updS tm key y) :=
  ⟨h.blk.turns u hq, own_turns h.row u hv, ⟨_, h1.ext (fun k' => by unfold oV updI; split <;> simp_all)⟩, ⟨_, h2.ext (fun k' => by unfold sV updS; split <;> simp_all)⟩, h.ne, h.few, h.pos, h.nxl⟩
set_option maxRecDepth 20000 in
set_option maxHeartbeats 4000000 in
theorem away_any (w : World) (q r : Nat) (most grace next : Int) (wv : Value) (ts : List Tk) (O T : Nat) (om : Int → Option Ot) (tm : ByteArray → Option Int) (A : Option Addr) (len cap : Nat) (l : List UInt8) (a : Nat) (last : Int)
    (h : ER w r 57 [] A len cap l a 0) (hq : QS w q most grace next wv ts O T om tm) (hne : ∀ i, QSet q wv O T i → i ≠ r) (hin : ∀ ad, A = some ad → 0 < l.length → ¬ QSet q wv O T ad.block) (hsz : l.length ≤ 1000000) :
    Calls Tryz.prog 23 #[.pointer (some ⟨r, 0, none⟩), .pointer (some ⟨q, 0, none⟩), .int .i64 last] w (AwayY w q r most grace next wv ts O T om tm A len cap l a last) := by
  have hat := h.at_le
  have c1 := h.c1
  obtain ⟨p1, e1⟩ : ∃ p, aft [] (Cd.rdText l) (a, 0) = p := ⟨_, rfl⟩
  obtain ⟨p2, e2⟩ : ∃ p, aft 0 (rdNum l) p1.2 = p := ⟨_, rfl⟩
  obtain ⟨p3, e3⟩ : ∃ p, aft [] (Cd.rdText l) p2.2 = p := ⟨_, rfl⟩
  obtain ⟨p4, e4⟩ : ∃ p, aft 0 (Cd.rdInt l) p3.2 = p := ⟨_, rfl⟩
  obtain ⟨p5, e5⟩ : ∃ p, aft 0 (rdNum l) p4.2 = p := ⟨_, rfl⟩
  have HT := Lib.hid (show ot5 l (a, 0) = (⟨⟨⟨p1.1.toArray⟩, ⟨#[]⟩, 0, (p5.1 : Int)⟩, (p2.1 : Int), ⟨p3.1.toArray⟩, p4.1⟩, p5.2) by unfold ot5; simp only [e1, e2, e3, e4, e5])
  have H1 := Lib.hid (fun (X : World) (hX : ER X r 57 [] A len cap l a 0) => by
    have := any_string X r A len cap l (a, 0) hX hsz
    rw [e1] at this
    exact this)
  have H2 := Lib.hid (fun (X : World) (hX : ER X r 57 [] A len cap l p1.2.1 p1.2.2) => by
    have := any_num X r A len cap l p1.2 hX hsz
    rw [e2] at this
    exact this)
  have H3 := Lib.hid (fun (X : World) (hX : ER X r 57 [] A len cap l p2.2.1 p2.2.2) => by
    have := any_string X r A len cap l p2.2 hX hsz
    rw [e3] at this
    exact this)
  have H4 := Lib.hid (fun (X : World) (hX : ER X r 57 [] A len cap l p3.2.1 p3.2.2) => by
    have := any_int64 X r A len cap l p3.2 hX hsz
    rw [e4] at this
    exact this)
  have H5 := Lib.hid (fun (X : World) (hX : ER X r 57 [] A len cap l p4.2.1 p4.2.2) => by
    have := any_num X r A len cap l p4.2 hX hsz
    rw [e5] at this
    exact this)
  clear e1 e2 e3 e4 e5
  obtain ⟨x1, s1⟩ := p1
  obtain ⟨x2, s2⟩ := p2
  obtain ⟨x3, s3⟩ := p3
  obtain ⟨x4, s4⟩ := p4
  obtain ⟨x5, t5, n5⟩ := p5
  have HQ := Lib.hid hq
  have HE := Lib.hid h
  unfold strV at H1 H3
  clear h hq
  go_enter Tryz.func23, Tryz.ntmps23
  go_wp2_with fail
  have E0 := Lib.hid (HE.out.below (Below.new w (.cells #[.string ⟨#[]⟩, .string ⟨#[]⟩, .int .i64 0, .int .i64 0, .int .i64 0, .string ⟨#[]⟩, .int .i64 0] 88)))
  have N0 := Lib.hid (Below.new w (.cells #[.string ⟨#[]⟩, .string ⟨#[]⟩, .int .i64 0, .int .i64 0, .int .i64 0, .string ⟨#[]⟩, .int .i64 0] 88))
  have B0 := Lib.hid (Blk.new w 88 [.string ⟨#[]⟩, .string ⟨#[]⟩, .int .i64 0, .int .i64 0, .int .i64 0, .string ⟨#[]⟩, .int .i64 0])
  have T0 := Lib.hid (Turns.of_below (S := fun i => i = r ∨ i = w.heap.size) N0.out)
  have hbr : ¬ w.heap.size = r := by have := HE.out.lt; omega
  generalize w.alloc (.cells #[.string ⟨#[]⟩, .string ⟨#[]⟩, .int .i64 0, .int .i64 0, .int .i64 0, .string ⟨#[]⟩, .int .i64 0] 88) = X0 at *
  have HB := Lib.hid (H1.out X0 E0.out)
  go_wp2_with (go_at_call 65; refine HB.out.mono ?_; rintro e w1 ⟨rfl, h1, g1⟩; have E1 := Lib.hid h1; have G1 := Lib.hid g1; have K1 := Lib.hid (B0.out.grown G1.out hbr); have f := K1.out.fz 0; have d := K1.out.cell 0; simp only [List.getElem?_cons_succ, List.getElem?_cons_zero] at d; clear h1 g1)
  have B1 := Lib.hid (K1.out.set 0 (.string ⟨x1.toArray⟩))
  simp only [List.set_cons_succ, List.set_cons_zero] at B1
  have Y1 := Lib.hid (E1.out.turns (Turns.of_set (S := fun i => i = w.heap.size) w1 ⟨w.heap.size, 0, none⟩ (.string ⟨x1.toArray⟩) rfl) (fun e => hbr e.symm) (fun ad e h0 e2 => by have := HE.out.inn.lt ad e h0; omega))
  have T1 := Lib.hid ((T0.out.then (Turns.of_grown G1.out (fun r' e => by injection e with e; exact .inl e.symm))).then (Turns.of_set (S := fun i => i = r ∨ i = w.heap.size) w1 ⟨w.heap.size, 0, none⟩ (.string ⟨x1.toArray⟩) (.inr rfl)))
  clear f d HB
  generalize w1.setCell ⟨w.heap.size, 0, none⟩ (.string ⟨x1.toArray⟩) = X1 at *
  have HB := Lib.hid (H2.out X1 Y1.out)
  go_wp2_with (go_at_call 62; refine HB.out.mono ?_; rintro e w2 ⟨rfl, h2, g2⟩; have E2 := Lib.hid h2; have G2 := Lib.hid g2; have K2 := Lib.hid (B1.out.grown G2.out hbr); have f := K2.out.fz 4; have d := K2.out.cell 4; simp only [List.getElem?_cons_succ, List.getElem?_cons_zero] at d; clear h2 g2)
  have B2 := Lib.hid (K2.out.set 4 (.int .i64 (x2 : Int)))
  simp only [List.set_cons_succ, List.set_cons_zero] at B2
  have Y2 := Lib.hid (E2.out.turns (Turns.of_set (S := fun i => i = w.heap.size) w2 ⟨w.heap.size, 4, none⟩ (.int .i64 (x2 : Int)) rfl) (fun e => hbr e.symm) (fun ad e h0 e2 => by have := HE.out.inn.lt ad e h0; omega))
  have T2 := Lib.hid ((T1.out.then (Turns.of_grown G2.out (fun r' e => by injection e with e; exact .inl e.symm))).then (Turns.of_set (S := fun i => i = r ∨ i = w.heap.size) w2 ⟨w.heap.size, 4, none⟩ (.int .i64 (x2 : Int)) (.inr rfl)))
  clear f d HB
  generalize w2.setCell ⟨w.heap.size, 4, none⟩ (.int .i64 (x2 : Int)) = X2 at *
  have HB := Lib.hid (H3.out X2 Y2.out)
  go_wp2_with (go_at_call 65; refine HB.out.mono ?_; rintro e w3 ⟨rfl, h3, g3⟩; have E3 := Lib.hid h3; have G3 := Lib.hid g3; have K3 := Lib.hid (B2.out.grown G3.out hbr); have f := K3.out.fz 5; have d := K3.out.cell 5; simp only [List.getElem?_cons_succ, List.getElem?_cons_zero] at d; clear h3 g3)
  have B3 := Lib.hid (K3.out.set 5 (.string ⟨x3.toArray⟩))
  simp only [List.set_cons_succ, List.set_cons_zero] at B3
  have Y3 := Lib.hid (E3.out.turns (Turns.of_set (S := fun i => i = w.heap.size) w3 ⟨w.heap.size, 5, none⟩ (.string ⟨x3.toArray⟩) rfl) (fun e => hbr e.symm) (fun ad e h0 e2 => by have := HE.out.inn.lt ad e h0; omega))
  have T3 := Lib.hid ((T2.out.then (Turns.of_grown G3.out (fun r' e => by injection e with e; exact .inl e.symm))).then (Turns.of_set (S := fun i => i = r ∨ i = w.heap.size) w3 ⟨w.heap.size, 5, none⟩ (.string ⟨x3.toArray⟩) (.inr rfl)))
  clear f d HB
  generalize w3.setCell ⟨w.heap.size, 5, none⟩ (.string ⟨x3.toArray⟩) = X3 at *
  have HB := Lib.hid (H4.out X3 Y3.out)
  go_wp2_with (go_at_call 63; refine HB.out.mono ?_; rintro e w4 ⟨rfl, h4, g4⟩; have E4 := Lib.hid h4; have G4 := Lib.hid g4; have K4 := Lib.hid (B3.out.grown G4.out hbr); have f := K4.out.fz 6; have d := K4.out.cell 6; simp only [List.getElem?_cons_succ, List.getElem?_cons_zero] at d; clear h4 g4)
  have B4 := Lib.hid (K4.out.set 6 (.int .i64 x4))
  simp only [List.set_cons_succ, List.set_cons_zero] at B4
  have Y4 := Lib.hid (E4.out.turns (Turns.of_set (S := fun i => i = w.heap.size) w4 ⟨w.heap.size, 6, none⟩ (.int .i64 x4) rfl) (fun e => hbr e.symm) (fun ad e h0 e2 => by have := HE.out.inn.lt ad e h0; omega))
  have T4 := Lib.hid ((T3.out.then (Turns.of_grown G4.out (fun r' e => by injection e with e; exact .inl e.symm))).then (Turns.of_set (S := fun i => i = r ∨ i = w.heap.size) w4 ⟨w.heap.size, 6, none⟩ (.int .i64 x4) (.inr rfl)))
  clear f d HB
  generalize w4.setCell ⟨w.heap.size, 6, none⟩ (.int .i64 x4) = X4 at *
  have HB := Lib.hid (H5.out X4 Y4.out)
  rcases Nat.eq_zero_or_pos n5 with hn | hn
  · subst hn
    go_wp2_with (go_at_call 62; refine HB.out.mono ?_; rintro e w5 ⟨rfl, h5, g5⟩; have E5 := Lib.hid h5; have G5 := Lib.hid g5; have K5 := Lib.hid (B4.out.grown G5.out hbr); have f := K5.out.fz 3; have d := K5.out.cell 3; simp only [List.getElem?_cons_succ, List.getElem?_cons_zero] at d; have c2 := (E5.out.turns (Turns.of_set (S := fun i => i = w.heap.size) w5 ⟨w.heap.size, 3, none⟩ (.int .i64 (x5 : Int)) rfl) (fun e => hbr e.symm) (fun ad e h0 e2 => by have := HE.out.inn.lt ad e h0; omega)).c2; clear h5 g5)
    have B5 := Lib.hid (K5.out.set 3 (.int .i64 (x5 : Int)))
    simp only [List.set_cons_succ, List.set_cons_zero] at B5
    have Y5 := Lib.hid (E5.out.turns (Turns.of_set (S := fun i => i = w.heap.size) w5 ⟨w.heap.size, 3, none⟩ (.int .i64 (x5 : Int)) rfl) (fun e => hbr e.symm) (fun ad e h0 e2 => by have := HE.out.inn.lt ad e h0; omega))
    have T5 := Lib.hid ((T4.out.then (Turns.of_grown G5.out (fun r' e => by injection e with e; exact .inl e.symm))).then (Turns.of_set (S := fun i => i = r ∨ i = w.heap.size) w5 ⟨w.heap.size, 3, none⟩ (.int .i64 (x5 : Int)) (.inr rfl)))
    clear f d HB
    generalize w5.setCell ⟨w.heap.size, 3, none⟩ (.int .i64 (x5 : Int)) = X5 at *
    have S5 := Lib.hid (HQ.out.keep T5.out (fun i hi e => e.elim (fun e => hne i hi e) (fun e => by have := HQ.out.lts i hi; omega)))
    obtain ⟨q0, _, q2, q3, _, q5⟩ := S5.out.cells
    have d0 := B5.out.cell 0
    simp only [List.getElem?_cons_zero] at d0
    cases htm : tm ⟨x1.toArray⟩ with
    | some y =>
      have hlk : ∀ n, (Instr.lookup 79 (.map (some T)) (.string ⟨x1.toArray⟩) true).run Tryz.prog (X5.drewN n) = .ok (.tuple #[.int .i64 y, .bool true]) (X5.drewN n) := fun n => by
        obtain ⟨nT, hT⟩ := (S5.out.bel (below_drewN' (Below.refl X5.heap.size X5) n)).there
        have := lookS hT ⟨x1.toArray⟩ true
        rw [htm] at this
        simpa using this
      go_big_quiet (fail)
      have N6 := below_drewN' (Below.refl X5.heap.size X5) nq
      have Y6 := Lib.hid (Y5.out.below N6)
      have B6 := Lib.hid (B5.out.bel N6)
      have S6 := Lib.hid (S5.out.bel N6)
      have T6 := Lib.hid ((T5.out.then (Turns.of_below N6)).mono (T := fun i => QSet q wv O T i ∨ i = r) (fun i hi e => e.elim .inr (fun e => by omega)))
      clear hlk q0 q2 q3 q5 d0 c2 N6
      generalize X5.drewN nq = X6 at *
      have HF := Lib.hid (fail1 X6 r _ rfl A len cap l t5 0 Y6.out a 6 hat)
      go_wp2_with (go_at_call 24; refine HF.out.mono ?_; rintro e X7 ⟨rfl, e7, g7⟩; have Y7 := Lib.hid e7; have B7 := Lib.hid (B6.out.grown g7 hbr); have T7 := Lib.hid (T6.out.then (Turns.of_grown g7 (fun r' e => by injection e with e; exact .inr e.symm))); have S7 := Lib.hid (S6.out.keep (Turns.of_grown (S := fun i => i = r) g7 (fun r' e => by injection e with e; exact e.symm)) (fun i hi e => hne i hi e)); clear e7 g7)
      have SV := S7
      have YV := Y7
      have BV := B7
      have TV := T7
      have D0 : Below X7.heap.size X7 X7.drew := below_drewN' (Below.refl X7.heap.size X7) 1
      have SD := SV.out.bel D0
      have BD := BV.out.bel D0
      obtain ⟨nO, hO⟩ := SD.outs
      obtain ⟨nT, hT⟩ := SD.there
      obtain ⟨W1, e1, hr1, hM1, hT1, hB1⟩ := MapIs.entry (t := 78) (e := 88) hO (int_keys Tryz.underlying3) Tryz.underlying78 (zeroOut _) (x2 : Int)
      obtain ⟨W2, hr2, hM2, hT2⟩ := MapIs.entryStore (t := 78) (e := 88) hM1 (int_keys Tryz.underlying3) Tryz.underlying78 (x2 : Int) hB1 (.agg #[.string ⟨x1.toArray⟩, .string ⟨#[]⟩, .int .i64 0, .int .i64 (x5 : Int), .int .i64 (x2 : Int), .string ⟨x3.toArray⟩, .int .i64 x4])
      have U1 : Turns (fun i => i = O ∨ i = T) X7.drew W1 := Turns.of_map hT1 (.inl rfl)
      have U2 : Turns (fun i => i = O ∨ i = T) X7.drew W2 := U1.then (Turns.of_map hT2 (.inl rfl))
      have hT2m := (hT.turns (Turns.of_map (S := fun i => i = O) hT1 rfl) (fun e => SD.ne e.symm)).turns (Turns.of_map (S := fun i => i = O) hT2 rfl) (fun e => SD.ne e.symm)
      obtain ⟨W3, e3, hr3, hM3, hT3, hB3⟩ := MapIs.entry (t := 79) (e := 3) hT2m (str_keys Tryz.underlying9) Tryz.underlying79 (zeroIntE _) (⟨x1.toArray⟩ : ByteArray)
      obtain ⟨W4, hr4, hM4, hT4⟩ := MapIs.entryStore (t := 79) (e := 3) hM3 (str_keys Tryz.underlying9) Tryz.underlying79 (⟨x1.toArray⟩ : ByteArray) hB3 (.int .i64 (x2 : Int))
      have U3 : Turns (fun i => i = O ∨ i = T) X7.drew W3 := U2.then (Turns.of_map hT3 (.inr rfl))
      have U4 : Turns (fun i => i = O ∨ i = T) X7.drew W4 := U3.then (Turns.of_map hT4 (.inr rfl))
      have nqm : ¬ (q = O ∨ q = T) := by rintro (e | e); exact hO.ne_cells SD.blk e.symm; exact hT.ne_cells SD.blk e.symm
      have nbm : ¬ (w.heap.size = O ∨ w.heap.size = T) := by rintro (e | e); exact hO.ne_cells BD e.symm; exact hT.ne_cells BD e.symm
      have hOl := hM2
      have f0 := away_s SD.blk BD
      have f1 := away_s (SD.blk.turns U1 nqm) (BD.turns U1 nbm)
      have f2 := away_s (SD.blk.turns U2 nqm) (BD.turns U2 nbm)
      have f3 := away_s (SD.blk.turns U3 nqm) (BD.turns U3 nbm)
      have f4 := away_s (SD.blk.turns U4 nqm) (BD.turns U4 nbm)
      have hM4O := hM2.turns ((Turns.of_map (S := fun i => i = T) hT3 rfl).then (Turns.of_map (S := fun i => i = T) hT4 rfl)) SD.ne
      have K4 := Lib.hid (BD.turns U4 nbm)
      have Z4 : Hid (QS W4 q most grace next wv ts O T (updI om (x2 : Int) (⟨⟨⟨x1.toArray⟩, ⟨#[]⟩, 0, (x5 : Int)⟩, (x2 : Int), ⟨x3.toArray⟩, x4⟩ : Ot)) (updS tm ⟨x1.toArray⟩ (x2 : Int))) := Lib.hid (away_q SD U4 (fun g hg e => e.elim (fun e => own_ne_map SD.row hg hO e) (fun e => own_ne_map SD.row hg hT e)) nqm hM4O hM4)
      have U5 := Lib.hid (TV.out.trans (T := fun i => QSet q wv O T i ∨ i = r) ((Turns.of_below D0).then (U4.mono (fun i _ e => e.elim (fun e => .inl (.inr (.inl e))) (fun e => .inl (.inr (.inr (.inl e)))))))  (fun i _ e => e)) 
      have Y4 := Lib.hid ((YV.out.below D0).turns U4 (fun e => e.elim (fun e => hne O (.inr (.inl rfl)) e.symm) (fun e => hne T (.inr (.inr (.inl rfl))) e.symm)) (fun ad e h0 e2 => hin ad e h0 (e2.elim (fun e => .inr (.inl e)) (fun e => .inr (.inr (.inl e))))))
      unfold kInt goInt at hr1
      unfold goInt at hr2 hr4
      unfold kStr goInt at hr3
      clear D0 SD BD hO hT hM1 hT1 hB1 hM2 hT2 U1 U2 hT2m hM3 hT3 hB3 hM4 hT4 U3 U4 nqm nbm hOl hM4O
      go_region_held3 (fun w' => w'.cell? ⟨q, 4, none⟩ = some (.map (some O)) ∧ w'.cell? ⟨q, 5, none⟩ = some (.map (some T)) ∧ w'.cell? ⟨w.heap.size, 0, none⟩ = some (.string ⟨x1.toArray⟩) ∧ w'.cell? ⟨w.heap.size, 1, none⟩ = some (.string ⟨#[]⟩) ∧ w'.cell? ⟨w.heap.size, 2, none⟩ = some (.int .i64 0) ∧ w'.cell? ⟨w.heap.size, 3, none⟩ = some (.int .i64 (x5 : Int)) ∧ w'.cell? ⟨w.heap.size, 4, none⟩ = some (.int .i64 (x2 : Int)) ∧ w'.cell? ⟨w.heap.size, 5, none⟩ = some (.string ⟨x3.toArray⟩) ∧ w'.cell? ⟨w.heap.size, 6, none⟩ = some (.int .i64 x4)) (first | exact f0 | exact f1 | exact f2 | exact f3 | exact f4) (fail)
      clear hr1 hr2 hr3 hr4 f0 f1 f2 f3 f4
      have t4 := K4.out.cell 4
      simp only [List.getElem?_cons_succ, List.getElem?_cons_zero] at t4
      go_wp2_with fail
      go_ret
      refine ⟨U5.out, .inr (.inl ?_)⟩
      rw [HT.out]
      exact ⟨rfl, by rw [htm]; simp, rfl, Y4.out⟩
    | none =>
      by_cases hb1 : (x2 : Int) ≤ last
      · have r1 : decide ((x2 : Int) ≤ last) = true := decide_eq_true hb1
        have HBD : Hid (badO next last (⟨⟨⟨x1.toArray⟩, ⟨#[]⟩, 0, (x5 : Int)⟩, (x2 : Int), ⟨x3.toArray⟩, x4⟩ : Ot) = true) := Lib.hid (by unfold badO; simp only [r1, Bool.true_or, Bool.or_true, Bool.false_or, Bool.or_false])
        have hlk : ∀ n, (Instr.lookup 79 (.map (some T)) (.string ⟨x1.toArray⟩) true).run Tryz.prog (X5.drewN n) = .ok (.tuple #[.int .i64 0, .bool false]) (X5.drewN n) := fun n => by
          obtain ⟨nT, hT⟩ := (S5.out.bel (below_drewN' (Below.refl X5.heap.size X5) n)).there
          have := lookS hT ⟨x1.toArray⟩ true
          rw [htm] at this
          simpa using this
        go_big_quiet (fail)
        have N6 := below_drewN' (Below.refl X5.heap.size X5) nq
        have Y6 := Lib.hid (Y5.out.below N6)
        have B6 := Lib.hid (B5.out.bel N6)
        have S6 := Lib.hid (S5.out.bel N6)
        have T6 := Lib.hid ((T5.out.then (Turns.of_below N6)).mono (T := fun i => QSet q wv O T i ∨ i = r) (fun i hi e => e.elim .inr (fun e => by omega)))
        clear hlk q0 q2 q3 q5 d0 c2 N6
        generalize X5.drewN nq = X6 at *
        have d4 := B6.out.cell 4
        have d3 := B6.out.cell 3
        simp only [List.getElem?_cons_succ, List.getElem?_cons_zero] at d3 d4
        obtain ⟨_, _, m2, _, _, _⟩ := S6.out.cells
        go_wp2_with fail
        go_quiet (fail)
        have N8 := below_drewN' (Below.refl X6.heap.size X6) nq
        have Y6 := Lib.hid (Y6.out.below N8)
        have B6 := Lib.hid (B6.out.bel N8)
        have S6 := Lib.hid (S6.out.bel N8)
        have T6 := Lib.hid (T6.out.then (Turns.of_below N8))
        clear d3 d4 m2 N8
        generalize X6.drewN nq = X6 at *
        clear r1
        have HF := Lib.hid (fail1 X6 r _ rfl A len cap l t5 0 Y6.out a 3 hat)
        go_wp2_with (go_at_call 24; refine HF.out.mono ?_; rintro e X7 ⟨rfl, e7, g7⟩; have Y7 := Lib.hid e7; have B7 := Lib.hid (B6.out.grown g7 hbr); have T7 := Lib.hid (T6.out.then (Turns.of_grown g7 (fun r' e => by injection e with e; exact .inr e.symm))); have S7 := Lib.hid (S6.out.keep (Turns.of_grown (S := fun i => i = r) g7 (fun r' e => by injection e with e; exact e.symm)) (fun i hi e => hne i hi e)); clear e7 g7)
        have SV := S7
        have YV := Y7
        have BV := B7
        have TV := T7
        have D0 : Below X7.heap.size X7 X7.drew := below_drewN' (Below.refl X7.heap.size X7) 1
        have SD := SV.out.bel D0
        have BD := BV.out.bel D0
        obtain ⟨nO, hO⟩ := SD.outs
        obtain ⟨nT, hT⟩ := SD.there
        obtain ⟨W1, e1, hr1, hM1, hT1, hB1⟩ := MapIs.entry (t := 78) (e := 88) hO (int_keys Tryz.underlying3) Tryz.underlying78 (zeroOut _) (x2 : Int)
        obtain ⟨W2, hr2, hM2, hT2⟩ := MapIs.entryStore (t := 78) (e := 88) hM1 (int_keys Tryz.underlying3) Tryz.underlying78 (x2 : Int) hB1 (.agg #[.string ⟨x1.toArray⟩, .string ⟨#[]⟩, .int .i64 0, .int .i64 (x5 : Int), .int .i64 (x2 : Int), .string ⟨x3.toArray⟩, .int .i64 x4])
        have U1 : Turns (fun i => i = O ∨ i = T) X7.drew W1 := Turns.of_map hT1 (.inl rfl)
        have U2 : Turns (fun i => i = O ∨ i = T) X7.drew W2 := U1.then (Turns.of_map hT2 (.inl rfl))
        have hT2m := (hT.turns (Turns.of_map (S := fun i => i = O) hT1 rfl) (fun e => SD.ne e.symm)).turns (Turns.of_map (S := fun i => i = O) hT2 rfl) (fun e => SD.ne e.symm)
        obtain ⟨W3, e3, hr3, hM3, hT3, hB3⟩ := MapIs.entry (t := 79) (e := 3) hT2m (str_keys Tryz.underlying9) Tryz.underlying79 (zeroIntE _) (⟨x1.toArray⟩ : ByteArray)
        obtain ⟨W4, hr4, hM4, hT4⟩ := MapIs.entryStore (t := 79) (e := 3) hM3 (str_keys Tryz.underlying9) Tryz.underlying79 (⟨x1.toArray⟩ : ByteArray) hB3 (.int .i64 (x2 : Int))
        have U3 : Turns (fun i => i = O ∨ i = T) X7.drew W3 := U2.then (Turns.of_map hT3 (.inr rfl))
        have U4 : Turns (fun i => i = O ∨ i = T) X7.drew W4 := U3.then (Turns.of_map hT4 (.inr rfl))
        have nqm : ¬ (q = O ∨ q = T) := by rintro (e | e); exact hO.ne_cells SD.blk e.symm; exact hT.ne_cells SD.blk e.symm
        have nbm : ¬ (w.heap.size = O ∨ w.heap.size = T) := by rintro (e | e); exact hO.ne_cells BD e.symm; exact hT.ne_cells BD e.symm
        have hOl := hM2
        have f0 := away_s SD.blk BD
        have f1 := away_s (SD.blk.turns U1 nqm) (BD.turns U1 nbm)
        have f2 := away_s (SD.blk.turns U2 nqm) (BD.turns U2 nbm)
        have f3 := away_s (SD.blk.turns U3 nqm) (BD.turns U3 nbm)
        have f4 := away_s (SD.blk.turns U4 nqm) (BD.turns U4 nbm)
        have hM4O := hM2.turns ((Turns.of_map (S := fun i => i = T) hT3 rfl).then (Turns.of_map (S := fun i => i = T) hT4 rfl)) SD.ne
        have K4 := Lib.hid (BD.turns U4 nbm)
        have Z4 : Hid (QS W4 q most grace next wv ts O T (updI om (x2 : Int) (⟨⟨⟨x1.toArray⟩, ⟨#[]⟩, 0, (x5 : Int)⟩, (x2 : Int), ⟨x3.toArray⟩, x4⟩ : Ot)) (updS tm ⟨x1.toArray⟩ (x2 : Int))) := Lib.hid (away_q SD U4 (fun g hg e => e.elim (fun e => own_ne_map SD.row hg hO e) (fun e => own_ne_map SD.row hg hT e)) nqm hM4O hM4)
        have U5 := Lib.hid (TV.out.trans (T := fun i => QSet q wv O T i ∨ i = r) ((Turns.of_below D0).then (U4.mono (fun i _ e => e.elim (fun e => .inl (.inr (.inl e))) (fun e => .inl (.inr (.inr (.inl e)))))))  (fun i _ e => e)) 
        have Y4 := Lib.hid ((YV.out.below D0).turns U4 (fun e => e.elim (fun e => hne O (.inr (.inl rfl)) e.symm) (fun e => hne T (.inr (.inr (.inl rfl))) e.symm)) (fun ad e h0 e2 => hin ad e h0 (e2.elim (fun e => .inr (.inl e)) (fun e => .inr (.inr (.inl e))))))
        unfold kInt goInt at hr1
        unfold goInt at hr2 hr4
        unfold kStr goInt at hr3
        clear D0 SD BD hO hT hM1 hT1 hB1 hM2 hT2 U1 U2 hT2m hM3 hT3 hB3 hM4 hT4 U3 U4 nqm nbm hOl hM4O
        go_region_held3 (fun w' => w'.cell? ⟨q, 4, none⟩ = some (.map (some O)) ∧ w'.cell? ⟨q, 5, none⟩ = some (.map (some T)) ∧ w'.cell? ⟨w.heap.size, 0, none⟩ = some (.string ⟨x1.toArray⟩) ∧ w'.cell? ⟨w.heap.size, 1, none⟩ = some (.string ⟨#[]⟩) ∧ w'.cell? ⟨w.heap.size, 2, none⟩ = some (.int .i64 0) ∧ w'.cell? ⟨w.heap.size, 3, none⟩ = some (.int .i64 (x5 : Int)) ∧ w'.cell? ⟨w.heap.size, 4, none⟩ = some (.int .i64 (x2 : Int)) ∧ w'.cell? ⟨w.heap.size, 5, none⟩ = some (.string ⟨x3.toArray⟩) ∧ w'.cell? ⟨w.heap.size, 6, none⟩ = some (.int .i64 x4)) (first | exact f0 | exact f1 | exact f2 | exact f3 | exact f4) (fail)
        clear hr1 hr2 hr3 hr4 f0 f1 f2 f3 f4
        have t4 := K4.out.cell 4
        simp only [List.getElem?_cons_succ, List.getElem?_cons_zero] at t4
        go_wp2_with fail
        go_ret
        refine ⟨U5.out, .inr (.inr (.inl ?_))⟩
        rw [HT.out]
        exact ⟨rfl, htm, HBD.out, rfl, Y4.out⟩
      by_cases hb2 : next ≤ (x2 : Int)
      · have r1 : decide ((x2 : Int) ≤ last) = false := decide_eq_false hb1
        have r2 : decide (next ≤ (x2 : Int)) = true := decide_eq_true hb2
        have HBD : Hid (badO next last (⟨⟨⟨x1.toArray⟩, ⟨#[]⟩, 0, (x5 : Int)⟩, (x2 : Int), ⟨x3.toArray⟩, x4⟩ : Ot) = true) := Lib.hid (by unfold badO; simp only [r1, r2, Bool.true_or, Bool.or_true, Bool.false_or, Bool.or_false])
        have hlk : ∀ n, (Instr.lookup 79 (.map (some T)) (.string ⟨x1.toArray⟩) true).run Tryz.prog (X5.drewN n) = .ok (.tuple #[.int .i64 0, .bool false]) (X5.drewN n) := fun n => by
          obtain ⟨nT, hT⟩ := (S5.out.bel (below_drewN' (Below.refl X5.heap.size X5) n)).there
          have := lookS hT ⟨x1.toArray⟩ true
          rw [htm] at this
          simpa using this
        go_big_quiet (fail)
        have N6 := below_drewN' (Below.refl X5.heap.size X5) nq
        have Y6 := Lib.hid (Y5.out.below N6)
        have B6 := Lib.hid (B5.out.bel N6)
        have S6 := Lib.hid (S5.out.bel N6)
        have T6 := Lib.hid ((T5.out.then (Turns.of_below N6)).mono (T := fun i => QSet q wv O T i ∨ i = r) (fun i hi e => e.elim .inr (fun e => by omega)))
        clear hlk q0 q2 q3 q5 d0 c2 N6
        generalize X5.drewN nq = X6 at *
        have d4 := B6.out.cell 4
        have d3 := B6.out.cell 3
        simp only [List.getElem?_cons_succ, List.getElem?_cons_zero] at d3 d4
        obtain ⟨_, _, m2, _, _, _⟩ := S6.out.cells
        go_wp2_with fail
        go_quiet (fail)
        have N8 := below_drewN' (Below.refl X6.heap.size X6) nq
        have Y6 := Lib.hid (Y6.out.below N8)
        have B6 := Lib.hid (B6.out.bel N8)
        have S6 := Lib.hid (S6.out.bel N8)
        have T6 := Lib.hid (T6.out.then (Turns.of_below N8))
        clear d3 d4 m2 N8
        generalize X6.drewN nq = X6 at *
        clear r1 r2
        have HF := Lib.hid (fail1 X6 r _ rfl A len cap l t5 0 Y6.out a 3 hat)
        go_wp2_with (go_at_call 24; refine HF.out.mono ?_; rintro e X7 ⟨rfl, e7, g7⟩; have Y7 := Lib.hid e7; have B7 := Lib.hid (B6.out.grown g7 hbr); have T7 := Lib.hid (T6.out.then (Turns.of_grown g7 (fun r' e => by injection e with e; exact .inr e.symm))); have S7 := Lib.hid (S6.out.keep (Turns.of_grown (S := fun i => i = r) g7 (fun r' e => by injection e with e; exact e.symm)) (fun i hi e => hne i hi e)); clear e7 g7)
        have SV := S7
        have YV := Y7
        have BV := B7
        have TV := T7
        have D0 : Below X7.heap.size X7 X7.drew := below_drewN' (Below.refl X7.heap.size X7) 1
        have SD := SV.out.bel D0
        have BD := BV.out.bel D0
        obtain ⟨nO, hO⟩ := SD.outs
        obtain ⟨nT, hT⟩ := SD.there
        obtain ⟨W1, e1, hr1, hM1, hT1, hB1⟩ := MapIs.entry (t := 78) (e := 88) hO (int_keys Tryz.underlying3) Tryz.underlying78 (zeroOut _) (x2 : Int)
        obtain ⟨W2, hr2, hM2, hT2⟩ := MapIs.entryStore (t := 78) (e := 88) hM1 (int_keys Tryz.underlying3) Tryz.underlying78 (x2 : Int) hB1 (.agg #[.string ⟨x1.toArray⟩, .string ⟨#[]⟩, .int .i64 0, .int .i64 (x5 : Int), .int .i64 (x2 : Int), .string ⟨x3.toArray⟩, .int .i64 x4])
        have U1 : Turns (fun i => i = O ∨ i = T) X7.drew W1 := Turns.of_map hT1 (.inl rfl)
        have U2 : Turns (fun i => i = O ∨ i = T) X7.drew W2 := U1.then (Turns.of_map hT2 (.inl rfl))
        have hT2m := (hT.turns (Turns.of_map (S := fun i => i = O) hT1 rfl) (fun e => SD.ne e.symm)).turns (Turns.of_map (S := fun i => i = O) hT2 rfl) (fun e => SD.ne e.symm)
        obtain ⟨W3, e3, hr3, hM3, hT3, hB3⟩ := MapIs.entry (t := 79) (e := 3) hT2m (str_keys Tryz.underlying9) Tryz.underlying79 (zeroIntE _) (⟨x1.toArray⟩ : ByteArray)
        obtain ⟨W4, hr4, hM4, hT4⟩ := MapIs.entryStore (t := 79) (e := 3) hM3 (str_keys Tryz.underlying9) Tryz.underlying79 (⟨x1.toArray⟩ : ByteArray) hB3 (.int .i64 (x2 : Int))
        have U3 : Turns (fun i => i = O ∨ i = T) X7.drew W3 := U2.then (Turns.of_map hT3 (.inr rfl))
        have U4 : Turns (fun i => i = O ∨ i = T) X7.drew W4 := U3.then (Turns.of_map hT4 (.inr rfl))
        have nqm : ¬ (q = O ∨ q = T) := by rintro (e | e); exact hO.ne_cells SD.blk e.symm; exact hT.ne_cells SD.blk e.symm
        have nbm : ¬ (w.heap.size = O ∨ w.heap.size = T) := by rintro (e | e); exact hO.ne_cells BD e.symm; exact hT.ne_cells BD e.symm
        have hOl := hM2
        have f0 := away_s SD.blk BD
        have f1 := away_s (SD.blk.turns U1 nqm) (BD.turns U1 nbm)
        have f2 := away_s (SD.blk.turns U2 nqm) (BD.turns U2 nbm)
        have f3 := away_s (SD.blk.turns U3 nqm) (BD.turns U3 nbm)
        have f4 := away_s (SD.blk.turns U4 nqm) (BD.turns U4 nbm)
        have hM4O := hM2.turns ((Turns.of_map (S := fun i => i = T) hT3 rfl).then (Turns.of_map (S := fun i => i = T) hT4 rfl)) SD.ne
        have K4 := Lib.hid (BD.turns U4 nbm)
        have Z4 : Hid (QS W4 q most grace next wv ts O T (updI om (x2 : Int) (⟨⟨⟨x1.toArray⟩, ⟨#[]⟩, 0, (x5 : Int)⟩, (x2 : Int), ⟨x3.toArray⟩, x4⟩ : Ot)) (updS tm ⟨x1.toArray⟩ (x2 : Int))) := Lib.hid (away_q SD U4 (fun g hg e => e.elim (fun e => own_ne_map SD.row hg hO e) (fun e => own_ne_map SD.row hg hT e)) nqm hM4O hM4)
        have U5 := Lib.hid (TV.out.trans (T := fun i => QSet q wv O T i ∨ i = r) ((Turns.of_below D0).then (U4.mono (fun i _ e => e.elim (fun e => .inl (.inr (.inl e))) (fun e => .inl (.inr (.inr (.inl e)))))))  (fun i _ e => e)) 
        have Y4 := Lib.hid ((YV.out.below D0).turns U4 (fun e => e.elim (fun e => hne O (.inr (.inl rfl)) e.symm) (fun e => hne T (.inr (.inr (.inl rfl))) e.symm)) (fun ad e h0 e2 => hin ad e h0 (e2.elim (fun e => .inr (.inl e)) (fun e => .inr (.inr (.inl e))))))
        unfold kInt goInt at hr1
        unfold goInt at hr2 hr4
        unfold kStr goInt at hr3
        clear D0 SD BD hO hT hM1 hT1 hB1 hM2 hT2 U1 U2 hT2m hM3 hT3 hB3 hM4 hT4 U3 U4 nqm nbm hOl hM4O
        go_region_held3 (fun w' => w'.cell? ⟨q, 4, none⟩ = some (.map (some O)) ∧ w'.cell? ⟨q, 5, none⟩ = some (.map (some T)) ∧ w'.cell? ⟨w.heap.size, 0, none⟩ = some (.string ⟨x1.toArray⟩) ∧ w'.cell? ⟨w.heap.size, 1, none⟩ = some (.string ⟨#[]⟩) ∧ w'.cell? ⟨w.heap.size, 2, none⟩ = some (.int .i64 0) ∧ w'.cell? ⟨w.heap.size, 3, none⟩ = some (.int .i64 (x5 : Int)) ∧ w'.cell? ⟨w.heap.size, 4, none⟩ = some (.int .i64 (x2 : Int)) ∧ w'.cell? ⟨w.heap.size, 5, none⟩ = some (.string ⟨x3.toArray⟩) ∧ w'.cell? ⟨w.heap.size, 6, none⟩ = some (.int .i64 x4)) (first | exact f0 | exact f1 | exact f2 | exact f3 | exact f4) (fail)
        clear hr1 hr2 hr3 hr4 f0 f1 f2 f3 f4
        have t4 := K4.out.cell 4
        simp only [List.getElem?_cons_succ, List.getElem?_cons_zero] at t4
        go_wp2_with fail
        go_ret
        refine ⟨U5.out, .inr (.inr (.inl ?_))⟩
        rw [HT.out]
        exact ⟨rfl, htm, HBD.out, rfl, Y4.out⟩
      by_cases hb3 : x5 = 0
      · have r1 : decide ((x2 : Int) ≤ last) = false := decide_eq_false hb1
        have r2 : decide (next ≤ (x2 : Int)) = false := decide_eq_false hb2
        have r3 : ((x5 : Int) == 0) = true := by rw [beq_iff_eq]; omega
        have HBD : Hid (badO next last (⟨⟨⟨x1.toArray⟩, ⟨#[]⟩, 0, (x5 : Int)⟩, (x2 : Int), ⟨x3.toArray⟩, x4⟩ : Ot) = true) := Lib.hid (by unfold badO; simp only [r1, r2, Bool.true_or, Bool.or_true, Bool.false_or, Bool.or_false]; exact decide_eq_true (by omega))
        clear hb3
        have hlk : ∀ n, (Instr.lookup 79 (.map (some T)) (.string ⟨x1.toArray⟩) true).run Tryz.prog (X5.drewN n) = .ok (.tuple #[.int .i64 0, .bool false]) (X5.drewN n) := fun n => by
          obtain ⟨nT, hT⟩ := (S5.out.bel (below_drewN' (Below.refl X5.heap.size X5) n)).there
          have := lookS hT ⟨x1.toArray⟩ true
          rw [htm] at this
          simpa using this
        go_big_quiet (fail)
        have N6 := below_drewN' (Below.refl X5.heap.size X5) nq
        have Y6 := Lib.hid (Y5.out.below N6)
        have B6 := Lib.hid (B5.out.bel N6)
        have S6 := Lib.hid (S5.out.bel N6)
        have T6 := Lib.hid ((T5.out.then (Turns.of_below N6)).mono (T := fun i => QSet q wv O T i ∨ i = r) (fun i hi e => e.elim .inr (fun e => by omega)))
        clear hlk q0 q2 q3 q5 d0 c2 N6
        generalize X5.drewN nq = X6 at *
        have d4 := B6.out.cell 4
        have d3 := B6.out.cell 3
        simp only [List.getElem?_cons_succ, List.getElem?_cons_zero] at d3 d4
        obtain ⟨_, _, m2, _, _, _⟩ := S6.out.cells
        go_wp2_with fail
        go_quiet (fail)
        have N8 := below_drewN' (Below.refl X6.heap.size X6) nq
        have Y6 := Lib.hid (Y6.out.below N8)
        have B6 := Lib.hid (B6.out.bel N8)
        have S6 := Lib.hid (S6.out.bel N8)
        have T6 := Lib.hid (T6.out.then (Turns.of_below N8))
        clear d3 d4 m2 N8
        generalize X6.drewN nq = X6 at *
        clear r1 r2 r3
        have HF := Lib.hid (fail1 X6 r _ rfl A len cap l t5 0 Y6.out a 3 hat)
        go_wp2_with (go_at_call 24; refine HF.out.mono ?_; rintro e X7 ⟨rfl, e7, g7⟩; have Y7 := Lib.hid e7; have B7 := Lib.hid (B6.out.grown g7 hbr); have T7 := Lib.hid (T6.out.then (Turns.of_grown g7 (fun r' e => by injection e with e; exact .inr e.symm))); have S7 := Lib.hid (S6.out.keep (Turns.of_grown (S := fun i => i = r) g7 (fun r' e => by injection e with e; exact e.symm)) (fun i hi e => hne i hi e)); clear e7 g7)
        have SV := S7
        have YV := Y7
        have BV := B7
        have TV := T7
        have D0 : Below X7.heap.size X7 X7.drew := below_drewN' (Below.refl X7.heap.size X7) 1
        have SD := SV.out.bel D0
        have BD := BV.out.bel D0
        obtain ⟨nO, hO⟩ := SD.outs
        obtain ⟨nT, hT⟩ := SD.there
        obtain ⟨W1, e1, hr1, hM1, hT1, hB1⟩ := MapIs.entry (t := 78) (e := 88) hO (int_keys Tryz.underlying3) Tryz.underlying78 (zeroOut _) (x2 : Int)
        obtain ⟨W2, hr2, hM2, hT2⟩ := MapIs.entryStore (t := 78) (e := 88) hM1 (int_keys Tryz.underlying3) Tryz.underlying78 (x2 : Int) hB1 (.agg #[.string ⟨x1.toArray⟩, .string ⟨#[]⟩, .int .i64 0, .int .i64 (x5 : Int), .int .i64 (x2 : Int), .string ⟨x3.toArray⟩, .int .i64 x4])
        have U1 : Turns (fun i => i = O ∨ i = T) X7.drew W1 := Turns.of_map hT1 (.inl rfl)
        have U2 : Turns (fun i => i = O ∨ i = T) X7.drew W2 := U1.then (Turns.of_map hT2 (.inl rfl))
        have hT2m := (hT.turns (Turns.of_map (S := fun i => i = O) hT1 rfl) (fun e => SD.ne e.symm)).turns (Turns.of_map (S := fun i => i = O) hT2 rfl) (fun e => SD.ne e.symm)
        obtain ⟨W3, e3, hr3, hM3, hT3, hB3⟩ := MapIs.entry (t := 79) (e := 3) hT2m (str_keys Tryz.underlying9) Tryz.underlying79 (zeroIntE _) (⟨x1.toArray⟩ : ByteArray)
        obtain ⟨W4, hr4, hM4, hT4⟩ := MapIs.entryStore (t := 79) (e := 3) hM3 (str_keys Tryz.underlying9) Tryz.underlying79 (⟨x1.toArray⟩ : ByteArray) hB3 (.int .i64 (x2 : Int))
        have U3 : Turns (fun i => i = O ∨ i = T) X7.drew W3 := U2.then (Turns.of_map hT3 (.inr rfl))
        have U4 : Turns (fun i => i = O ∨ i = T) X7.drew W4 := U3.then (Turns.of_map hT4 (.inr rfl))
        have nqm : ¬ (q = O ∨ q = T) := by rintro (e | e); exact hO.ne_cells SD.blk e.symm; exact hT.ne_cells SD.blk e.symm
        have nbm : ¬ (w.heap.size = O ∨ w.heap.size = T) := by rintro (e | e); exact hO.ne_cells BD e.symm; exact hT.ne_cells BD e.symm
        have hOl := hM2
        have f0 := away_s SD.blk BD
        have f1 := away_s (SD.blk.turns U1 nqm) (BD.turns U1 nbm)
        have f2 := away_s (SD.blk.turns U2 nqm) (BD.turns U2 nbm)
        have f3 := away_s (SD.blk.turns U3 nqm) (BD.turns U3 nbm)
        have f4 := away_s (SD.blk.turns U4 nqm) (BD.turns U4 nbm)
        have hM4O := hM2.turns ((Turns.of_map (S := fun i => i = T) hT3 rfl).then (Turns.of_map (S := fun i => i = T) hT4 rfl)) SD.ne
        have K4 := Lib.hid (BD.turns U4 nbm)
        have Z4 : Hid (QS W4 q most grace next wv ts O T (updI om (x2 : Int) (⟨⟨⟨x1.toArray⟩, ⟨#[]⟩, 0, (x5 : Int)⟩, (x2 : Int), ⟨x3.toArray⟩, x4⟩ : Ot)) (updS tm ⟨x1.toArray⟩ (x2 : Int))) := Lib.hid (away_q SD U4 (fun g hg e => e.elim (fun e => own_ne_map SD.row hg hO e) (fun e => own_ne_map SD.row hg hT e)) nqm hM4O hM4)
        have U5 := Lib.hid (TV.out.trans (T := fun i => QSet q wv O T i ∨ i = r) ((Turns.of_below D0).then (U4.mono (fun i _ e => e.elim (fun e => .inl (.inr (.inl e))) (fun e => .inl (.inr (.inr (.inl e)))))))  (fun i _ e => e)) 
        have Y4 := Lib.hid ((YV.out.below D0).turns U4 (fun e => e.elim (fun e => hne O (.inr (.inl rfl)) e.symm) (fun e => hne T (.inr (.inr (.inl rfl))) e.symm)) (fun ad e h0 e2 => hin ad e h0 (e2.elim (fun e => .inr (.inl e)) (fun e => .inr (.inr (.inl e))))))
        unfold kInt goInt at hr1
        unfold goInt at hr2 hr4
        unfold kStr goInt at hr3
        clear D0 SD BD hO hT hM1 hT1 hB1 hM2 hT2 U1 U2 hT2m hM3 hT3 hB3 hM4 hT4 U3 U4 nqm nbm hOl hM4O
        go_region_held3 (fun w' => w'.cell? ⟨q, 4, none⟩ = some (.map (some O)) ∧ w'.cell? ⟨q, 5, none⟩ = some (.map (some T)) ∧ w'.cell? ⟨w.heap.size, 0, none⟩ = some (.string ⟨x1.toArray⟩) ∧ w'.cell? ⟨w.heap.size, 1, none⟩ = some (.string ⟨#[]⟩) ∧ w'.cell? ⟨w.heap.size, 2, none⟩ = some (.int .i64 0) ∧ w'.cell? ⟨w.heap.size, 3, none⟩ = some (.int .i64 (x5 : Int)) ∧ w'.cell? ⟨w.heap.size, 4, none⟩ = some (.int .i64 (x2 : Int)) ∧ w'.cell? ⟨w.heap.size, 5, none⟩ = some (.string ⟨x3.toArray⟩) ∧ w'.cell? ⟨w.heap.size, 6, none⟩ = some (.int .i64 x4)) (first | exact f0 | exact f1 | exact f2 | exact f3 | exact f4) (fail)
        clear hr1 hr2 hr3 hr4 f0 f1 f2 f3 f4
        have t4 := K4.out.cell 4
        simp only [List.getElem?_cons_succ, List.getElem?_cons_zero] at t4
        go_wp2_with fail
        go_ret
        refine ⟨U5.out, .inr (.inr (.inl ?_))⟩
        rw [HT.out]
        exact ⟨rfl, htm, HBD.out, rfl, Y4.out⟩
      have r1 : decide ((x2 : Int) ≤ last) = false := decide_eq_false hb1
      have r2 : decide (next ≤ (x2 : Int)) = false := decide_eq_false hb2
      have r3 : ((x5 : Int) == 0) = false := by rw [beq_eq_false_iff_ne]; omega
      have HBD : Hid (badO next last (⟨⟨⟨x1.toArray⟩, ⟨#[]⟩, 0, (x5 : Int)⟩, (x2 : Int), ⟨x3.toArray⟩, x4⟩ : Ot) = false) := Lib.hid (by unfold badO; simp only [r1, r2, Bool.true_or, Bool.or_true, Bool.false_or, Bool.or_false]; exact decide_eq_false (by omega))
      have hlk : ∀ n, (Instr.lookup 79 (.map (some T)) (.string ⟨x1.toArray⟩) true).run Tryz.prog (X5.drewN n) = .ok (.tuple #[.int .i64 0, .bool false]) (X5.drewN n) := fun n => by
        obtain ⟨nT, hT⟩ := (S5.out.bel (below_drewN' (Below.refl X5.heap.size X5) n)).there
        have := lookS hT ⟨x1.toArray⟩ true
        rw [htm] at this
        simpa using this
      go_big_quiet (fail)
      have N6 := below_drewN' (Below.refl X5.heap.size X5) nq
      have Y6 := Lib.hid (Y5.out.below N6)
      have B6 := Lib.hid (B5.out.bel N6)
      have S6 := Lib.hid (S5.out.bel N6)
      have T6 := Lib.hid ((T5.out.then (Turns.of_below N6)).mono (T := fun i => QSet q wv O T i ∨ i = r) (fun i hi e => e.elim .inr (fun e => by omega)))
      clear hlk q0 q2 q3 q5 d0 c2 N6
      generalize X5.drewN nq = X6 at *
      have d4 := B6.out.cell 4
      have d3 := B6.out.cell 3
      simp only [List.getElem?_cons_succ, List.getElem?_cons_zero] at d3 d4
      obtain ⟨_, _, m2, _, _, _⟩ := S6.out.cells
      go_wp2_with fail
      go_quiet (fail)
      have N8 := below_drewN' (Below.refl X6.heap.size X6) nq
      have Y6 := Lib.hid (Y6.out.below N8)
      have B6 := Lib.hid (B6.out.bel N8)
      have S6 := Lib.hid (S6.out.bel N8)
      have T6 := Lib.hid (T6.out.then (Turns.of_below N8))
      clear d3 d4 m2 N8
      generalize X6.drewN nq = X6 at *
      clear r1 r2 r3
      go_wp2_with fail
      have SV := S6
      have YV := Y6
      have BV := B6
      have TV := T6
      have D0 : Below X6.heap.size X6 X6.drew := below_drewN' (Below.refl X6.heap.size X6) 1
      have SD := SV.out.bel D0
      have BD := BV.out.bel D0
      obtain ⟨nO, hO⟩ := SD.outs
      obtain ⟨nT, hT⟩ := SD.there
      obtain ⟨W1, e1, hr1, hM1, hT1, hB1⟩ := MapIs.entry (t := 78) (e := 88) hO (int_keys Tryz.underlying3) Tryz.underlying78 (zeroOut _) (x2 : Int)
      obtain ⟨W2, hr2, hM2, hT2⟩ := MapIs.entryStore (t := 78) (e := 88) hM1 (int_keys Tryz.underlying3) Tryz.underlying78 (x2 : Int) hB1 (.agg #[.string ⟨x1.toArray⟩, .string ⟨#[]⟩, .int .i64 0, .int .i64 (x5 : Int), .int .i64 (x2 : Int), .string ⟨x3.toArray⟩, .int .i64 x4])
      have U1 : Turns (fun i => i = O ∨ i = T) X6.drew W1 := Turns.of_map hT1 (.inl rfl)
      have U2 : Turns (fun i => i = O ∨ i = T) X6.drew W2 := U1.then (Turns.of_map hT2 (.inl rfl))
      have hT2m := (hT.turns (Turns.of_map (S := fun i => i = O) hT1 rfl) (fun e => SD.ne e.symm)).turns (Turns.of_map (S := fun i => i = O) hT2 rfl) (fun e => SD.ne e.symm)
      obtain ⟨W3, e3, hr3, hM3, hT3, hB3⟩ := MapIs.entry (t := 79) (e := 3) hT2m (str_keys Tryz.underlying9) Tryz.underlying79 (zeroIntE _) (⟨x1.toArray⟩ : ByteArray)
      obtain ⟨W4, hr4, hM4, hT4⟩ := MapIs.entryStore (t := 79) (e := 3) hM3 (str_keys Tryz.underlying9) Tryz.underlying79 (⟨x1.toArray⟩ : ByteArray) hB3 (.int .i64 (x2 : Int))
      have U3 : Turns (fun i => i = O ∨ i = T) X6.drew W3 := U2.then (Turns.of_map hT3 (.inr rfl))
      have U4 : Turns (fun i => i = O ∨ i = T) X6.drew W4 := U3.then (Turns.of_map hT4 (.inr rfl))
      have nqm : ¬ (q = O ∨ q = T) := by rintro (e | e); exact hO.ne_cells SD.blk e.symm; exact hT.ne_cells SD.blk e.symm
      have nbm : ¬ (w.heap.size = O ∨ w.heap.size = T) := by rintro (e | e); exact hO.ne_cells BD e.symm; exact hT.ne_cells BD e.symm
      have hOl := hM2
      have f0 := away_s SD.blk BD
      have f1 := away_s (SD.blk.turns U1 nqm) (BD.turns U1 nbm)
      have f2 := away_s (SD.blk.turns U2 nqm) (BD.turns U2 nbm)
      have f3 := away_s (SD.blk.turns U3 nqm) (BD.turns U3 nbm)
      have f4 := away_s (SD.blk.turns U4 nqm) (BD.turns U4 nbm)
      have hM4O := hM2.turns ((Turns.of_map (S := fun i => i = T) hT3 rfl).then (Turns.of_map (S := fun i => i = T) hT4 rfl)) SD.ne
      have K4 := Lib.hid (BD.turns U4 nbm)
      have Z4 : Hid (QS W4 q most grace next wv ts O T (updI om (x2 : Int) (⟨⟨⟨x1.toArray⟩, ⟨#[]⟩, 0, (x5 : Int)⟩, (x2 : Int), ⟨x3.toArray⟩, x4⟩ : Ot)) (updS tm ⟨x1.toArray⟩ (x2 : Int))) := Lib.hid (away_q SD U4 (fun g hg e => e.elim (fun e => own_ne_map SD.row hg hO e) (fun e => own_ne_map SD.row hg hT e)) nqm hM4O hM4)
      have U5 := Lib.hid (TV.out.trans (T := fun i => QSet q wv O T i ∨ i = r) ((Turns.of_below D0).then (U4.mono (fun i _ e => e.elim (fun e => .inl (.inr (.inl e))) (fun e => .inl (.inr (.inr (.inl e)))))))  (fun i _ e => e)) 
      have Y4 := Lib.hid ((YV.out.below D0).turns U4 (fun e => e.elim (fun e => hne O (.inr (.inl rfl)) e.symm) (fun e => hne T (.inr (.inr (.inl rfl))) e.symm)) (fun ad e h0 e2 => hin ad e h0 (e2.elim (fun e => .inr (.inl e)) (fun e => .inr (.inr (.inl e))))))
      unfold kInt goInt at hr1
      unfold goInt at hr2 hr4
      unfold kStr goInt at hr3
      clear D0 SD BD hO hT hM1 hT1 hB1 hM2 hT2 U1 U2 hT2m hM3 hT3 hB3 hM4 hT4 U3 U4 nqm nbm hOl hM4O
      go_region_held3 (fun w' => w'.cell? ⟨q, 4, none⟩ = some (.map (some O)) ∧ w'.cell? ⟨q, 5, none⟩ = some (.map (some T)) ∧ w'.cell? ⟨w.heap.size, 0, none⟩ = some (.string ⟨x1.toArray⟩) ∧ w'.cell? ⟨w.heap.size, 1, none⟩ = some (.string ⟨#[]⟩) ∧ w'.cell? ⟨w.heap.size, 2, none⟩ = some (.int .i64 0) ∧ w'.cell? ⟨w.heap.size, 3, none⟩ = some (.int .i64 (x5 : Int)) ∧ w'.cell? ⟨w.heap.size, 4, none⟩ = some (.int .i64 (x2 : Int)) ∧ w'.cell? ⟨w.heap.size, 5, none⟩ = some (.string ⟨x3.toArray⟩) ∧ w'.cell? ⟨w.heap.size, 6, none⟩ = some (.int .i64 x4)) (first | exact f0 | exact f1 | exact f2 | exact f3 | exact f4) (fail)
      clear hr1 hr2 hr3 hr4 f0 f1 f2 f3 f4
      have t4 := K4.out.cell 4
      simp only [List.getElem?_cons_succ, List.getElem?_cons_zero] at t4
      go_wp2_with fail
      go_ret
      refine ⟨U5.out, .inr (.inr (.inr ?_))⟩
      rw [HT.out]
      exact ⟨rfl, htm, HBD.out, rfl, Y4.out, Z4.out⟩
  have hb : ((n5 : Int) != 0) = true := by rw [bne_iff_ne]; omega
  go_wp2_with (go_at_call 62; refine HB.out.mono ?_; rintro e w5 ⟨rfl, h5, g5⟩; have E5 := Lib.hid h5; have G5 := Lib.hid g5; have K5 := Lib.hid (B4.out.grown G5.out hbr); have f := K5.out.fz 3; have d := K5.out.cell 3; simp only [List.getElem?_cons_succ, List.getElem?_cons_zero] at d; have c2 := (E5.out.turns (Turns.of_set (S := fun i => i = w.heap.size) w5 ⟨w.heap.size, 3, none⟩ (.int .i64 (x5 : Int)) rfl) (fun e => hbr e.symm) (fun ad e h0 e2 => by have := HE.out.inn.lt ad e h0; omega)).c2; clear h5 g5)
  have B5 := Lib.hid (K5.out.set 3 (.int .i64 (x5 : Int)))
  simp only [List.set_cons_succ, List.set_cons_zero] at B5
  have Y5 := Lib.hid (E5.out.turns (Turns.of_set (S := fun i => i = w.heap.size) w5 ⟨w.heap.size, 3, none⟩ (.int .i64 (x5 : Int)) rfl) (fun e => hbr e.symm) (fun ad e h0 e2 => by have := HE.out.inn.lt ad e h0; omega))
  have T5 := Lib.hid ((T4.out.then (Turns.of_grown G5.out (fun r' e => by injection e with e; exact .inl e.symm))).then (Turns.of_set (S := fun i => i = r ∨ i = w.heap.size) w5 ⟨w.heap.size, 3, none⟩ (.int .i64 (x5 : Int)) (.inr rfl)))
  clear f d HB
  generalize w5.setCell ⟨w.heap.size, 3, none⟩ (.int .i64 (x5 : Int)) = X5 at *
  go_ret
  refine ⟨T5.out.mono (fun i hi e => e.elim .inr (fun e => by omega)), .inl ?_⟩
  rw [HT.out]
  exact ⟨Nat.ne_of_gt hn, rfl, Y5.out⟩
end Go.Proofs.YtpbheicfplpemaaGreat
