/- The law's told: a queue tells itself as the document's. -/
import Derived.Test.YtpbheicfplpemaaGreatRqTell
import Derived.Test.YtpbheicfplpemaaGreatRqBytes
import Derived.Test.YtpbheicfplpemaaGreatQuBytesQ
import Derived.Test.YtpbheicfplpemaaGreatQuOuts
import Derived.Deep.RegionHeld3
namespace Go.Proofs.YtpbheicfplpemaaGreat
open Go.RowKit

theorem in_own {w : World} {H n c : Nat} {A : Option Addr} {l : List UInt8} (h : w.ownsRow H 5 1 (.slice A n c) n (Cd.bytesV l)) (hn : n = l.length) : In w A n c l := by
  subst hn
  rcases h.2 with ⟨e, h0⟩ | ⟨g, cap, cur, e, hg, hh, h1, h2, hs, ht⟩
  · injection e with e1 _ e2
    subst e1 e2
    have hl : l = [] := List.eq_nil_of_length_eq_zero h0
    subst hl
    exact ⟨Bs.nil _, (fun ad e _ => by cases e), ⟨Nat.le_refl _, Nat.zero_le _⟩⟩
  · injection e with e1 _ e2
    subst e1 e2
    exact ⟨Bs.of_own h rfl, (fun ad e _ => by injection e with e; subst e; exact (Array.getElem?_eq_some_iff.1 hh).1), h1, h2⟩
/-- a task that is out, but for what is not told of it -/
def strip (x : Ot) : Ot := ⟨⟨x.tk.key, ⟨#[]⟩, 0, x.tk.att⟩, x.token, x.worker, x.until_⟩
theorem strip_ou (zs : List Ot) : (zs.map strip).flatMap ouC = zs.flatMap ouC := by rw [List.flatMap_map]; rfl
theorem strip_ot (zs : List Ot) : (zs.map strip).flatMap otB = zs.flatMap otB := by rw [List.flatMap_map]; rfl
theorem strip_min (zs : List Ot) : minU (zs.map strip) = minU zs := by
  cases zs with
  | nil => rfl
  | cons z zs =>
    show (zs.map strip).foldl (fun m y => min m y.until_) (strip z).until_ = zs.foldl (fun m y => min m y.until_) z.until_
    rw [List.foldl_map]
    rfl
theorem alike_len {Z zs : List Ot} (h : Z.map strip = zs.map strip) : Z.length = zs.length := by have := congrArg List.length h; simpa using this
theorem own_cell {w : World} {base n g cap size : Nat} {e : TypeId} {xs : List Value} (h : w.ownsRow base e size (.slice (some ⟨g, 0, none⟩) n cap) n xs) {j : Nat} (hj : j < n * size) : ∃ u, w.cell? ⟨g, j, none⟩ = some u := by
  have := h.cellAt j hj
  have hl : j < xs.length := by have := h.1; omega
  rw [List.getElem?_eq_getElem hl] at this
  exact ⟨_, this⟩
set_option maxRecDepth 20000 in
set_option maxHeartbeats 16000000 in
theorem told_any (w : World) (q : Nat) (most grace next : Int) (wv : Value) (ts : List Tk) (O T : Nat) (om : Int → Option Ot) (tm : ByteArray → Option Int) (h : QS w q most grace next wv ts O T om tm) (zs : List Ot) (hz : OutsS om zs) (hle : zs.length ≤ 100000) (ht : ∀ t ∈ ts, TkF t) (ho : ∀ x ∈ zs, OtF x)
    (hm : 0 ≤ most ∧ most ≤ 4611686018427387904) (hg : -9223372036854775808 ≤ grace ∧ grace ≤ 9223372036854775807) (hn : next ≤ 4611686018427387904)
    (r : Nat) (iv' av : Value) (I Z : List Ot) (hr : RQ w r most grace (next - 1) iv' av I Z) (hI : I.map (·.tk) = ts) (hZ : Z.map strip = zs.map strip) :
    Calls Tryz.prog 8 #[.pointer (some ⟨q, 0, none⟩), .pointer (some ⟨r, 0, none⟩)] w fun e w' => e = .returned (.bool true) ∧ Below w.heap.size w w' := by
  have hlz := alike_len hZ
  have hli : I.length = ts.length := by rw [← hI, List.length_map]
  have hou : Z.flatMap ouC = zs.flatMap ouC := by rw [← strip_ou Z, hZ, strip_ou]
  have hot : Z.flatMap otB = zs.flatMap otB := by rw [← strip_ot Z, hZ, strip_ot]
  have hmi : minU Z = minU zs := by rw [← strip_min Z, hZ, strip_min]
  have hoz : ∀ x ∈ Z, AwF x := fun x hx => by
    have : strip x ∈ zs.map strip := by rw [← hZ]; exact List.mem_map.2 ⟨x, hx, rfl⟩
    obtain ⟨y, hy, e⟩ := List.mem_map.1 this
    have f := ho y hy
    have e1 := congrArg (fun x : Ot => x.tk.key) e
    have e2 := congrArg Ot.token e
    have e3 := congrArg Ot.worker e
    have e4 := congrArg Ot.until_ e
    have e5 := congrArg (fun x : Ot => x.tk.att) e
    simp only [strip] at e1 e2 e3 e4 e5
    have f2 := f.tok
    unfold OtOk at f2
    exact ⟨⟨by rw [← e1]; exact f.key, by unfold OtOk; rw [← e2]; exact f2, by rw [← e3]; exact f.who, by rw [← e4]; exact f.un, by rw [← e5]; exact f.at_⟩⟩
  have hti : ∀ x ∈ I, IdF x := fun x hx => ⟨ht _ (by rw [← hI]; exact List.mem_map.2 ⟨x, hx, rfl⟩)⟩
  have hok : ∀ x ∈ zs, OtOk x := fun x hx => (ho x hx).tok
  have hkeys : (I.map fun t => Value.string t.tk.key) = ts.map fun t => Value.string t.key := by rw [← hI, List.map_map]; rfl
  have hqb : qB most grace (next - 1 + 1) (I.map (·.tk)) Z = qB most grace next ts zs := by
    rw [hI]; unfold qB; rw [hot, hlz, show next - 1 + 1 = next from by omega]
  have HQ := Lib.hid h
  have HR := Lib.hid hr
  have HW := Lib.hid (waitsQ w q most grace next wv ts O T om tm h)
  have hfew := h.few
  have hpos := h.pos
  have HLo := Lib.hid h.lts
  have HLr := Lib.hid hr.lts
  have HV : Hid (∀ X, Below w.heap.size w X → Calls Tryz.prog 31 #[.pointer (some ⟨r, 0, none⟩)] X fun e W' => ∃ v, e = .returned v ∧ W'.ownsRow X.heap.size 9 1 v ts.length (ts.map fun t => .string t.key) ∧ Below X.heap.size X W') := Lib.hid (fun X hX => by
    have := rqWaits X r most grace (next - 1) iv' av I Z (hr.bel hX)
    rw [hkeys, hli] at this
    exact this)
  have HO1 : Hid (∀ X, QS X q most grace next wv ts O T om tm → Calls Tryz.prog 32 #[.pointer (some ⟨q, 0, none⟩)] X fun e W' => ∃ v, e = .returned v ∧ W'.ownsRow X.heap.size 74 3 v zs.length (zs.flatMap ouC) ∧ Below X.heap.size X W') := Lib.hid (fun X hX => outsQ X q most grace next wv ts O T om tm hX zs hz hok (by omega))
  have HO2 : Hid (∀ X, RQ X r most grace (next - 1) iv' av I Z → Calls Tryz.prog 34 #[.pointer (some ⟨r, 0, none⟩)] X fun e W' => ∃ v, e = .returned v ∧ W'.ownsRow X.heap.size 74 3 v zs.length (zs.flatMap ouC) ∧ Below X.heap.size X W') := Lib.hid (fun X hX => by
    have := rqOuts X r most grace (next - 1) iv' av I Z hX (fun x hx => (hoz x hx).ot.un.2)
    rw [hou, hlz] at this
    exact this)
  have HN1 : Hid (∀ X, QS X q most grace next wv ts O T om tm → Calls Tryz.prog 35 #[.pointer (some ⟨q, 0, none⟩)] X fun e W' => e = .returned (.tuple #[.int .i64 (minU zs), .bool (decide (0 < zs.length))]) ∧ Below X.heap.size X W') := Lib.hid (fun X hX => nextQ X q most grace next wv ts O T om tm hX zs hz hok (by omega))
  have HN2 : Hid (∀ X, RQ X r most grace (next - 1) iv' av I Z → Calls Tryz.prog 36 #[.pointer (some ⟨r, 0, none⟩)] X fun e W' => e = .returned (.tuple #[.int .i64 (minU zs), .bool (decide (0 < zs.length))]) ∧ Below X.heap.size X W') := Lib.hid (fun X hX => by
    have := rqNext X r most grace (next - 1) iv' av I Z hX
    rw [hmi, hlz] at this
    exact this)
  have HB1 : Hid (∀ X, QS X q most grace next wv ts O T om tm → Calls Tryz.prog 37 #[.pointer (some ⟨q, 0, none⟩)] X (Made X (qB most grace next ts zs))) := Lib.hid (fun X hX => bytesQ X q most grace next wv ts O T om tm hX zs hz hle ht ho hm hg hn)
  have HB2 : Hid (∀ X, RQ X r most grace (next - 1) iv' av I Z → Calls Tryz.prog 38 #[.pointer (some ⟨r, 0, none⟩)] X (Made X (qB most grace next ts zs))) := Lib.hid (fun X hX => by
    have := rqBytes X r most grace (next - 1) iv' av I Z hX hti hoz hm hg (by omega)
    rw [hqb] at this
    exact this)
  clear h hz ht ho hr hI hZ hlz hou hot hmi hoz hti hok hkeys hqb
  go_enter Tryz.func8, Tryz.ntmps8
  go_wp2_with fail
  refine HW.out.mono ?_
  rintro e w1 ⟨v1, rfl, ho1, hb⟩
  obtain ⟨A1, c1, rfl⟩ := own_slice' ho1
  have HO := Lib.hid ho1
  have HB := Lib.hid hb
  have HL1 := Lib.hid (fun g (e : (Value.slice A1 ts.length c1).ownBlock = some g) => (own_lt ho1 e).2)
  clear ho1 hb HW
  have HVX := Lib.hid (HV.out w1 HB.out)
  go_wp2_with fail
  refine HVX.out.mono ?_
  rintro e w2 ⟨v2, rfl, ho2, hb⟩
  obtain ⟨A2, c2, rfl⟩ := own_slice' ho2
  have HOV := Lib.hid ho2
  have HO := Lib.hid (own_turns HO.out (.of_below (S := fun _ => False) hb) (fun _ _ => id))
  have HBw := Lib.hid hb
  have HB := Lib.hid (HB.out.trans (hb.mono HB.out.size))
  have hw1 := HB.out.size
  have HAp : Hid (∀ g1 g2, A1 = some ⟨g1, 0, none⟩ → A2 = some ⟨g2, 0, none⟩ → 0 < ts.length → g1 ≠ g2) := Lib.hid (fun g1 g2 e1 e2 h0 e => by
    subst e1 e2
    have h3 := own_lt ho2 (g := g2) rfl
    have h7 := HL1.out g1 rfl
    omega)
  have HQ2 := Lib.hid (HQ.out.bel HB.out)
  have HR2 := Lib.hid (HR.out.bel HB.out)
  have HLn := Lib.hid (lenQ w2 q most grace next wv ts O T om tm HQ2.out)
  clear ho2 hb HVX HV
  go_wp2_with fail
  refine HLn.out.mono ?_
  rintro e w' ⟨rfl, hw⟩; subst w'
  have HQ := HQ2
  have HR := HR2
  clear HLn HQ2 HR2
  generalize hnn : ts.length = n at *
  have HNN := Lib.hid hnn
  clear hnn
  go_wp2_with fail
  go_loopw [7] (fun iv wr => ∃ (i : Nat) (xs : List Value), i ≤ n ∧ iv = .int .i64 (i : Int) ∧ Hid (wr.ownsRow w.heap.size 9 1 (.slice A1 n c1) n xs) ∧ Hid (∀ j, i ≤ j → xs[j]? = (ts.map fun t => Value.string t.key)[j]?) ∧ Hid (wr.ownsRow w1.heap.size 9 1 (.slice A2 n c2) n (ts.map fun t => .string t.key)) ∧ Hid (QS wr q most grace next wv ts O T om tm) ∧ Hid (RQ wr r most grace (next - 1) iv' av I Z) ∧ Hid (Below w.heap.size w wr)) (fun iv _ => n - (intOf iv).toNat)
  case atStart => exact ⟨0, _, Nat.zero_le _, rfl, HO, Lib.hid (fun _ _ => rfl), HOV, HQ, HR, HB⟩
  case round =>
    clear HO HOV HQ HR HB
    obtain ⟨i, xs, hi, rfl, HO, HX, HOV, HQ, HR, HB⟩ := hrel
    by_cases hlt : i < n
    · have hlt1 : (i : Int) < (n : Int) := by omega
      obtain ⟨g, c0, e, vb, hgl, hn1, hm1⟩ := own_at HO.out (by omega)
      injection e with e1 _ e3
      subst e1 e3
      obtain ⟨g2, c3, e, vb2, hgl2, hn2, hm2⟩ := own_at HOV.out (by omega)
      injection e with e1 _ e3
      subst e1 e3
      have hne := HAp.out g g2 rfl rfl (by omega)
      have d0 : wr.cell? ⟨g, i, none⟩ = some (.string (ts[i]'(by rw [HNN.out]; exact hlt)).key) := by
        have h1 := HO.out.cellAt i (by omega)
        rw [h1, HX.out i (Nat.le_refl _), List.getElem?_map, List.getElem?_eq_getElem (by rw [HNN.out]; exact hlt)]
        rfl
      have d1 : wr.cell? ⟨g2, i, none⟩ = some (.string (ts[i]'(by rw [HNN.out]; exact hlt)).key) := by
        have h1 := HOV.out.cellAt i (by omega)
        rw [h1, List.getElem?_map, List.getElem?_eq_getElem (by rw [HNN.out]; exact hlt)]
        rfl
      have z0 := HO.out.frozenAt i
      have hgb := (own_lt HO.out vb).1
      unfold maxLen at hm1 hm2
      generalize (ts[i]'(by rw [HNN.out]; exact hlt)).key = ky at *
      go_wp2_with fail
      go_quiet (fail)
      have hbq := below_drewN' (Below.refl wr.heap.size wr) nq
      have HO := Lib.hid (own_turns HO.out (.of_below (S := fun _ => False) hbq) (fun _ _ => id))
      have HOV := Lib.hid (own_turns HOV.out (.of_below (S := fun _ => False) hbq) (fun _ _ => id))
      have HB := Lib.hid (below_trans' HB.out hbq)
      have HQ := Lib.hid (HQ.out.bel hbq)
      have HR := Lib.hid (HR.out.bel hbq)
      obtain ⟨u0, d0⟩ := own_cell HO.out (j := i) (by omega)
      have z0 := HO.out.frozenAt i
      clear hbq d1
      generalize wr.drewN nq = V at *
      go_wp2_with fail
      have TS : Turns (fun j => j = g) V (V.setCell ⟨g, i, none⟩ (.string ⟨#[119, 114, 105, 116, 116, 101, 110, 32, 111, 118, 101, 114]⟩)) := Turns.of_set (S := fun j => j = g) V ⟨g, i, none⟩ _ rfl
      refine ⟨⟨i + 1, _, by omega, by go_num, Lib.hid (HO.out.stored i _).1, Lib.hid (fun j hj => ?_), Lib.hid (own_turns HOV.out TS (fun g' hg' e => ?_)), Lib.hid (HQ.out.keep TS (fun j hj e => ?_)), Lib.hid (HR.out.keep TS (fun j hj e => ?_)), Lib.hid (HB.out.setCell (p := ⟨g, i, none⟩) hgb _)⟩, ?_⟩
      · rw [List.getElem?_set_ne (by omega)]; exact HX.out j (by omega)
      · simp [Value.ownBlock] at hg'; have e2 : g' = g := e; omega
      · have := HLo.out j hj; have e2 : j = g := e; omega
      · have := HLr.out j hj; have e2 : j = g := e; omega
      · simp [intOf]; omega
    · obtain rfl : i = n := by omega
      have hlt1 : ¬ (i : Int) < (i : Int) := by omega
      clear HO HX HOV HAp HL1 HBw
      have HBr := HB
      have HOX := Lib.hid (HO1.out wr HQ.out)
      go_wp2_with fail
      refine HOX.out.mono ?_
      rintro e w3 ⟨v3, rfl, ho3, hb3⟩
      obtain ⟨A3, c3, rfl⟩ := own_slice' ho3
      have HP := Lib.hid ho3
      have HB := Lib.hid (HB.out.trans (hb3.mono HB.out.size))
      have HQ := Lib.hid (HQ.out.bel hb3)
      have HR := Lib.hid (HR.out.bel hb3)
      have hwr : w.heap.size ≤ wr.heap.size := HBr.out.size
      clear ho3 hb3 HOX HO1
      have HOX := Lib.hid (HO2.out w3 HR.out)
      go_wp2_with fail
      refine HOX.out.mono ?_
      rintro e w4 ⟨v4, rfl, ho4, hb4⟩
      obtain ⟨A4, c4, rfl⟩ := own_slice' ho4
      have HP2 := Lib.hid ho4
      have HP := Lib.hid (own_turns HP.out (.of_below (S := fun _ => False) hb4) (fun _ _ => id))
      have HB := Lib.hid (HB.out.trans (hb4.mono HB.out.size))
      have HQ := Lib.hid (HQ.out.bel hb4)
      have HR := Lib.hid (HR.out.bel hb4)
      clear ho4 hb4 HOX HO2
      have HSm := Lib.hid (rqSame w4 _ _ zs.length _ _ zs rfl HP.out HP2.out)
      go_wp2_with fail
      refine HSm.out.mono ?_
      rintro e w5 ⟨rfl, nq, hw5⟩
      have hbq : Below w4.heap.size w4 w5 := by rw [hw5]; exact below_drewN' (Below.refl _ _) nq
      have HP := Lib.hid (own_turns HP.out (.of_below (S := fun _ => False) hbq) (fun _ _ => id))
      have HB := Lib.hid (HB.out.trans (hbq.mono HB.out.size))
      have HQ := Lib.hid (HQ.out.bel hbq)
      have HR := Lib.hid (HR.out.bel hbq)
      clear hw5 hbq HSm HP2
      generalize hzl : zs.length = zl at *
      have HZL := Lib.hid hzl
      clear hzl
      go_wp2_with fail
      have hwb : w.heap.size ≤ wr.heap.size := hwr
      generalize wr.heap.size = b1 at *
      go_loopw [9] (fun iv wr => ∃ (j : Nat) (xs : List Value), j ≤ zl ∧ iv = .int .i64 (j : Int) ∧ Hid (wr.ownsRow b1 74 3 (.slice A3 zl c3) zl xs) ∧ Hid (QS wr q most grace next wv ts O T om tm) ∧ Hid (RQ wr r most grace (next - 1) iv' av I Z) ∧ Hid (Below w.heap.size w wr)) (fun iv _ => zl - (intOf iv).toNat)
      case atStart => exact ⟨0, _, Nat.zero_le _, rfl, HP, HQ, HR, HB⟩
      case round =>
        clear HP HQ HR HB HBr
        obtain ⟨j, ys, hj, rfl, HP, HQ, HR, HB⟩ := hrel
        by_cases hjt : j < zl
        · have hjt1 : (j : Int) < (zl : Int) := by omega
          obtain ⟨g, c0, e, vb, hgl, hn1, hm1⟩ := own_at HP.out (by omega)
          injection e with e1 _ e3
          subst e1 e3
          obtain ⟨u0, d0⟩ := own_cell HP.out (j := j * 3) (by omega)
          obtain ⟨u1, d1⟩ := own_cell HP.out (j := j * 3 + 1) (by omega)
          obtain ⟨u2, d2⟩ := own_cell HP.out (j := j * 3 + 2) (by omega)
          have z0 := HP.out.frozenAt (j * 3)
          have z1 := HP.out.frozenAt (j * 3 + 1)
          have z2 := HP.out.frozenAt (j * 3 + 2)
          unfold maxLen at hm1
          have hgb := (own_lt HP.out vb).1
          go_wp2_with fail
          have TS : Turns (fun j => j = g) wr (((wr.setCell ⟨g, j * 3, none⟩ (.string ⟨#[119, 114, 105, 116, 116, 101, 110, 32, 111, 118, 101, 114]⟩)).setCell ⟨g, j * 3 + 1, none⟩ (.int .i64 0)).setCell ⟨g, j * 3 + 2, none⟩ (.int .i64 0)) := ((Turns.of_set (S := fun j => j = g) wr ⟨g, j * 3, none⟩ _ rfl).then (Turns.of_set (S := fun j => j = g) _ ⟨g, j * 3 + 1, none⟩ _ rfl)).then (Turns.of_set (S := fun j => j = g) _ ⟨g, j * 3 + 2, none⟩ _ rfl)
          refine ⟨⟨j + 1, _, by omega, by go_num, Lib.hid (((HP.out.stored (j * 3) _).1.stored (j * 3 + 1) _).1.stored (j * 3 + 2) _).1, Lib.hid (HQ.out.keep TS (fun x hx e => ?_)), Lib.hid (HR.out.keep TS (fun x hx e => ?_)), Lib.hid ?_⟩, ?_⟩
          · have := HLo.out x hx; have e2 : x = g := e; omega
          · have := HLr.out x hx; have e2 : x = g := e; omega
          · exact ((HB.out.setCell (p := ⟨g, j * 3, none⟩) (Nat.le_trans hwb hgb) _).setCell (p := ⟨g, j * 3 + 1, none⟩) (Nat.le_trans hwb hgb) _).setCell (p := ⟨g, j * 3 + 2, none⟩) (Nat.le_trans hwb hgb) _
          · simp [intOf]; omega
        · obtain rfl : j = zl := by omega
          have hjt1 : ¬ (j : Int) < (j : Int) := by omega
          clear HP hjt
          have HNX := Lib.hid (HN1.out wr HQ.out)
          go_wp2_with fail
          refine HNX.out.mono ?_
          rintro e w6 ⟨rfl, hb6⟩
          have HB := Lib.hid (HB.out.trans (hb6.mono HB.out.size))
          have HQ := Lib.hid (HQ.out.bel hb6)
          have HR := Lib.hid (HR.out.bel hb6)
          clear hb6 HNX HN1
          have HNX := Lib.hid (HN2.out w6 HR.out)
          go_wp2_with fail
          refine HNX.out.mono ?_
          rintro e w7 ⟨rfl, hb7⟩
          have HB := Lib.hid (HB.out.trans (hb7.mono HB.out.size))
          have HQ := Lib.hid (HQ.out.bel hb7)
          have HR := Lib.hid (HR.out.bel hb7)
          clear hb7 HNX HN2
          generalize minU zs = mz at *
          generalize decide (0 < j) = pz at *
          generalize qB most grace next ts zs = lq at *
          have hd7 := below_drewN' (Below.refl w7.heap.size w7) 1
          have HQd := Lib.hid (HQ.out.bel hd7)
          have HRd := Lib.hid (HR.out.bel hd7)
          have HBd := Lib.hid (below_trans' HB.out hd7)
          clear hd7 HQ HR HB
          go_wp2_with fail
          go_region_held (fun _ => True) (trivial) (first | (go_at_call 37; refine (HB1.out _ HQd.out).mono ?_; clear HB1; rintro e w8 ⟨v8, rfl, ho8, hb8⟩; obtain ⟨A8, c8, rfl⟩ := own_slice' ho8; have HR8 := Lib.hid (HRd.out.bel hb8); have HB8 := Lib.hid (below_trans' HBd.out hb8); have K1 : Hid (∀ W, Below w8.heap.size w8 W → (convert 22 9 (.slice A8 lq.length c8)).run Tryz.prog W = .ok (.string ⟨lq.toArray⟩) W) := Lib.hid (fun W hW => ((in_own ho8 rfl).below hW).conv); have k8 := K1.out w8 (Below.refl _ _); clear ho8 hb8) | (go_at_call 38; refine (HB2.out _ HR8.out).mono ?_; clear HB2; rintro e w9 ⟨v9, rfl, ho9, hb9⟩; obtain ⟨A9, c9, rfl⟩ := own_slice' ho9; have HB9 := Lib.hid (below_trans' HB8.out hb9); have k9 := K1.out w9 hb9; have k10 := (in_own ho9 rfl).conv; unfold strV at k10; clear ho9 hb9))
          all_goals
            go_wp2_with fail
            go_ret
            exact ⟨rfl, HB9.out⟩
end Go.Proofs.YtpbheicfplpemaaGreat
