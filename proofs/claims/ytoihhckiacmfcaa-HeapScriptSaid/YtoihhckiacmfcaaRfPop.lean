/- The document's heap in memory: Peek, Pop, Remove, Change. -/
import Derived.Test.YtoihhckiacmfcaaRfMore
namespace Go.Proofs.Ytoihhckiacmfcaa
open Go.RowKit

theorem results_C2 {P : Program} {fn : Func} {p u : Tmp} {ty : TypeId} (h : fn.results = #[.cell p ty, .tmp u]) (tmps : Array Value) (w : World) (g : Nat) (t : TypeId) (cs : Array Value) (fr : Nat × Nat) (d : TypeDesc)
    (hp : tmps.getD p undef = .pointer (some ⟨g, 0, none⟩)) (hg : w.heap[g]? = some (.cells cs t fr))
    (hu : P.underlying ty = some d) (hd : (match d with | .struct _ | .array _ _ => true | _ => false) = true) (hi : (P.info? ty).map (·.size) = some cs.size) :
    (results fn tmps).run P w = .ok (.tuple #[.agg cs, tmps.getD u undef]) w := by
  have hp' : tmps[p]?.getD undef = .pointer (some ⟨g, 0, none⟩) := by simpa using hp
  simp [results, h, hp', asAddr, run_loadVar_row w g t ty cs fr d hg hu hd hi]
theorem Blk.set3 {w W : World} {t : TypeId} {u0 u1 u2 : Value} {g : Nat} (h : Blk W g t [u0, u1, u2]) (v0 v1 v2 : Value) : Blk (((W.setCell ⟨g, 0, none⟩ v0).setCell ⟨g, 1, none⟩ v1).setCell ⟨g, 2, none⟩ v2) g t [v0, v1, v2] := ((h.set 0 v0).set 1 v1).set 2 v2
theorem below_set3 {B g : Nat} {w W : World} (h : Below B w W) (hg : B ≤ g) (v0 v1 v2 : Value) : Below B w (((W.setCell ⟨g, 0, none⟩ v0).setCell ⟨g, 1, none⟩ v1).setCell ⟨g, 2, none⟩ v2) :=
  ((h.setCell (p := ⟨g, 0, none⟩) hg v0).setCell (p := ⟨g, 1, none⟩) hg v1).setCell (p := ⟨g, 2, none⟩) hg v2

set_option maxRecDepth 20000 in
set_option maxHeartbeats 4000000 in
theorem rpeek0 (w : World) (r : Nat) (rv : Value) (nx : Nat) (h : RS w r rv [] nx) :
    Calls Try.prog 24 #[.pointer (some ⟨r, 0, none⟩)] w fun e w' => e = .returned (.tuple #[.agg #[.int .i64 0, .int .i64 0, .int .i64 0], .bool false]) ∧ Below w.heap.size w w' := by
  have HF := Lib.hid (rfirst (w.alloc (.cells #[.int .i64 0, .int .i64 0, .int .i64 0] 48)) r rv [] nx (h.bel (Below.new _ _)))
  clear h
  have W0 := Blk.new w 48 [.int .i64 0, .int .i64 0, .int .i64 0]
  have hB := Below.new w (.cells #[.int .i64 0, .int .i64 0, .int .i64 0] 48)
  go_enter Try.func24, Try.ntmps24
  go_wp2_with fail
  refine HF.out.mono ?_
  rintro e w1 ⟨a, rfl, hF, hb⟩
  obtain ⟨_, rfl⟩ : ([] : List Tri).length = 0 ∧ a = -1 := by
    rcases hF with ⟨h1, h2⟩ | ⟨q, hq, _⟩
    · exact ⟨h1, h2⟩
    · simp at hq
  have K := W0.bel hb
  have HB := Lib.hid (hB.trans (hb.mono hB.size))
  clear hF hb W0 hB
  have c0 := K.cell 0
  have c1 := K.cell 1
  have c2 := K.cell 2
  have z0 := K.fz 0
  have z1 := K.fz 1
  have z2 := K.fz 2
  simp only [List.getElem?_cons_succ, List.getElem?_cons_zero] at c0 c1 c2
  go_wp2_with fail
  refine bodyPost_ret (results_C2 (h := rfl) (g := w.heap.size) (t := 48) (cs := ([.int .i64 0, .int .i64 0, .int .i64 0] : List Value).toArray) (fr := (0, 0)) (hp := rfl) (hg := K.set3 (w := w) _ _ _) (hu := Try.underlying48) (hd := rfl) (hi := by kernel_rfl) _ _) rfl ?_
  exact ⟨rfl, below_set3 HB.out (Nat.le_refl _) _ _ _⟩

def Least (rs : List Tri) (q : Nat) : Prop := q < rs.length ∧ ∀ x ∈ rs, (gR rs q).1 < x.1 ∨ (gR rs q).1 = x.1 ∧ (gR rs q).2.1 ≤ x.2.1
def agR (x : Tri) : Value := .agg #[.int .i64 x.1, .int .i64 x.2.1, .int .i64 x.2.2]
def PeekY (w : World) (rs : List Tri) (e : Ending) (w' : World) : Prop := ∃ q, Least rs q ∧ e = .returned (.tuple #[agR (gR rs q), .bool true]) ∧ Below w.heap.size w w'
set_option maxRecDepth 20000 in
set_option maxHeartbeats 4000000 in
theorem rpeek1 (w : World) (r : Nat) (rv : Value) (rs : List Tri) (nx : Nat) (h : RS w r rv rs nx) (hr : Ris rs nx) (h0 : 0 < rs.length) :
    Calls Try.prog 24 #[.pointer (some ⟨r, 0, none⟩)] w (PeekY w rs) := by
  have H1 := Lib.hid (h.bel (Below.new w (.cells #[.int .i64 0, .int .i64 0, .int .i64 0] 48)))
  have HF := Lib.hid (rfirst _ r rv rs nx H1.out)
  have hrf := h.few
  clear h
  have W0 := Blk.new w 48 [.int .i64 0, .int .i64 0, .int .i64 0]
  have hB := Below.new w (.cells #[.int .i64 0, .int .i64 0, .int .i64 0] 48)
  go_enter Try.func24, Try.ntmps24
  go_wp2_with fail
  refine HF.out.mono ?_
  rintro e w1 ⟨a, rfl, hF, hb⟩
  obtain ⟨q, rfl, hq, hl⟩ := hF.least hr h0
  have HL : Hid (Least rs q) := Lib.hid ⟨hq, hl⟩
  have K := W0.bel hb
  have HB := Lib.hid (hB.trans (hb.mono hB.size))
  have h2 := H1.out.bel hb
  have q0 := h2.c0
  obtain ⟨g, cap, rfl, _, hg, hnc, hcm⟩ := own_at h2.row h0
  obtain ⟨b0, b1, b2⟩ := gR_cells h2.row rfl q hq
  have hqI : (q : Int) < (rs.length : Int) := by omega
  have hq0 : ¬ (q : Int) < 0 := by omega
  clear hF hb W0 hB hl H1 HF h2
  have c0 := K.cell 0
  have c1 := K.cell 1
  have c2 := K.cell 2
  have z0 := K.fz 0
  have z1 := K.fz 1
  have z2 := K.fz 2
  simp only [List.getElem?_cons_succ, List.getElem?_cons_zero] at c0 c1 c2
  go_wp2_with fail
  refine bodyPost_ret (results_C2 (h := rfl) (g := w.heap.size) (t := 48) (cs := ([.int .i64 (gR rs q).1, .int .i64 (gR rs q).2.1, .int .i64 (gR rs q).2.2] : List Value).toArray) (fr := (0, 0)) (hp := rfl) (hg := K.set3 (w := w) _ _ _) (hu := Try.underlying48) (hd := rfl) (hi := by kernel_rfl) _ _) rfl ?_
  exact ⟨q, HL.out, rfl, below_set3 HB.out (Nat.le_refl _) _ _ _⟩

set_option maxRecDepth 20000 in
set_option maxHeartbeats 4000000 in
theorem rpop0 (w : World) (r : Nat) (rv : Value) (nx : Nat) (h : RS w r rv [] nx) :
    Calls Try.prog 18 #[.pointer (some ⟨r, 0, none⟩)] w fun e w' => e = .returned (.tuple #[.agg #[.int .i64 0, .int .i64 0, .int .i64 0], .bool false]) ∧ Below w.heap.size w w' := by
  have HF := Lib.hid (rfirst (w.alloc (.cells #[.int .i64 0, .int .i64 0, .int .i64 0] 48)) r rv [] nx (h.bel (Below.new _ _)))
  clear h
  have W0 := Blk.new w 48 [.int .i64 0, .int .i64 0, .int .i64 0]
  have hB := Below.new w (.cells #[.int .i64 0, .int .i64 0, .int .i64 0] 48)
  go_enter Try.func18, Try.ntmps18
  go_wp2_with fail
  refine HF.out.mono ?_
  rintro e w1 ⟨a, rfl, hF, hb⟩
  obtain ⟨_, rfl⟩ : ([] : List Tri).length = 0 ∧ a = -1 := by
    rcases hF with ⟨h1, h2⟩ | ⟨q, hq, _⟩
    · exact ⟨h1, h2⟩
    · simp at hq
  have K := W0.bel hb
  have HB := Lib.hid (hB.trans (hb.mono hB.size))
  clear hF hb W0 hB
  have c0 := K.cell 0
  have c1 := K.cell 1
  have c2 := K.cell 2
  have z0 := K.fz 0
  have z1 := K.fz 1
  have z2 := K.fz 2
  simp only [List.getElem?_cons_succ, List.getElem?_cons_zero] at c0 c1 c2
  go_wp2_with fail
  refine bodyPost_ret (results_C2 (h := rfl) (g := w.heap.size) (t := 48) (cs := ([.int .i64 0, .int .i64 0, .int .i64 0] : List Value).toArray) (fr := (0, 0)) (hp := rfl) (hg := K.set3 (w := w) _ _ _) (hu := Try.underlying48) (hd := rfl) (hi := by kernel_rfl) _ _) rfl ?_
  exact ⟨rfl, below_set3 HB.out (Nat.le_refl _) _ _ _⟩

def RPopY (w : World) (r : Nat) (rv : Value) (rs : List Tri) (nx : Nat) (e : Ending) (w' : World) : Prop :=
  ∃ q, Least rs q ∧ e = .returned (.tuple #[agR (gR rs q), .bool true]) ∧ ∃ rv', RS w' r rv' (rs.eraseIdx q) nx ∧ NextR w rv rv' ∧ Turns (fun i => i = r) w w'
set_option maxRecDepth 20000 in
set_option maxHeartbeats 4000000 in
theorem rpop1 (w : World) (r : Nat) (rv : Value) (rs : List Tri) (nx : Nat) (h : RS w r rv rs nx) (hr : Ris rs nx) (h0 : 0 < rs.length) :
    Calls Try.prog 18 #[.pointer (some ⟨r, 0, none⟩)] w (RPopY w r rv rs nx) := by
  have H1 := Lib.hid (h.bel (Below.new w (.cells #[.int .i64 0, .int .i64 0, .int .i64 0] 48)))
  have HF := Lib.hid (rfirst _ r rv rs nx H1.out)
  have hrf := h.few
  have hrl := h.blk.lt
  have hlts := Lib.hid h.lts
  clear h
  have W0 := Blk.new w 48 [.int .i64 0, .int .i64 0, .int .i64 0]
  have hB := Below.new w (.cells #[.int .i64 0, .int .i64 0, .int .i64 0] 48)
  go_enter Try.func18, Try.ntmps18
  go_wp2_with fail
  refine HF.out.mono ?_
  rintro e w1 ⟨a, rfl, hF, hb⟩
  obtain ⟨q, rfl, hq, hl⟩ := hF.least hr h0
  have HL : Hid (Least rs q) := Lib.hid ⟨hq, hl⟩
  have K := Lib.hid (W0.bel hb)
  have HB := Lib.hid (hB.trans (hb.mono hB.size))
  have h2 := H1.out.bel hb
  have q0 := h2.c0
  obtain ⟨g, cap, rfl, _, hg, hnc, hcm⟩ := own_at h2.row h0
  obtain ⟨b0, b1, b2⟩ := gR_cells h2.row rfl q hq
  have hqI : (q : Int) < (rs.length : Int) := by omega
  have hq0 : ¬ (q : Int) < 0 := by omega
  have hb2 := Below.new w1 (.cells #[.int .i64 (gR rs q).1, .int .i64 (gR rs q).2.1, .int .i64 (gR rs q).2.2] 48)
  have HO := Lib.hid (rout _ r _ rs nx q (h2.bel hb2) hq)
  have hw1 : w.heap.size ≤ w1.heap.size := HB.out.size
  have hwlt := K.out.lt
  have KB := Lib.hid (Blk.new w1 48 [.int .i64 (gR rs q).1, .int .i64 (gR rs q).2.1, .int .i64 (gR rs q).2.2])
  have HB2 := Lib.hid (HB.out.trans (hb2.mono hw1))
  have K1 := Lib.hid (K.out.bel hb2)
  clear hF hb W0 hB hl H1 HF h2 hb2 K
  go_wp2_with fail
  refine HO.out.mono ?_
  rintro e w2 ⟨rfl, rv', s2, n2, t2⟩
  have S2 := Lib.hid s2
  have N2 := Lib.hid n2
  have T2 := Lib.hid t2
  have K2 := K1.out.turns t2 (by omega)
  have KB2 := KB.out.turns t2 (by omega)
  clear s2 n2 t2
  have c0 := K2.cell 0
  have c1 := K2.cell 1
  have c2 := K2.cell 2
  have z0 := K2.fz 0
  have z1 := K2.fz 1
  have z2 := K2.fz 2
  have d0 := KB2.cell 0
  have d1 := KB2.cell 1
  have d2 := KB2.cell 2
  simp only [List.getElem?_cons_succ, List.getElem?_cons_zero] at c0 c1 c2 d0 d1 d2
  go_wp2_with fail
  refine bodyPost_ret (results_C2 (h := rfl) (g := w.heap.size) (t := 48) (cs := ([.int .i64 (gR rs q).1, .int .i64 (gR rs q).2.1, .int .i64 (gR rs q).2.2] : List Value).toArray) (fr := (0, 0)) (hp := rfl) (hg := K2.set3 (w := w) _ _ _) (hu := Try.underlying48) (hd := rfl) (hi := by kernel_rfl) _ _) rfl ?_
  have TS : Turns (fun i => i = w.heap.size) w2 (((w2.setCell ⟨w.heap.size, 0, none⟩ (.int .i64 (gR rs q).1)).setCell ⟨w.heap.size, 1, none⟩ (.int .i64 (gR rs q).2.1)).setCell ⟨w.heap.size, 2, none⟩ (.int .i64 (gR rs q).2.2)) :=
    (((Turns.refl (fun i => i = w.heap.size) w2).set ⟨w.heap.size, 0, none⟩ _ (fun _ => rfl)).set ⟨w.heap.size, 1, none⟩ _ (fun _ => rfl)).set ⟨w.heap.size, 2, none⟩ _ (fun _ => rfl)
  refine ⟨q, HL.out, rfl, rv', S2.out.keep TS ?_, ?_, ?_⟩
  · rintro i (rfl | hi) e
    · omega
    · rcases N2.out i hi with h1 | h1
      · have := hlts.out i (.inr h1); omega
      · simp at h1; omega
  · intro g' hg'
    rcases N2.out g' hg' with h1 | h1
    · exact .inl h1
    · simp at h1; exact .inr (by omega)
  · exact ((Turns.of_below HB2.out).then T2.out).trans TS (fun i hi e => by omega)
end Go.Proofs.Ytoihhckiacmfcaa
