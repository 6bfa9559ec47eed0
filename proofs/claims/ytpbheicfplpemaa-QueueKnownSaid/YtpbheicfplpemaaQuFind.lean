/- queue: find. -/
import Derived.Test.YtpbheicfplpemaaQuPoll
namespace Go.Proofs.Ytpbheicfplpemaa
open Go.RowKit

theorem results_T2 {P : Program} {fn : Func} {p u : Tmp} {ty : TypeId} (h : fn.results = #[.cell p ty, .tmp u]) (tmps : Array Value) (w : World) (g : Nat) (t : TypeId) (cs : Array Value) (fr : Nat × Nat) (d : TypeDesc)
    (hp : tmps.getD p undef = .pointer (some ⟨g, 0, none⟩)) (hg : w.heap[g]? = some (.cells cs t fr))
    (hu : P.underlying ty = some d) (hd : (match d with | .struct _ | .array _ _ => true | _ => false) = true) (hi : (P.info? ty).map (·.size) = some cs.size) :
    (results fn tmps).run P w = .ok (.tuple #[.agg cs, tmps.getD u undef]) w := by
  have hp' : tmps[p]?.getD undef = .pointer (some ⟨g, 0, none⟩) := by simpa using hp
  simp [results, h, hp', asAddr, run_loadVar_row w g t ty cs fr d hg hu hd hi]
def otL (x : Ot) : List Value := [.string x.tk.key, .string x.tk.sticky, .int .i64 x.tk.ready, .int .i64 x.tk.att, .int .i64 x.token, .string x.worker, .int .i64 x.until_]
def ot0 : Ot := ⟨⟨⟨#[]⟩, ⟨#[]⟩, 0, 0⟩, 0, ⟨#[]⟩, 0⟩
theorem zeroOut (w : World) : (zeroValue 82).run Try.prog w = .ok (otV ot0) w := by kernel_rfl
set_option maxRecDepth 20000 in
set_option maxHeartbeats 8000000 in
theorem find1 (w : World) (q : Nat) (most grace next : Int) (wv : Value) (ts : List Tk) (O T : Nat) (om : Int → Option Ot) (tm : ByteArray → Option Int) (h : QS w q most grace next wv ts O T om tm) (k : Int) (x : Ot) (hx : om k = some x) :
    Calls Try.prog 35 #[.pointer (some ⟨q, 0, none⟩), .int .i64 k] w fun e w' => e = .returned (.tuple #[otV x, .int .i64 0]) ∧ Below w.heap.size w w' := by
  have hB := Below.new w (.cells (otL ot0).toArray 82)
  have W1 := Lib.hid (Blk.new w 82 (otL ot0))
  have HX := Lib.hid (h.bel hB)
  have HB := Lib.hid hB
  clear hB
  simp only [otL, ot0] at W1 HX HB
  go_enter Try.func35, Try.ntmps35
  go_upto_region 1 with (fail)
  generalize w.alloc (.cells #[.string ⟨#[]⟩, .string ⟨#[]⟩, .int .i64 0, .int .i64 0, .int .i64 0, .string ⟨#[]⟩, .int .i64 0] 82) = X at *
  obtain ⟨_, _, c2, _, c4, _⟩ := HX.out.cells
  have HM := Lib.hid (made1 X q next HX.out.pos c2)
  obtain ⟨nO, hO⟩ := HX.out.outs
  have hlk := MapIs.lookup (t := 59) (e := 82) hO (int_keys Try.underlying3) Try.underlying59 (zeroOut _) k true
  unfold oV at hlk
  rw [hx] at hlk
  have hlk : (Instr.lookup 59 (.map (some O)) (.int .i64 k) true).run Try.prog X = .ok (.tuple #[otV x, .bool true]) X := hlk
  clear hO
  generalize hb : w.heap.size = b at *
  have hbl := W1.out.lt
  unfold otV at hlk
  have HBQ := Lib.hid hb
  clear hb
  go_upto_region 6 with (go_at_call 28; refine HM.out.mono ?_; rintro e w' ⟨rfl, rfl⟩)
  have hbY := Below.new w' (.cells #[.string x.tk.key, .string x.tk.sticky, .int .i64 x.tk.ready, .int .i64 x.tk.att, .int .i64 x.token, .string x.worker, .int .i64 x.until_] 82)
  have KB := Lib.hid (W1.out.bel hbY)
  have KX := Lib.hid (Blk.new w' 82 (otL x))
  have HBY := Lib.hid (HB.out.trans (hbY.mono (Nat.le_of_lt hbl)))
  have hcb : b ≠ w'.heap.size := by omega
  simp only [otL] at KX
  clear hbY HX W1 HB hlk HM c2 c4
  generalize w'.alloc (.cells #[.string x.tk.key, .string x.tk.sticky, .int .i64 x.tk.ready, .int .i64 x.tk.att, .int .i64 x.token, .string x.worker, .int .i64 x.until_] 82) = Y at *
  generalize w'.heap.size = c at *
  have z0 := KB.out.fz 0
  have z1 := KB.out.fz 1
  have z2 := KB.out.fz 2
  have z3 := KB.out.fz 3
  have z4 := KB.out.fz 4
  have z5 := KB.out.fz 5
  have z6 := KB.out.fz 6
  have u0 := KX.out.cell 0
  have u1 := KX.out.cell 1
  have u2 := KX.out.cell 2
  have u3 := KX.out.cell 3
  have u4 := KX.out.cell 4
  have u5 := KX.out.cell 5
  have u6 := KX.out.cell 6
  have v0 := KB.out.cell 0
  have v1 := KB.out.cell 1
  have v2 := KB.out.cell 2
  have v3 := KB.out.cell 3
  have v4 := KB.out.cell 4
  have v5 := KB.out.cell 5
  have v6 := KB.out.cell 6
  simp only [List.getElem?_cons_succ, List.getElem?_cons_zero] at u0 u1 u2 u3 u4 u5 u6 v0 v1 v2 v3 v4 v5 v6
  go_wp2_with fail
  have hk := ((((((KB.out.set 0 (.string x.tk.key)).set 1 (.string x.tk.sticky)).set 2 (.int .i64 x.tk.ready)).set 3 (.int .i64 x.tk.att)).set 4 (.int .i64 x.token)).set 5 (.string x.worker)).set 6 (.int .i64 x.until_)
  simp only [List.set_cons_succ, List.set_cons_zero] at hk
  refine bodyPost_ret (results_T2 (h := rfl) (g := b) (t := 82) (cs := (otL x).toArray) (fr := (0, 0)) (hp := rfl) (hg := hk) (hu := Try.underlying82) (hd := rfl) (hi := by kernel_rfl) _ _) rfl ?_
  refine ⟨rfl, ?_⟩
  have hby := HBY.out
  have hbq := HBQ.out
  rw [← hbq] at hby
  have T0 := ((((((((Turns.of_below (S := fun _ => False) hby).set ⟨b, 0, none⟩ (.string x.tk.key) (fun e => absurd e (by simp only; omega))).set ⟨b, 1, none⟩ (.string x.tk.sticky) (fun e => absurd e (by simp only; omega))).set ⟨b, 2, none⟩ (.int .i64 x.tk.ready) (fun e => absurd e (by simp only; omega))).set ⟨b, 3, none⟩ (.int .i64 x.tk.att) (fun e => absurd e (by simp only; omega))).set ⟨b, 4, none⟩ (.int .i64 x.token) (fun e => absurd e (by simp only; omega))).set ⟨b, 5, none⟩ (.string x.worker) (fun e => absurd e (by simp only; omega))).set ⟨b, 6, none⟩ (.int .i64 x.until_) (fun e => absurd e (by simp only; omega)))
  exact T0.below (Nat.le_refl _) (fun _ _ e => e.elim)
set_option maxRecDepth 20000 in
set_option maxHeartbeats 8000000 in
theorem find0 (w : World) (q : Nat) (most grace next : Int) (wv : Value) (ts : List Tk) (O T : Nat) (om : Int → Option Ot) (tm : ByteArray → Option Int) (h : QS w q most grace next wv ts O T om tm) (k : Int) (hx : om k = none) :
    Calls Try.prog 35 #[.pointer (some ⟨q, 0, none⟩), .int .i64 k] w fun e w' => e = .returned (.tuple #[otV ot0, .int .i64 5]) ∧ Below w.heap.size w w' := by
  have hB := Below.new w (.cells (otL ot0).toArray 82)
  have W1 := Lib.hid (Blk.new w 82 (otL ot0))
  have HX := Lib.hid (h.bel hB)
  have HB := Lib.hid hB
  clear hB
  simp only [otL, ot0] at W1 HX HB
  go_enter Try.func35, Try.ntmps35
  go_upto_region 1 with (fail)
  generalize w.alloc (.cells #[.string ⟨#[]⟩, .string ⟨#[]⟩, .int .i64 0, .int .i64 0, .int .i64 0, .string ⟨#[]⟩, .int .i64 0] 82) = X at *
  obtain ⟨_, _, c2, _, c4, _⟩ := HX.out.cells
  have HM := Lib.hid (made1 X q next HX.out.pos c2)
  obtain ⟨nO, hO⟩ := HX.out.outs
  have hlk := MapIs.lookup (t := 59) (e := 82) hO (int_keys Try.underlying3) Try.underlying59 (zeroOut _) k true
  unfold oV at hlk
  rw [hx] at hlk
  have hlk : (Instr.lookup 59 (.map (some O)) (.int .i64 k) true).run Try.prog X = .ok (.tuple #[otV ot0, .bool false]) X := hlk
  clear hO
  generalize hb : w.heap.size = b at *
  have hbl := W1.out.lt
  unfold otV ot0 at hlk
  have HBQ := Lib.hid hb
  clear hb
  go_upto_region 5 with (go_at_call 28; refine HM.out.mono ?_; rintro e w' ⟨rfl, rfl⟩)
  have hbY := Below.new w' (.cells #[.string ⟨#[]⟩, .string ⟨#[]⟩, .int .i64 0, .int .i64 0, .int .i64 0, .string ⟨#[]⟩, .int .i64 0] 82)
  have KB := Lib.hid (W1.out.bel hbY)
  have HBY := Lib.hid (HB.out.trans (hbY.mono (Nat.le_of_lt hbl)))
  have hcb : b ≠ w'.heap.size := by omega
  clear hbY HX W1 HB hlk HM c2 c4
  generalize w'.alloc (.cells #[.string ⟨#[]⟩, .string ⟨#[]⟩, .int .i64 0, .int .i64 0, .int .i64 0, .string ⟨#[]⟩, .int .i64 0] 82) = Y at *
  generalize w'.heap.size = c at *
  have z0 := KB.out.fz 0
  have z1 := KB.out.fz 1
  have z2 := KB.out.fz 2
  have z3 := KB.out.fz 3
  have z4 := KB.out.fz 4
  have z5 := KB.out.fz 5
  have z6 := KB.out.fz 6
  have v0 := KB.out.cell 0
  have v1 := KB.out.cell 1
  have v2 := KB.out.cell 2
  have v3 := KB.out.cell 3
  have v4 := KB.out.cell 4
  have v5 := KB.out.cell 5
  have v6 := KB.out.cell 6
  simp only [List.getElem?_cons_succ, List.getElem?_cons_zero] at v0 v1 v2 v3 v4 v5 v6
  go_wp2_with fail
  have hk := (((((((KB.out.set 0 (.string ⟨#[]⟩)).set 1 (.string ⟨#[]⟩)).set 2 (.int .i64 0)).set 3 (.int .i64 0)).set 4 (.int .i64 0)).set 5 (.string ⟨#[]⟩)).set 6 (.int .i64 0))
  simp only [List.set_cons_succ, List.set_cons_zero] at hk
  refine bodyPost_ret (results_T2 (h := rfl) (g := b) (t := 82) (cs := (otL ot0).toArray) (fr := (0, 0)) (hp := rfl) (hg := hk) (hu := Try.underlying82) (hd := rfl) (hi := by kernel_rfl) _ _) rfl ?_
  refine ⟨rfl, ?_⟩
  have hby := HBY.out
  have hbq := HBQ.out
  rw [← hbq] at hby
  have T0 := ((((((((Turns.of_below (S := fun _ => False) hby).set ⟨b, 0, none⟩ (.string ⟨#[]⟩) (fun e => absurd e (by simp only; omega))).set ⟨b, 1, none⟩ (.string ⟨#[]⟩) (fun e => absurd e (by simp only; omega))).set ⟨b, 2, none⟩ (.int .i64 0) (fun e => absurd e (by simp only; omega))).set ⟨b, 3, none⟩ (.int .i64 0) (fun e => absurd e (by simp only; omega))).set ⟨b, 4, none⟩ (.int .i64 0) (fun e => absurd e (by simp only; omega))).set ⟨b, 5, none⟩ (.string ⟨#[]⟩) (fun e => absurd e (by simp only; omega))).set ⟨b, 6, none⟩ (.int .i64 0) (fun e => absurd e (by simp only; omega)))
  exact T0.below (Nat.le_refl _) (fun _ _ e => e.elim)
set_option maxRecDepth 20000 in
set_option maxHeartbeats 8000000 in
theorem findN (w : World) (p : Value) (hm : ∀ X, Below w.heap.size w X → Calls Try.prog 28 #[p] X fun e w' => e = .returned (.bool false) ∧ w' = X) (k : Int) :
    Calls Try.prog 35 #[p, .int .i64 k] w fun e w' => e = .returned (.tuple #[otV ot0, .int .i64 1]) ∧ Below w.heap.size w w' := by
  have hB := Below.new w (.cells (otL ot0).toArray 82)
  have W1 := Lib.hid (Blk.new w 82 (otL ot0))
  have HM := Lib.hid (hm _ hB)
  have HB := Lib.hid hB
  clear hB hm
  simp only [otL, ot0] at W1 HM HB
  go_enter Try.func35, Try.ntmps35
  go_upto_region 1 with (fail)
  generalize w.alloc (.cells #[.string ⟨#[]⟩, .string ⟨#[]⟩, .int .i64 0, .int .i64 0, .int .i64 0, .string ⟨#[]⟩, .int .i64 0] 82) = X at *
  generalize hb : w.heap.size = b at *
  have hbl := W1.out.lt
  have HBQ := Lib.hid hb
  clear hb
  go_upto_region 2 with (go_at_call 28; refine HM.out.mono ?_; rintro e w' ⟨rfl, rfl⟩)
  have KB := W1
  have HBY := HB
  clear W1 HB
  have z0 := KB.out.fz 0
  have z1 := KB.out.fz 1
  have z2 := KB.out.fz 2
  have z3 := KB.out.fz 3
  have z4 := KB.out.fz 4
  have z5 := KB.out.fz 5
  have z6 := KB.out.fz 6
  have v0 := KB.out.cell 0
  have v1 := KB.out.cell 1
  have v2 := KB.out.cell 2
  have v3 := KB.out.cell 3
  have v4 := KB.out.cell 4
  have v5 := KB.out.cell 5
  have v6 := KB.out.cell 6
  simp only [List.getElem?_cons_succ, List.getElem?_cons_zero] at v0 v1 v2 v3 v4 v5 v6
  go_wp2_with fail
  have hk := (((((((KB.out.set 0 (.string ⟨#[]⟩)).set 1 (.string ⟨#[]⟩)).set 2 (.int .i64 0)).set 3 (.int .i64 0)).set 4 (.int .i64 0)).set 5 (.string ⟨#[]⟩)).set 6 (.int .i64 0))
  simp only [List.set_cons_succ, List.set_cons_zero] at hk
  refine bodyPost_ret (results_T2 (h := rfl) (g := b) (t := 82) (cs := (otL ot0).toArray) (fr := (0, 0)) (hp := rfl) (hg := hk) (hu := Try.underlying82) (hd := rfl) (hi := by kernel_rfl) _ _) rfl ?_
  refine ⟨rfl, ?_⟩
  have hby := HBY.out
  have hbq := HBQ.out
  rw [← hbq] at hby
  have T0 := ((((((((Turns.of_below (S := fun _ => False) hby).set ⟨b, 0, none⟩ (.string ⟨#[]⟩) (fun e => absurd e (by simp only; omega))).set ⟨b, 1, none⟩ (.string ⟨#[]⟩) (fun e => absurd e (by simp only; omega))).set ⟨b, 2, none⟩ (.int .i64 0) (fun e => absurd e (by simp only; omega))).set ⟨b, 3, none⟩ (.int .i64 0) (fun e => absurd e (by simp only; omega))).set ⟨b, 4, none⟩ (.int .i64 0) (fun e => absurd e (by simp only; omega))).set ⟨b, 5, none⟩ (.string ⟨#[]⟩) (fun e => absurd e (by simp only; omega))).set ⟨b, 6, none⟩ (.int .i64 0) (fun e => absurd e (by simp only; omega)))
  exact T0.below (Nat.le_refl _) (fun _ _ e => e.elim)
end Go.Proofs.Ytpbheicfplpemaa
