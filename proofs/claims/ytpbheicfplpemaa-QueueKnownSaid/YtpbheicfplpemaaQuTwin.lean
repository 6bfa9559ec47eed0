/- queue: Twin. -/
import Derived.Test.YtpbheicfplpemaaQuClone
namespace Go.Proofs.Ytpbheicfplpemaa
open Go.RowKit

theorem own_base {W : World} {base base' : Nat} {e : TypeId} {size : Nat} {v : Value} {k : Nat} {xs : List Value} (h : W.ownsRow base e size v k xs) (hb : base' ≤ base) : W.ownsRow base' e size v k xs := by
  refine ⟨h.1, ?_⟩
  rcases h.2 with hn | ⟨g, cap, cur, hv, hbg, rest⟩
  · exact .inl hn
  · exact .inr ⟨g, cap, cur, hv, Nat.le_trans hb hbg, rest⟩
def TwinY (w : World) (most grace next : Int) (ts : List Tk) (om : Int → Option Ot) (tm : ByteArray → Option Int) (e : Ending) (w' : World) : Prop :=
  ∃ q' wv' O' T', e = .returned (.pointer (some ⟨q', 0, none⟩)) ∧ QS w' q' most grace next wv' ts O' T' om tm ∧ (∀ i, QSet q' wv' O' T' i → w.heap.size ≤ i) ∧ Below w.heap.size w w'
set_option maxRecDepth 20000 in
set_option maxHeartbeats 8000000 in
theorem twinQ (w : World) (q : Nat) (most grace next : Int) (wv : Value) (ts : List Tk) (O T : Nat) (om : Int → Option Ot) (tm : ByteArray → Option Int) (h : QS w q most grace next wv ts O T om tm) :
    Calls Try.prog 15 #[.pointer (some ⟨q, 0, none⟩)] w (TwinY w most grace next ts om tm) := by
  obtain ⟨A0, c0, rfl⟩ := own_slice' h.row
  have HH := Lib.hid h
  obtain ⟨k0, k1, k2, k3, k4, k5⟩ := h.cells
  have HM := Lib.hid (made1 w q next h.pos k2)
  clear h
  go_enter Try.func15, Try.ntmps15
  go_upto_region 4 with (go_at_call 28; refine HM.out.mono ?_; rintro e w' ⟨rfl, rfl⟩)
  have hbY := Below.new w' (.cells #[.int .i64 most, .int .i64 grace, .int .i64 next, .slice A0 ts.length c0, .map (some O), .map (some T)] 61)
  have KX := Lib.hid (Blk.new w' 61 [.int .i64 most, .int .i64 grace, .int .i64 next, .slice A0 ts.length c0, .map (some O), .map (some T)])
  have HY := Lib.hid (HH.out.bel hbY)
  have BY := Lib.hid hbY
  have hql := HH.out.blk.lt
  have hxs : w'.heap.size < (w'.alloc (.cells #[.int .i64 most, .int .i64 grace, .int .i64 next, .slice A0 ts.length c0, .map (some O), .map (some T)] 61)).heap.size := KX.out.lt
  clear hbY HM k0 k1 k2 k3 k4 k5
  generalize w'.alloc (.cells #[.int .i64 most, .int .i64 grace, .int .i64 next, .slice A0 ts.length c0, .map (some O), .map (some T)] 61) = Y at *
  generalize hx : w'.heap.size = x at *
  have HXE := Lib.hid hx
  clear hx
  have hS : ∀ X, Below Y.heap.size Y X → X.cell? ⟨q, 3, none⟩ = some (.slice A0 ts.length c0) ∧ X.cell? ⟨q, 4, none⟩ = some (.map (some O)) ∧ X.cell? ⟨q, 5, none⟩ = some (.map (some T)) := fun X hX => by
    obtain ⟨_, _, _, k3, k4, k5⟩ := (HY.out.bel hX).cells
    exact ⟨k3, k4, k5⟩
  obtain ⟨k3, k4, k5⟩ := hS Y (Below.refl _ _)
  have HSS := Lib.hid hS
  obtain ⟨nO, hO⟩ := HY.out.outs
  obtain ⟨nT, hT⟩ := HY.out.there
  have hone : ∀ u ∈ ts.flatMap tkC, u.oneCell' = true := fun u hu => by
    obtain ⟨t, _, hx⟩ := List.mem_flatMap.1 hu
    simp [tkC] at hx
    rcases hx with rfl | rfl | rfl | rfl <;> rfl
  have HCL := Lib.hid (show ∀ X, Below Y.heap.size Y X → Calls Try.prog 36 #[.slice A0 ts.length c0] X fun e X' => ∃ v', e = .returned v' ∧ X'.ownsRow Y.heap.size 75 4 v' ts.length (ts.flatMap tkC) ∧ Below Y.heap.size Y X' ∧ Below X.heap.size X X' from fun X hX => by
    refine (clone_own X _ ts.length _ (own_turns HY.out.row (.of_below (S := fun _ => False) hX) (fun _ _ => id)) hone (by have := HH.out.few; omega)).mono ?_
    rintro e X' ⟨v', rfl, h1, h2⟩
    exact ⟨v', rfl, own_base h1 hX.size, hX.trans (h2.mono hX.size), h2⟩)
  have HOL := Lib.hid (show ∀ X, Below Y.heap.size Y X → Calls Try.prog 37 #[.map (some O)] X fun e X' => ∃ M', e = .returned (.map (some M')) ∧ MapIs kInt X' M' (oV om) nO ∧ Y.heap.size ≤ M' ∧ Below Y.heap.size Y X' ∧ Below X.heap.size X X' from fun X hX => by
    refine (mcloneI X O _ nO (hO.below hX)).mono ?_
    rintro e X' ⟨rfl, h1, h2⟩
    exact ⟨_, rfl, h1, hX.size, hX.trans (h2.mono hX.size), h2⟩)
  have HTL := Lib.hid (show ∀ X, Below Y.heap.size Y X → Calls Try.prog 38 #[.map (some T)] X fun e X' => ∃ M', e = .returned (.map (some M')) ∧ MapIs kStr X' M' (sV tm) nT ∧ X.heap.size ≤ M' ∧ Below Y.heap.size Y X' ∧ Below X.heap.size X X' from fun X hX => by
    refine (mcloneS X T _ nT (hT.below hX)).mono ?_
    rintro e X' ⟨rfl, h1, h2⟩
    exact ⟨_, rfl, h1, Nat.le_refl _, hX.trans (h2.mono hX.size), h2⟩)
  have HB0 := Lib.hid (below_drewN' (Below.refl Y.heap.size Y) 1)
  clear hS hO hT hone
  go_region_law (go_simp; (first | (go_at_call 36; refine (HCL.out _ (by first | exact HB0.out | exact HCB.out | exact HOB.out)).mono ?_; rintro e X1 ⟨vc, rfl, d1, d2, d3⟩; obtain ⟨Ac, kc, rfl⟩ := own_slice' d1; have HCR := Lib.hid d1; have HCB := Lib.hid d2; have HCX := Lib.hid d3; have hs := HSS.out _ d2; obtain ⟨j3, j4, j5⟩ := hs; clear d1 d2 d3) | (go_at_call 37; refine (HOL.out _ (by first | exact HCB.out)).mono ?_; rintro e X2 ⟨Oc, rfl, d1, d2, d3, d4⟩; have HOR := Lib.hid d1; have HOG := Lib.hid d2; have HOB := Lib.hid d3; have HOX := Lib.hid d4; have hs := HSS.out _ d3; obtain ⟨j3, j4, j5⟩ := hs; clear d1 d2 d3 d4) | (go_at_call 38; refine (HTL.out _ (by first | exact HOB.out)).mono ?_; rintro e X3 ⟨Tc, rfl, d1, d2, d3, d4⟩; have HTR := Lib.hid d1; have HTG := Lib.hid d2; have HTB := Lib.hid d3; have HTX := Lib.hid d4; clear d1 d2 d3 d4; have KZ := KX.out.bel HTB.out; have z3 := KZ.fz 3; have z4 := KZ.fz 4; have z5 := KZ.fz 5; have y3 := KZ.cell 3; have y4 := KZ.cell 4; have y5 := KZ.cell 5; simp only [List.getElem?_cons_succ, List.getElem?_cons_zero] at y3 y4 y5; have KZH := Lib.hid KZ; clear KZ)))
  all_goals
    go_wp2_with fail
    go_ret
    have hk := ((KZH.out.set 3 (.slice Ac ts.length kc)).set 4 (.map (some Oc))).set 5 (.map (some Tc))
    simp only [List.set_cons_succ, List.set_cons_zero] at hk
    have TX : Turns (fun j => j = x) X3 (((X3.setCell ⟨x, 3, none⟩ (.slice Ac ts.length kc)).setCell ⟨x, 4, none⟩ (.map (some Oc))).setCell ⟨x, 5, none⟩ (.map (some Tc))) := (((Turns.refl (fun j => j = x) X3).set ⟨x, 3, none⟩ _ (fun _ => rfl)).set ⟨x, 4, none⟩ _ (fun _ => rfl)).set ⟨x, 5, none⟩ _ (fun _ => rfl)
    have hw := HXE.out
    have BX3 := BY.out.trans (HTB.out.mono (show x ≤ Y.heap.size from Nat.le_of_lt hxs))
    have hT3 := (Turns.of_below (S := fun i => x ≤ i) (by rw [hw]; exact BX3)).then (TX.mono (fun i _ e => Nat.le_of_eq e.symm))
    have rT := own_turns (own_turns (own_turns HCR.out (.of_below (S := fun _ => False) HOX.out) (fun _ _ => id)) (.of_below (S := fun _ => False) HTX.out) (fun _ _ => id)) TX (fun g hg e => by have := (own_lt HCR.out hg).1; omega)
    refine ⟨x, _, Oc, Tc, rfl, ⟨hk, own_base rT (Nat.zero_le _), ⟨nO, (HOR.out.below HTX.out).turns TX (by have := HOG.out; omega)⟩, ⟨nT, HTR.out.turns TX (by have := HTG.out; have := HOB.out.size; omega)⟩, by have := HOR.out.lt; have := HTG.out; omega, HH.out.few, HH.out.pos, HH.out.nxl⟩, ?_, hT3.below (Nat.le_refl _) (fun _ _ e => Nat.le_trans (Nat.le_of_eq hw) e)⟩
    rintro i (rfl | rfl | rfl | hi)
    · omega
    · have := HOG.out; omega
    · have := HTG.out; have := HOB.out.size; omega
    · have := (own_lt HCR.out hi).1; omega
end Go.Proofs.Ytpbheicfplpemaa
