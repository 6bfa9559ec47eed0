/- (*Heap).sorted, under what SortFunc says. -/
import Derived.Test.YteondokncalbnaaTsSorted
import Derived.Test.YteondokncalbnaaTsSortsPlain
import Derived.Test.YteondokncalbnaaHpT7
namespace Go.Proofs.Yteondokncalbnaa
open Go.RowKit Go.Shelf

set_option maxRecDepth 20000 in
theorem sorted_any (hS : SortSays) (w : World) (p : Nat) (v : Value) (M : Nat) (xs : List Th) (nx : Nat) (h : HStT w p v M xs nx) (hi : TimTh xs) :
    Calls Try.prog 53 #[.pointer (some ⟨p, 0, none⟩)] w fun e w' => ∃ v ys, e = .returned v ∧ (ys.Perm (xs.map tri) ∧ Asc ys) ∧ ys.length = xs.length ∧ w'.ownsRow w.heap.size 92 5 v xs.length (ys.flatMap triC) ∧ Below w.heap.size w w' := by
  obtain ⟨m, hm, hp⟩ := h.raw
  have b1 := hm.blk.cell 1
  simp only [List.getElem?_cons_succ, List.getElem?_cons_zero] at b1
  have hrow := hm.row
  rw [thCT_tri xs hi] at hrow
  have hfew := hm.few
  rcases hrow.2 with ⟨rfl, h0⟩ | ⟨g, cap, cur, rfl, _, hgb, _⟩
  · have hx : xs = [] := List.eq_nil_of_length_eq_zero h0
    subst hx
    clear h hm hp hrow hi
    go_enter Try.func53, Try.ntmps53
    go_wp2_with fail
    refine (values_any _ _ _ w).mono ?_
    rintro e w1 ⟨rfl, rfl⟩
    go_wp2_with fail
    refine (sortedFunc0 _ _ w.heap.size (by simp) ((Blk.new w 93 [.slice none 0 0]).cell 0)).mono ?_
    rintro e w2 ⟨rfl, hb⟩
    have HB := Lib.hid ((Below.new w (.cells #[.slice none 0 0] 93)).trans (hb.mono (by simp)))
    clear hb
    go_wp2_with fail
    go_ret
    exact ⟨_, [], rfl, ⟨.refl _, List.Pairwise.nil⟩, rfl, World.ownsRow_nil _ _ _ _, HB.out⟩
  · have hgl := (Array.getElem?_eq_some_iff.1 hgb).1
    have HR := Lib.hid hrow
    clear h hm hp hrow hi hgb
    go_enter Try.func53, Try.ntmps53
    go_wp2_with fail
    refine (values_any _ _ _ w).mono ?_
    rintro e w1 ⟨rfl, rfl⟩
    have hc := (Blk.new w 93 [.slice (some ⟨g, 0, none⟩) xs.length cap]).cell 0
    simp only [List.getElem?_cons_zero] at hc
    have hb0 := Below.new w (.cells #[.slice (some ⟨g, 0, none⟩) xs.length cap] 93)
    have hT := (tri_cells HR.out (by simp)).below hb0 hgl
    have HSF := Lib.hid (sortedFunc_any hS (w.alloc (.cells #[.slice (some ⟨g, 0, none⟩) xs.length cap] 93)) w.heap.size g cap (xs.map tri) (by simpa using hfew) (by simp; omega) (by simp) (by rw [List.length_map]; exact hc) hT)
    have HB0 := Lib.hid hb0
    clear hc hb0 hT
    go_wp2_with fail
    refine HSF.out.mono ?_
    rintro e w2 ⟨v2, rfl, ys, hP, ho, hb⟩
    rw [List.length_map] at ho
    obtain ⟨A2, c2, rfl⟩ := own_slice' ho
    have HP := Lib.hid hP
    have HO := Lib.hid (ownsRow_base' ho (by simp : w.heap.size ≤ _))
    have HB := Lib.hid (HB0.out.trans (hb.mono HB0.out.size))
    clear hP ho hb
    go_wp2_with fail
    go_ret
    exact ⟨_, ys, rfl, HP.out, by rw [HP.out.1.length_eq, List.length_map], HO.out, HB.out⟩
end Go.Proofs.Yteondokncalbnaa
