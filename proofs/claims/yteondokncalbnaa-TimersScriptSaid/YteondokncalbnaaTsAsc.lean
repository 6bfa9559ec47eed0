/- The order of triples, as the library's sort asks for it. -/
import Derived.Test.YteondokncalbnaaTsSortsPlain
import Derived.Test.YteondokncalbnaaTsShelf
import Derived.Shelf.SlSortCmp.InsertionK
namespace Go.Proofs.Yteondokncalbnaa
open Go.RowKit Go.Sort Go.Shelf

theorem ltTri (x y : Tri) : ltOf cmpTri x y = decide (x.1 < y.1 ∨ (x.1 = y.1 ∧ x.2.1 < y.2.1)) := by
  unfold ltOf
  simp only [cmpTri_lt]
theorem swoTri : SWO (ltOf cmpTri) where
  irrefl x := by rw [ltTri]; simp
  trans x y z h1 h2 := by rw [ltTri] at *; simp only [decide_eq_true_eq] at *; omega
  ntrans x y z h1 h2 := by rw [ltTri] at *; simp only [decide_eq_false_iff_not] at *; omega
theorem cmpLaysTri (blk off size : Nat) (w : World) : CmpLays Try.prog 66 #[] triC 5 cmpTri blk off size w :=
  fun _ _ _ _ x y => aheadGI x y _
theorem asc_of {ys : List Tri} (h : SortedIn (ltOf cmpTri) 0 ys.length ys.toArray) : Asc ys := by
  unfold Asc
  rw [List.pairwise_iff_getElem]
  intro i j hi hj hij
  have := h i j (Nat.zero_le _) hij hj
  rw [ltTri, decide_eq_false_iff_not, getElem!_pos ys.toArray i (by simpa using hi), getElem!_pos ys.toArray j (by simpa using hj)] at this
  simpa using this
end Go.Proofs.Yteondokncalbnaa
