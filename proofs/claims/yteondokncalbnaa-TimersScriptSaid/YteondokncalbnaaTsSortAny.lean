/- timers: slices.SortFunc over a row of things. -/
import Derived.Test.YteondokncalbnaaTsAsc
import Derived.Test.YteondokncalbnaaSortRow
namespace Go.Proofs.Yteondokncalbnaa
open Go.RowKit Go.Sort Go.Shelf
theorem sort_any (w : World) (base g cap n : Nat) (xs : List Tri) (h : w.ownsRow base 92 5 (.slice (some ⟨g, 0, none⟩) n cap) n (xs.flatMap triC)) (hn : n = xs.length) (hg : g < w.heap.size) (hle : xs.length ≤ 1000000) :
    Calls Try.prog 81 #[.slice (some ⟨g, 0, none⟩) n cap, .func (.func 66) #[] #[]] w fun e w' => e = .returned (.tuple #[]) ∧
      ∃ ys : List Tri, ys.Perm xs ∧ SortedIn (ltOf cmpTri) 0 n ys.toArray ∧ w'.ownsRow base 92 5 (.slice (some ⟨g, 0, none⟩) n cap) n (ys.flatMap triC) ∧ w.grownBy w' (some g) := by
  have := sort_own triC 5 (fun _ => rfl) (by omega) Try.sortTh Try.isAgg92 Try.sizeOf92 (fun x v hv => by simp [triC] at hv; rcases hv with rfl | rfl | rfl | rfl | rfl <;> rfl) cmpTri swoTri 66 #[]
    (enters_of Try.func66 (by kernel_rfl) rfl) w base g cap n 92 xs (cmpLaysTri g 0 xs.length w) h hn hg hle
  exact this
end Go.Proofs.Yteondokncalbnaa
