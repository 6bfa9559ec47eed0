/- slices.SortFunc over a row of things. -/
import Derived.Test.YtoihhckiacmfcaaHpAsc
import Derived.Test.YtoihhckiacmfcaaHpShelf
import Derived.Shelf.SlSortCmp.WholeK
namespace Go.Proofs.Ytoihhckiacmfcaa
open Go.RowKit Go.Sort Go.Shelf

theorem sort_any (w : World) (base g cap n : Nat) (xs : List Tri) (h : w.ownsRow base 65 3 (.slice (some ⟨g, 0, none⟩) n cap) n (xs.flatMap triC)) (hn : n = xs.length) (hg : g < w.heap.size) (hle : xs.length ≤ 1000000) :
    Calls Try.prog 56 #[.slice (some ⟨g, 0, none⟩) n cap, .func (.func 43) #[] #[]] w fun e w' => e = .returned (.tuple #[]) ∧
      ∃ ys : List Tri, ys.Perm xs ∧ SortedIn (ltOf cmpTri) 0 n ys.toArray ∧ w'.ownsRow base 65 3 (.slice (some ⟨g, 0, none⟩) n cap) n (ys.flatMap triC) ∧ w.grownBy w' (some g) := by
  have eg : ∀ args w, (callFunc 43 args).run Try.prog w = .ok (.enter 43 args) w := enters_of Try.func43 (by kernel_rfl) rfl
  have hcon := AnyQ.slices_SortFunc Try.sortTh 3 Try.isAgg65 Try.sizeOf65 triC (fun _ => rfl) (fun x v hv => by simp [triC] at hv; rcases hv with rfl | rfl | rfl <;> rfl) cmpTri swoTri 43 #[] g 0 cap xs.toArray w eg (cmpLaysTri g 0 xs.toArray.size w) (holds_tri h hn) hg (by simp; omega)
  subst hn
  change Calls Try.prog 56 _ _ _ at hcon
  simp only [List.size_toArray] at hcon
  refine hcon.mono ?_
  rintro e w' ⟨he, d', m, os, hp, hs, rfl⟩
  have hpl : d'.toList.Perm xs := perm_of (d := xs.toArray) (by simpa using hp)
  refine ⟨he, d'.toList, hpl, by simpa using hs, ?_, grownBy_sortedK d'⟩
  have := own_sorted (ys := d'.toList) (m := m) (os := os) h hpl.length_eq
  simpa using this
end Go.Proofs.Ytoihhckiacmfcaa
