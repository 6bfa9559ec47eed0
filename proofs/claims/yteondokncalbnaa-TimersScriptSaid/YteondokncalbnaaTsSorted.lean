/- SortedFunc over a row of things, under what SortFunc says. -/
import Derived.Test.YteondokncalbnaaTsAsc
import Derived.Test.YteondokncalbnaaTsVals
namespace Go.Proofs.Yteondokncalbnaa
open Go.RowKit Go.Shelf

/-- what is asked of slices.SortFunc (sort_any) -/
def SortSays : Prop := ∀ (w : World) (base g cap n : Nat) (xs : List Tri), w.ownsRow base 92 5 (.slice (some ⟨g, 0, none⟩) n cap) n (xs.flatMap triC) → n = xs.length → g < w.heap.size → xs.length ≤ 1000000 →
    Calls Try.prog 81 #[.slice (some ⟨g, 0, none⟩) n cap, .func (.func 66) #[] #[]] w fun e w' => e = .returned (.tuple #[]) ∧
      ∃ ys : List Tri, ys.Perm xs ∧ Go.Sort.SortedIn (ltOf cmpTri) 0 n ys.toArray ∧ w'.ownsRow base 92 5 (.slice (some ⟨g, 0, none⟩) n cap) n (ys.flatMap triC) ∧ w.grownBy w' (some g)

set_option maxRecDepth 20000 in
theorem sortedFunc_any (hS : SortSays) (w : World) (Bs g cap : Nat) (xs : List Tri) (hle : xs.length ≤ 1000000) (hg : g < w.heap.size) (hBs : Bs < w.heap.size) (hc : w.cell? ⟨Bs, 0, none⟩ = some (.slice (some ⟨g, 0, none⟩) xs.length cap)) (hI : TriRow w g xs) :
    Calls Try.prog 67 #[.func (.func 82) #[] #[.pointer (some ⟨Bs, 0, none⟩)], .func (.func 66) #[] #[]] w fun e W' => ∃ v, e = .returned v ∧ ∃ ys, (ys.Perm xs ∧ Asc ys) ∧ W'.ownsRow w.heap.size 92 5 v xs.length (ys.flatMap triC) ∧ Below w.heap.size w W' := by
  have hq := Lib.hid (collect_any w Bs g cap xs hle hg hBs hc hI)
  have HS := Lib.hid hS
  clear hc hI hS
  go_enter Try.func67, Try.ntmps67
  go_wp2_with fail
  refine hq.out.mono ?_
  rintro e w1 ⟨v, rfl, ho, hb⟩
  have HB := Lib.hid hb
  have HO := Lib.hid ho
  rcases ho.2 with ⟨rfl, h0⟩ | ⟨g1, cap1, cur, rfl, hg1, hgb, h1, h2, h3, h4⟩
  · have hx : xs = [] := List.eq_nil_of_length_eq_zero h0
    subst hx
    clear ho hb h0
    go_wp2_with fail
    refine (sort0 _ _).mono ?_
    rintro e w' ⟨rfl, rfl⟩
    go_wp2_with fail
    go_ret
    exact ⟨_, rfl, [], ⟨.refl _, List.Pairwise.nil⟩, HO.out, HB.out⟩
  · have hgl := (Array.getElem?_eq_some_iff.1 hgb).1
    have hs := Lib.hid (HS.out w1 w.heap.size g1 cap1 xs.length xs HO.out rfl hgl hle)
    clear ho hb hgb h3 h4
    go_wp2_with fail
    refine hs.out.mono ?_
    rintro e w2 ⟨rfl, ys, hp, hsd, ho2, hgr⟩
    have HP := Lib.hid hp
    have HSd : Hid (Asc ys) := Lib.hid (asc_of (by rw [hp.length_eq]; exact hsd))
    have HO2 := Lib.hid ho2
    have HB2 := Lib.hid (HB.out.grown hgr HB.out.size (fun r e => by cases e; exact hg1))
    clear hp hsd ho2 hgr
    go_wp2_with fail
    go_ret
    exact ⟨_, rfl, ys, ⟨HP.out, HSd.out⟩, HO2.out, HB2.out⟩
end Go.Proofs.Yteondokncalbnaa
