/- HeapSorts: what is popped is the head of the sorted list, in plain Lean. -/
import Derived.Test.YtoihhckiacmfcaaHpRow
import Derived.Test.YtoihhckiacmfcaaHpFill
namespace Go.Proofs.Ytoihhckiacmfcaa
open Go.RowKit

def IntTh (xs : List Th) : Prop := ∀ t ∈ xs, ∃ a : Int, t.v = fun _ => .int .i64 a
def tri (t : Th) : Tri := (t.key, (t.num : Int), intOf (t.v 0))
theorem thCI_tri : ∀ (xs : List Th), IntTh xs → xs.flatMap thCI = (xs.map tri).flatMap triC
  | [], _ => rfl
  | t :: xs, h => by
    rw [List.map_cons, List.flatMap_cons, List.flatMap_cons, thCI_tri xs (fun u hu => h u (List.mem_cons_of_mem _ hu))]
    obtain ⟨a, ha⟩ := h t List.mem_cons_self
    congr 1
    simp [thCI, triC, tri, ha, intOf]
/-- no later one is ahead of an elder one -/
def Asc (ys : List Tri) : Prop := ys.Pairwise fun a b => ¬ (b.1 < a.1 ∨ (b.1 = a.1 ∧ b.2.1 < a.2.1))
theorem head_sorted {xs : List Th} {y : Tri} {ys : List Tri} (hh : Heap xs) (ha : Apart xs) (hp : (y :: ys).Perm (xs.map tri)) (hs : Asc (y :: ys)) : 0 < xs.length ∧ y = tri (gT xs 0) := by
  have h0 : 0 < xs.length := by have := hp.length_eq; simp at this; omega
  refine ⟨h0, ?_⟩
  obtain ⟨t, ht, rfl⟩ := List.mem_map.1 (hp.mem_iff.1 List.mem_cons_self)
  obtain ⟨j, hj, rfl⟩ := List.mem_iff_getElem.1 ht
  have hle := hh.least j hj
  rw [gT_of hj] at hle
  have hm : tri (gT xs 0) ∈ tri xs[j] :: ys := hp.mem_iff.2 (List.mem_map.2 ⟨_, mem_gT h0, rfl⟩)
  rcases List.mem_cons.1 hm with h | h
  · exact h.symm
  · have h1 := (List.pairwise_cons.1 hs).1 _ h
    unfold tri at h1
    unfold Th.le at hle
    simp only at h1
    have hnum : xs[j].num = (gT xs 0).num := by omega
    by_cases e : j = 0
    · subst e; rw [gT_of h0]
    · exact absurd (by rw [gT_of hj]; exact hnum) (ha.ne hj h0 e)
/-- behind a pop the tail is the sorted list of what is left -/
theorem tail_sorted {xs zs : List Th} {y : Tri} {ys : List Tri} (hh : Heap xs) (ha : Apart xs) (hp : (y :: ys).Perm (xs.map tri)) (hs : Asc (y :: ys)) (hz : (gT xs 0 :: zs).Perm xs) : ys.Perm (zs.map tri) ∧ Asc ys := by
  obtain ⟨h0, rfl⟩ := head_sorted hh ha hp hs
  refine ⟨?_, (List.pairwise_cons.1 hs).2⟩
  have h1 := hp.trans (hz.map tri).symm
  rw [List.map_cons] at h1
  exact (List.perm_cons _).1 h1
theorem things_int (z : Nat → Int) (n : Nat) : IntTh (things z n) := fun t ht => by
  obtain ⟨j, _, rfl⟩ := List.mem_map.1 ht
  exact ⟨j, rfl⟩
theorem IntTh.perm {xs ys : List Th} (h : IntTh xs) (p : ys.Perm xs) : IntTh ys := fun t ht => h t (p.mem_iff.1 ht)
end Go.Proofs.Ytoihhckiacmfcaa
