/- A row of things that the library has sorted. -/
import Derived.Test.YtoihhckiacmfcaaHpApp
import Derived.Test.YtoihhckiacmfcaaHpAheadG
import Derived.Shelf.GgSortFunc.InsertionK
import Derived.Sort.OwnSortedInts
namespace Go.Proofs.Ytoihhckiacmfcaa
open Go.RowKit Go.Sort Go.Shelf

theorem triC_len (x : Tri) : (triC x).length = 3 := rfl
theorem flatK_tri (d : List Tri) : (flatK triC 3 d.toArray).toList = d.flatMap triC := by
  apply List.ext_getElem?
  intro t
  by_cases ht : t < d.length * 3
  · have e : t = t / 3 * 3 + t % 3 := by omega
    have h3 : t / 3 < d.length := by omega
    have h4 : t % 3 < (triC d[t / 3]).length := by rw [triC_len]; omega
    rw [Array.getElem?_toList]
    have h1 : (d.flatMap triC)[t]? = d[t / 3]?.bind fun x => (triC x)[t % 3]? := by
      have := flat_get triC 3 triC_len d (t / 3) (t % 3) (by omega)
      rwa [← e] at this
    rw [h1, List.getElem?_eq_getElem h3, Option.bind_some, List.getElem?_eq_getElem h4]
    have h5 := get_flatK triC 3 d.toArray t (by simpa using ht)
    have h6 : t < (flatK triC 3 d.toArray).size := by simpa using ht
    rw [Array.getElem?_eq_getElem h6]
    rw [getElem!_pos _ t h6] at h5
    rw [h5]
    congr 1
    rw [getElem!_pos d.toArray (t / 3) (by simpa using h3)]
    simp only [List.getElem_toArray]
    rw [getElem!_pos (triC d[t / 3]) (t % 3) h4]
  · rw [List.getElem?_eq_none (by simp; omega), List.getElem?_eq_none (by rw [flat_len triC 3 triC_len]; omega)]

theorem take_putId (cur F : Array Value) (h : F.size ≤ cur.size) : (putCells id 0 F cur).toList.take F.size = F.toList := by
  apply List.ext_getElem?
  intro j
  by_cases hj : j < F.size
  · rw [List.getElem?_take_of_lt hj, Array.getElem?_toList, Array.getElem?_toList]
    simp [putCells, hj, show j < cur.size by omega]
  · rw [List.getElem?_take_eq_none (by omega), List.getElem?_eq_none (by simp; omega)]

theorem holds_tri {w : World} {base n : Nat} {e : TypeId} {g cap : Nat} {xs : List Tri} (h : w.ownsRow base e 3 (.slice (some ⟨g, 0, none⟩) n cap) n (xs.flatMap triC)) (hn : n = xs.length) : HoldsK triC 3 w g 0 xs.toArray := by
  rcases h.2 with ⟨h0, _⟩ | ⟨g', cap', cur, hv, hg, hb, h1, h2, h3, h4⟩
  · cases h0
  cases hv
  intro j hj
  have hj' : j < xs.length * 3 := by simpa using hj
  refine ⟨?_, by simp [World.frozen?, hb]⟩
  have h5 : (cur.toList.take (n * 3))[j]? = (xs.flatMap triC)[j]? := by rw [h4]
  rw [List.getElem?_take_of_lt (by omega), ← flatK_tri, Array.getElem?_toList, Array.getElem?_toList, Array.getElem?_eq_getElem hj] at h5
  simp only [World.cell?, hb, Nat.zero_add, Option.isSome_none, Bool.false_eq_true, if_false]
  rw [h5, getElem!_pos _ j hj]
  rfl

theorem heap_sortedK {w : World} {g n : Nat} {os : Array Obj} {cur : Array Value} {e : TypeId} {fr : Nat × Nat} (d : Array Tri) (hb : w.heap[g]? = some (.cells cur e fr)) :
    (sortWorldK triC 3 w g 0 n d os).heap[g]? = some (.cells (putCells id 0 (flatK triC 3 d) cur) e fr) := by
  have hg : g < w.heap.size := (Array.getElem?_eq_some_iff.1 hb).1
  unfold sortWorldK putRowK
  rw [heap_grow_old _ _ (by simpa using hg)]
  simp [putRow, mapBlock, Sort.ahead, Array.getElem?_modify, hb, onCells]

theorem grownBy_sortedK {w : World} {g n : Nat} {os : Array Obj} (d : Array Tri) : w.grownBy (sortWorldK triC 3 w g 0 n d os) (some g) := by
  unfold sortWorldK putRowK
  refine ⟨rfl, rfl, rfl, by simp, fun k hk hne => ?_⟩
  rw [heap_grow_old _ _ (by simpa using hk)]
  have : g ≠ k := fun e => hne (by rw [e])
  simp [putRow, mapBlock, Sort.ahead, Array.getElem?_modify, this]

theorem own_sorted {w : World} {base n m : Nat} {e : TypeId} {g cap : Nat} {xs ys : List Tri} {os : Array Obj} (h : w.ownsRow base e 3 (.slice (some ⟨g, 0, none⟩) n cap) n (xs.flatMap triC)) (hl : ys.length = n) :
    (sortWorldK triC 3 w g 0 m ys.toArray os).ownsRow base e 3 (.slice (some ⟨g, 0, none⟩) n cap) n (ys.flatMap triC) := by
  rcases h.2 with ⟨h0, _⟩ | ⟨g', cap', cur, hv, hg, hb, h1, h2, h3, h4⟩
  · cases h0
  cases hv
  refine ⟨by rw [flat_len triC 3 triC_len, hl], .inr ⟨g, cap, _, rfl, hg, heap_sortedK _ hb, h1, h2, by simp [putCells, h3], ?_⟩⟩
  have := take_putId cur (flatK triC 3 ys.toArray) (by simp; omega)
  rw [flatK_tri] at this
  rw [← this]
  simp [hl]
end Go.Proofs.Ytoihhckiacmfcaa
