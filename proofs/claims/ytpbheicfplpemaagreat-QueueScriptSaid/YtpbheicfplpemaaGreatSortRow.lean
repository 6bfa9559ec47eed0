/- An owned row of things of any width that the library has sorted (slices.SortFunc). -/
import Derived.Test.YtpbheicfplpemaaGreatBlk
import Derived.Test.YtpbheicfplpemaaGreatRows
import Derived.Shelf.SlSortCmp.WholeK
import Derived.Shelf.GgSortFunc.InsertionK
import Derived.Sort.OwnSortedInts
namespace Go.Proofs.YtpbheicfplpemaaGreat
open Go.RowKit Go.Sort Go.Shelf
section
variable {α : Type} [Inhabited α] (enc : α → List Value) (k : Nat) (hk : ∀ x, (enc x).length = k) (h0 : 0 < k)
include hk h0
theorem flatK_flat (d : List α) : (flatK enc k d.toArray).toList = d.flatMap enc := by
  apply List.ext_getElem?
  intro t
  by_cases ht : t < d.length * k
  · have e : t / k * k + t % k = t := Nat.div_add_mod' t k
    have h3 : t / k < d.length := (Nat.div_lt_iff_lt_mul h0).2 ht
    have hm : t % k < k := Nat.mod_lt _ h0
    have h4 : t % k < (enc d[t / k]).length := by rw [hk]; exact hm
    rw [Array.getElem?_toList]
    have h1 : (d.flatMap enc)[t]? = d[t / k]?.bind fun x => (enc x)[t % k]? := by
      have := flat_get enc k hk d (t / k) (t % k) hm
      rwa [e] at this
    rw [h1, List.getElem?_eq_getElem h3, Option.bind_some, List.getElem?_eq_getElem h4]
    have h5 := get_flatK enc k d.toArray t (by simpa using ht)
    have h6 : t < (flatK enc k d.toArray).size := by simpa using ht
    rw [Array.getElem?_eq_getElem h6]
    rw [getElem!_pos _ t h6] at h5
    rw [h5]
    congr 1
    rw [getElem!_pos d.toArray (t / k) (by simpa using h3)]
    simp only [List.getElem_toArray]
    rw [getElem!_pos (enc d[t / k]) (t % k) h4]
  · rw [List.getElem?_eq_none (by simp; omega), List.getElem?_eq_none (by rw [flat_len enc k hk]; omega)]
omit hk h0 in
theorem take_putId (cur F : Array Value) (h : F.size ≤ cur.size) : (putCells id 0 F cur).toList.take F.size = F.toList := by
  apply List.ext_getElem?
  intro j
  by_cases hj : j < F.size
  · rw [List.getElem?_take_of_lt hj, Array.getElem?_toList, Array.getElem?_toList]
    simp [putCells, hj, show j < cur.size by omega]
  · rw [List.getElem?_take_eq_none (by omega), List.getElem?_eq_none (by simp; omega)]
theorem holds_flat {w : World} {base n : Nat} {e : TypeId} {g cap : Nat} {xs : List α} (h : w.ownsRow base e k (.slice (some ⟨g, 0, none⟩) n cap) n (xs.flatMap enc)) (hn : n = xs.length) : HoldsK enc k w g 0 xs.toArray := by
  rcases h.2 with ⟨h0', _⟩ | ⟨g', cap', cur, hv, hg, hb, h1, h2, h3, h4⟩
  · cases h0'
  cases hv
  intro j hj
  have hj' : j < xs.length * k := by simpa using hj
  refine ⟨?_, by simp [World.frozen?, hb]⟩
  have h5 : (cur.toList.take (n * k))[j]? = (xs.flatMap enc)[j]? := by rw [h4]
  rw [List.getElem?_take_of_lt (by rw [hn]; exact hj'), ← flatK_flat enc k hk h0, Array.getElem?_toList, Array.getElem?_toList, Array.getElem?_eq_getElem hj] at h5
  simp only [World.cell?, hb, Nat.zero_add, Option.isSome_none, Bool.false_eq_true, if_false]
  rw [h5, getElem!_pos _ j hj]
  rfl
omit hk h0 in
theorem heap_sortedK {w : World} {g n : Nat} {os : Array Obj} {cur : Array Value} {e : TypeId} {fr : Nat × Nat} (d : Array α) (hb : w.heap[g]? = some (.cells cur e fr)) :
    (sortWorldK enc k w g 0 n d os).heap[g]? = some (.cells (putCells id 0 (flatK enc k d) cur) e fr) := by
  have hg : g < w.heap.size := (Array.getElem?_eq_some_iff.1 hb).1
  unfold sortWorldK putRowK
  rw [heap_grow_old _ _ (by simpa using hg)]
  simp [putRow, mapBlock, Sort.ahead, Array.getElem?_modify, hb, onCells]
omit hk h0 in
theorem grownBy_sortedK {w : World} {g n : Nat} {os : Array Obj} (d : Array α) : w.grownBy (sortWorldK enc k w g 0 n d os) (some g) := by
  unfold sortWorldK putRowK
  refine ⟨rfl, rfl, rfl, by simp, fun k hk hne => ?_⟩
  rw [heap_grow_old _ _ (by simpa using hk)]
  have : g ≠ k := fun e => hne (by rw [e])
  simp [putRow, mapBlock, Sort.ahead, Array.getElem?_modify, this]
theorem own_sorted {w : World} {base n m : Nat} {e : TypeId} {g cap : Nat} {xs ys : List α} {os : Array Obj} (h : w.ownsRow base e k (.slice (some ⟨g, 0, none⟩) n cap) n (xs.flatMap enc)) (hl : ys.length = n) :
    (sortWorldK enc k w g 0 m ys.toArray os).ownsRow base e k (.slice (some ⟨g, 0, none⟩) n cap) n (ys.flatMap enc) := by
  rcases h.2 with ⟨h0', _⟩ | ⟨g', cap', cur, hv, hg, hb, h1, h2, h3, h4⟩
  · cases h0'
  cases hv
  have hcs : n * k ≤ cur.size := by rw [h3]; exact Nat.mul_le_mul_right k h1
  refine ⟨by rw [flat_len enc k hk, hl], .inr ⟨g, cap, _, rfl, hg, heap_sortedK enc k _ hb, h1, h2, by simp [putCells, h3], ?_⟩⟩
  have := take_putId cur (flatK enc k ys.toArray) (by simp [hl]; exact hcs)
  rw [flatK_flat enc k hk h0] at this
  rw [← this]
  simp [hl]
omit hk h0 in
theorem perm_of {d d' : Array α} (h : PermIn 0 d.size d d') : d'.toList.Perm d.toList := by
  have := h.2.2
  rwa [Array.extract_size, ← h.1, Array.extract_size] at this
/-- slices.SortFunc at an owned row -/
theorem sort_own {P : Program} {ρ : Go.Shelf.Ren} (L : SlLaysF0.n6 P ρ) (aE : ∀ w, (isAgg (ρ.t 24)).run P w = .ok true w) (zE : ∀ w, (Go.sizeOf (ρ.t 24)).run P w = .ok k w) (h1 : ∀ x, ∀ v ∈ enc x, v.oneCell' = true) (cf : α → α → Int) (hO : SWO (ltOf cf)) (g : Nat) (cb : Array Value)
    (eg : ∀ args w, (callFunc g args).run P w = .ok (.enter g args) w) (w : World) (base blk cap n : Nat) (e : TypeId) (xs : List α) (hcmp : CmpLays P g cb enc k cf blk 0 xs.length w) (h : w.ownsRow base e k (.slice (some ⟨blk, 0, none⟩) n cap) n (xs.flatMap enc)) (hn : n = xs.length) (hg : blk < w.heap.size) (hle : xs.length ≤ 1000000) :
    Calls P (ρ.f 6) #[.slice (some ⟨blk, 0, none⟩) n cap, .func (.func g) #[] cb] w fun e' w' => e' = .returned (.tuple #[]) ∧
      ∃ ys : List α, ys.Perm xs ∧ SortedIn (ltOf cf) 0 n ys.toArray ∧ w'.ownsRow base e k (.slice (some ⟨blk, 0, none⟩) n cap) n (ys.flatMap enc) ∧ w.grownBy w' (some blk) := by
  have hcon := AnyQ.slices_SortFunc L k aE zE enc hk h1 cf hO g cb blk 0 cap xs.toArray w eg (by simpa using hcmp) (holds_flat enc k hk h0 h hn) hg (by simp; omega)
  subst hn
  simp only [List.size_toArray] at hcon
  refine hcon.mono ?_
  rintro e' w' ⟨he, d', m, os, hp, hs, rfl⟩
  have hpl : d'.toList.Perm xs := perm_of (d := xs.toArray) (by simpa using hp)
  refine ⟨he, d'.toList, hpl, by simpa using hs, ?_, grownBy_sortedK enc k d'⟩
  have := own_sorted enc k hk h0 (ys := d'.toList) (m := m) (os := os) h hpl.length_eq
  simpa using this
end
end Go.Proofs.YtpbheicfplpemaaGreat
