/- timers: a heap's row of timers as plain rows; what is popped is the head of the sorted list. -/
import Derived.Test.YteondokncalbnaaTsApp
import Derived.Test.YteondokncalbnaaTsAheadG
import Derived.Test.YteondokncalbnaaTmPlain
namespace Go.Proofs.Yteondokncalbnaa
open Go.RowKit

theorem triC_len (x : Tri) : (triC x).length = 5 := rfl
/-- all things are timers -/
def TimTh (xs : List Th) : Prop := ∀ t ∈ xs, ∃ d o k, t.v = timV d o k
def tri (t : Th) : Tri := (t.key, (t.num : Int), intOf (t.v 0), strOf (t.v 1), intOf (t.v 2))
theorem thCT_tri : ∀ (xs : List Th), TimTh xs → xs.flatMap thCT = (xs.map tri).flatMap triC
  | [], _ => rfl
  | t :: xs, h => by
    rw [List.map_cons, List.flatMap_cons, List.flatMap_cons, thCT_tri xs (fun u hu => h u (List.mem_cons_of_mem _ hu))]
    obtain ⟨d, o, k, ha⟩ := h t List.mem_cons_self
    congr 1
    simp [thCT, triC, tri, ha, intOf, strOf, timV]
theorem TabP.tim {xs : List Th} {m : Nm → Option Value} (h : TabP xs m) : TimTh xs := fun t ht => by
  obtain ⟨o, k, e, _⟩ := h.form t ht
  exact ⟨_, o, k, e⟩
/-- no later one is ahead of an elder one -/
def Asc (ys : List Tri) : Prop := ys.Pairwise fun a b => ¬ (b.1 < a.1 ∨ (b.1 = a.1 ∧ b.2.1 < a.2.1))
theorem head_sorted {xs : List Th} {y : Tri} {ys : List Tri} (hh : Heap xs) (ha : Apart xs) (hp : (y :: ys).Perm (xs.map tri)) (hs : Asc (y :: ys)) : 0 < xs.length ∧ y = tri (gT xs 0) := by
  have h0 : 0 < xs.length := by have := hp.length_eq; simp at this; omega
  refine ⟨h0, ?_⟩
  obtain ⟨t, ht, rfl⟩ := List.mem_map.1 (hp.mem_iff.1 List.mem_cons_self)
  obtain ⟨j, hj, rfl⟩ := List.mem_iff_getElem.1 ht
  have hle := hh.least j hj
  rw [gT_of hj] at hle
  have hm : tri (gT xs 0) ∈ tri xs[j] :: ys := hp.mem_iff.2 (List.mem_map.2 ⟨_, mem_gT h0, rfl⟩)
  rcases List.mem_cons.1 hm with h | h
  · exact h.symm
  · have h1 := (List.pairwise_cons.1 hs).1 _ h
    unfold tri at h1
    unfold Th.le at hle
    simp only at h1
    have hnum : xs[j].num = (gT xs 0).num := by omega
    by_cases e : j = 0
    · subst e; rw [gT_of h0]
    · exact absurd (by rw [gT_of hj]; exact hnum) (ha.ne hj h0 e)
/-- behind a pop the tail is the sorted list of what is left -/
theorem tail_sorted {xs zs : List Th} {y : Tri} {ys : List Tri} (hh : Heap xs) (ha : Apart xs) (hp : (y :: ys).Perm (xs.map tri)) (hs : Asc (y :: ys)) (hz : (gT xs 0 :: zs).Perm xs) : ys.Perm (zs.map tri) ∧ Asc ys := by
  obtain ⟨h0, rfl⟩ := head_sorted hh ha hp hs
  refine ⟨?_, (List.pairwise_cons.1 hs).2⟩
  have h1 := hp.trans (hz.map tri).symm
  rw [List.map_cons] at h1
  exact (List.perm_cons _).1 h1
theorem ownsRow_base' {W : World} {base base' : Nat} {e : TypeId} {size : Nat} {v : Value} {k : Nat} {xs : List Value} (h : W.ownsRow base e size v k xs) (hb : base' ≤ base) : W.ownsRow base' e size v k xs := by
  refine ⟨h.1, ?_⟩
  rcases h.2 with hn | ⟨g, cap, cur, hv, hbg, rest⟩
  · exact .inl hn
  · exact .inr ⟨g, cap, cur, hv, Nat.le_trans hb hbg, rest⟩
theorem tri_cells {w : World} {base n g cap : Nat} {ys : List Tri} (h : w.ownsRow base 92 5 (.slice (some ⟨g, 0, none⟩) n cap) n (ys.flatMap triC)) (hn : ys.length = n) : TriRow w g ys := fun k hk => by
  have hx : ∀ j, j < 5 → w.cell? ⟨g, k * 5 + j, none⟩ = (triC ys[k])[j]? := fun j hj => by
    rw [h.cellAt _ (by omega), flat_get triC 5 triC_len ys k j hj, List.getElem?_eq_getElem hk]
    rfl
  have h0 := hx 0 (by omega)
  rw [Nat.add_zero] at h0
  exact ⟨h0, hx 1 (by omega), hx 2 (by omega), hx 3 (by omega), hx 4 (by omega)⟩
end Go.Proofs.Yteondokncalbnaa
