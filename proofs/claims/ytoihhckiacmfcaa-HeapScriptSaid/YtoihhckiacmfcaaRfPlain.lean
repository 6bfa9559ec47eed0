/- The document's heap (prompterref03) beside the program's, in plain Lean. -/
import Derived.Test.YtoihhckiacmfcaaHpSortsPlain
namespace Go.Proofs.Ytoihhckiacmfcaa
open Go.RowKit

def gR (rs : List Tri) (j : Nat) : Tri := rs.getD j (0, 0, 0)
theorem gR_of {rs : List Tri} {j : Nat} (h : j < rs.length) : gR rs j = rs[j] := by simp [gR, List.getD, h]
theorem gR_mem {rs : List Tri} {j : Nat} (h : j < rs.length) : gR rs j ∈ rs := by rw [gR_of h]; exact List.getElem_mem h
/-- the numbers rise -/
structure Ris (rs : List Tri) (nx : Nat) : Prop where
  up : rs.Pairwise fun a b => a.2.1 < b.2.1
  lo : ∀ x ∈ rs, 0 ≤ x.2.1 ∧ x.2.1 < (nx : Int)
theorem Ris.lt {rs : List Tri} {nx : Nat} (h : Ris rs nx) {i j : Nat} (hij : i < j) (hj : j < rs.length) : (gR rs i).2.1 < (gR rs j).2.1 := by
  rw [gR_of (by omega), gR_of hj]
  exact (List.pairwise_iff_getElem.1 h.up) i j (by omega) hj hij
theorem Ris.uniq {rs : List Tri} {nx : Nat} (h : Ris rs nx) {x y : Tri} (hx : x ∈ rs) (hy : y ∈ rs) (e : x.2.1 = y.2.1) : x = y := by
  obtain ⟨i, hi, rfl⟩ := List.mem_iff_getElem.1 hx
  obtain ⟨j, hj, rfl⟩ := List.mem_iff_getElem.1 hy
  rcases Nat.lt_trichotomy i j with h1 | rfl | h1
  · have := h.lt h1 hj; rw [gR_of hi, gR_of hj] at this; omega
  · rfl
  · have := h.lt h1 hi; rw [gR_of hi, gR_of hj] at this; omega
/-- the first one of the first i -/
def FstP (rs : List Tri) (i : Nat) (a : Int) : Prop := (i = 0 ∧ a = -1) ∨ ∃ q : Nat, q < i ∧ a = (q : Int) ∧ ∀ j, j < i → (gR rs q).1 ≤ (gR rs j).1 ∧ (j < q → (gR rs q).1 < (gR rs j).1)
theorem FstP.take0 (rs : List Tri) : FstP rs 1 0 := by
  refine .inr ⟨0, by omega, rfl, fun j hj => ?_⟩
  obtain rfl : j = 0 := by omega
  exact ⟨Int.le_refl _, fun h => absurd h (Nat.not_lt_zero _)⟩
theorem FstP.take {rs : List Tri} {i q : Nat} (h : FstP rs i (q : Int)) (hc : (gR rs i).1 < (gR rs q).1) : FstP rs (i + 1) (i : Int) := by
  rcases h with ⟨_, h⟩ | ⟨q', hq, e, h⟩
  · omega
  obtain rfl : q = q' := by omega
  refine .inr ⟨i, by omega, rfl, fun j hj => ?_⟩
  by_cases e : j = i
  · subst e; exact ⟨Int.le_refl _, fun h => absurd h (Nat.lt_irrefl _)⟩
  · have := h j (by omega); omega
theorem FstP.leave {rs : List Tri} {i q : Nat} (h : FstP rs i (q : Int)) (hc : ¬ (gR rs i).1 < (gR rs q).1) : FstP rs (i + 1) (q : Int) := by
  rcases h with ⟨_, h⟩ | ⟨q', hq, e, h⟩
  · omega
  obtain rfl : q = q' := by omega
  refine .inr ⟨q, by omega, rfl, fun j hj => ?_⟩
  by_cases e : j = i
  · subst e; exact ⟨by omega, fun h => by omega⟩
  · exact h j (by omega)
theorem FstP.cases {rs : List Tri} {i : Nat} {a : Int} (h : FstP rs i a) : (i = 0 ∧ a = -1) ∨ ∃ q : Nat, q < i ∧ a = (q : Int) := h.imp id fun ⟨q, h1, h2, _⟩ => ⟨q, h1, h2⟩
theorem FstP.least {rs : List Tri} {nx : Nat} {a : Int} (h : FstP rs rs.length a) (hr : Ris rs nx) (h0 : 0 < rs.length) : ∃ q : Nat, a = (q : Int) ∧ q < rs.length ∧ ∀ x ∈ rs, (gR rs q).1 < x.1 ∨ (gR rs q).1 = x.1 ∧ (gR rs q).2.1 ≤ x.2.1 := by
  rcases h with ⟨h, _⟩ | ⟨q, hq, rfl, h⟩
  · omega
  refine ⟨q, rfl, hq, fun x hx => ?_⟩
  obtain ⟨j, hj, rfl⟩ := List.mem_iff_getElem.1 hx
  have h1 := h j hj
  rw [← gR_of hj]
  by_cases e : j < q
  · have := h1.2 e; omega
  · by_cases e2 : j = q
    · subst e2; omega
    · have := hr.lt (i := q) (j := j) (by omega) hj; omega

theorem cons_erase {α : Type} {l : List α} {i : Nat} (h : i < l.length) : (l[i] :: l.eraseIdx i).Perm l := by
  rw [List.eraseIdx_eq_take_drop_succ]
  refine List.perm_middle.symm.trans ?_
  rw [List.getElem_cons_drop h, List.take_append_drop]
theorem set_erase {α : Type} {l : List α} {i : Nat} (h : i < l.length) (a : α) : (l.set i a).Perm (a :: l.eraseIdx i) := by
  rw [List.eraseIdx_eq_take_drop_succ, List.set_eq_take_append_cons_drop, if_pos h]
  exact List.perm_middle
/-- the two heaps hold the same -/
structure Cor (xs : List Th) (rs : List Tri) (nx : Nat) : Prop where
  int : IntTh xs
  perm : (xs.map tri).Perm rs
  ris : Ris rs nx
section
variable {xs zs : List Th} {rs : List Tri} {nx : Nat}
theorem Cor.len (h : Cor xs rs nx) : rs.length = xs.length := by have := h.perm.length_eq; simpa using this.symm
theorem Cor.nil : Cor [] [] 0 := ⟨fun t ht => absurd ht (by simp), .refl _, List.Pairwise.nil, by simp⟩
theorem Cor.mem (h : Cor xs rs nx) {t : Th} (ht : t ∈ xs) : tri t ∈ rs := h.perm.mem_iff.1 (List.mem_map.2 ⟨t, ht, rfl⟩)
theorem Cor.head (h : Cor xs rs nx) (hh : Heap xs) (h0 : 0 < xs.length) {q : Nat} (hq : q < rs.length) (hl : ∀ x ∈ rs, (gR rs q).1 < x.1 ∨ (gR rs q).1 = x.1 ∧ (gR rs q).2.1 ≤ x.2.1) : gR rs q = tri (gT xs 0) := by
  have h1 := hl _ (h.mem (mem_gT h0))
  obtain ⟨t, ht, e⟩ := List.mem_map.1 (h.perm.mem_iff.2 (gR_mem hq))
  obtain ⟨j, hj, rfl⟩ := List.mem_iff_getElem.1 ht
  have h2 := hh.least j hj
  rw [gT_of hj] at h2
  unfold Th.le at h2
  refine h.ris.uniq (gR_mem hq) (h.mem (mem_gT h0)) ?_
  rw [← e] at h1 ⊢
  unfold tri at *
  simp only at *
  omega
theorem Cor.idx (h : Cor xs rs nx) {j : Nat} (hj : j < xs.length) : ∃ q, q < rs.length ∧ gR rs q = tri (gT xs j) := by
  obtain ⟨q, hq, e⟩ := List.mem_iff_getElem.1 (h.mem (mem_gT hj))
  exact ⟨q, hq, by rw [gR_of hq, e]⟩
theorem Cor.of_num (h : Cor xs rs nx) {j q : Nat} (hj : j < xs.length) (hq : q < rs.length) (e : (gR rs q).2.1 = ((gT xs j).num : Int)) : gR rs q = tri (gT xs j) :=
  h.ris.uniq (gR_mem hq) (h.mem (mem_gT hj)) e
theorem Ris.sub {rs ss : List Tri} (h : Ris rs nx) (hs : ss.Sublist rs) : Ris ss nx := ⟨h.up.sublist hs, fun x hx => h.lo x (hs.subset hx)⟩
theorem Cor.out (h : Cor xs rs nx) {x : Th} (hp : (x :: zs).Perm xs) {q : Nat} (hq : q < rs.length) (e : gR rs q = tri x) : Cor zs (rs.eraseIdx q) nx := by
  refine ⟨fun t ht => h.int t (hp.mem_iff.1 (List.mem_cons_of_mem _ ht)), ?_, h.ris.sub (List.eraseIdx_sublist _ _)⟩
  have h1 := (hp.map tri).trans h.perm
  have h2 := cons_erase hq
  rw [← gR_of hq, e] at h2
  rw [List.map_cons] at h1
  exact (List.perm_cons _).1 (h1.trans h2.symm)
theorem Cor.push (h : Cor xs rs nx) (key a : Int) (hp : zs.Perm (xs ++ [⟨key, nx, fun _ => .int .i64 a⟩])) : Cor zs (rs ++ [(key, (nx : Int), a)]) (nx + 1) := by
  refine ⟨fun t ht => ?_, ?_, ?_, ?_⟩
  · rcases List.mem_append.1 (hp.mem_iff.1 ht) with h1 | h1
    · exact h.int t h1
    · simp at h1; subst h1; exact ⟨a, rfl⟩
  · refine (hp.map tri).trans ?_
    rw [List.map_append]
    exact h.perm.append_right _
  · rw [List.pairwise_append]
    refine ⟨h.ris.up, by simp, fun x hx y hy => ?_⟩
    simp at hy
    subst hy
    exact (h.ris.lo x hx).2
  · intro x hx
    rcases List.mem_append.1 hx with h1 | h1
    · have := h.ris.lo x h1; omega
    · simp at h1; subst h1; simp only; omega
theorem Cor.change (h : Cor xs rs nx) {key : Int} {j q : Nat} (hj : j < xs.length) (hq : q < rs.length) (e : gR rs q = tri (gT xs j)) (hp : zs.Perm (xs.set j ⟨key, (gT xs j).num, (gT xs j).v⟩)) :
    Cor zs (rs.set q (key, (gR rs q).2.1, (gR rs q).2.2)) nx := by
  have hnum : ∀ i, i < rs.length → ((rs.set q (key, (gR rs q).2.1, (gR rs q).2.2))[i]?.map (·.2.1)) = some (gR rs i).2.1 := fun i hi => by
    rw [List.getElem?_set]
    by_cases e : q = i
    · subst e; simp [hi]
    · rw [if_neg e, List.getElem?_eq_getElem hi, gR_of hi]; rfl
  refine ⟨fun t ht => ?_, ?_, ?_, ?_⟩
  · rcases List.mem_or_eq_of_mem_set (hp.mem_iff.1 ht) with h1 | rfl
    · exact h.int t h1
    · exact (show ∃ a : Int, (gT xs j).v = fun _ => .int .i64 a from h.int _ (mem_gT hj))
  · refine (hp.map tri).trans ?_
    have e1 : (xs.set j ⟨key, (gT xs j).num, (gT xs j).v⟩).Perm (⟨key, (gT xs j).num, (gT xs j).v⟩ :: xs.eraseIdx j) := set_erase hj _
    have e2 : (rs.set q (key, (gR rs q).2.1, (gR rs q).2.2)).Perm ((key, (gR rs q).2.1, (gR rs q).2.2) :: rs.eraseIdx q) := set_erase hq _
    have e3 := cons_erase hq
    have e4 := cons_erase hj
    rw [← gR_of hq, e] at e3
    rw [← gT_of hj] at e4
    have e5 := (e4.map tri).trans (h.perm.trans e3.symm)
    rw [List.map_cons] at e5
    have e6 := (List.perm_cons _).1 e5
    refine ((e1.map tri).trans ?_).trans e2.symm
    rw [List.map_cons, e]
    exact e6.cons _
  · rw [List.pairwise_iff_getElem]
    intro a b ha hb hab
    have ha' : a < rs.length := by simpa using ha
    have hb' : b < rs.length := by simpa using hb
    have h1 := hnum a ha'
    have h2 := hnum b hb'
    rw [List.getElem?_eq_getElem ha] at h1
    rw [List.getElem?_eq_getElem hb] at h2
    simp only [Option.map_some, Option.some.injEq] at h1 h2
    rw [h1, h2]
    exact h.ris.lt hab hb'
  · intro x hx
    rcases List.mem_or_eq_of_mem_set hx with h1 | rfl
    · exact h.ris.lo x h1
    · exact (show 0 ≤ (gR rs q).2.1 ∧ (gR rs q).2.1 < (nx : Int) from h.ris.lo _ (gR_mem hq))
end
/-- two ways to lay the same things in order are one -/
theorem asc_uniq : ∀ (ys us : List Tri), ys.Perm us → Asc ys → Asc us → (∀ x ∈ ys, ∀ y ∈ ys, x.2.1 = y.2.1 → x = y) → ys = us
  | [], us, hp, _, _, _ => by rw [List.nil_perm.1 hp]
  | y :: ys, [], hp, _, _, _ => by have := hp.length_eq; simp at this
  | y :: ys, u :: us, hp, h1, h2, hu => by
    have e : y = u := by
      have hm1 : u ∈ y :: ys := hp.mem_iff.2 List.mem_cons_self
      have hm2 : y ∈ u :: us := hp.mem_iff.1 List.mem_cons_self
      rcases List.mem_cons.1 hm1 with h | h
      · exact h.symm
      rcases List.mem_cons.1 hm2 with h' | h'
      · exact h'
      have a := (List.pairwise_cons.1 h1).1 u h
      have b := (List.pairwise_cons.1 h2).1 y h'
      exact hu y List.mem_cons_self u hm1 (by omega)
    subst e
    rw [asc_uniq ys us ((List.perm_cons _).1 hp) (List.pairwise_cons.1 h1).2 (List.pairwise_cons.1 h2).2 fun x hx y hy => hu x (List.mem_cons_of_mem _ hx) y (List.mem_cons_of_mem _ hy)]
end Go.Proofs.Ytoihhckiacmfcaa
