/- check: sorted and compacted is the document list (plain). -/
import Derived.Lib.RowBridge
import Derived.Lib.SlicesCompact
namespace Go.Proofs.Ytmacmejpcpdnnaa
def insS (out : List (List UInt8)) (x : List UInt8) : List (List UInt8) :=
  match out with
  | [] => [x]
  | y :: ys => if y < x then y :: insS ys x else if y = x then y :: ys else x :: y :: ys
theorem insS_mem (x z : List UInt8) : ∀ out, z ∈ insS out x ↔ z = x ∨ z ∈ out := by
  intro out
  induction out with
  | nil => simp [insS]
  | cons y ys ih =>
    unfold insS
    split
    · simp [ih]; constructor
      · rintro (h | h | h) <;> simp [h]
      · rintro (h | h | h) <;> simp [h]
    · split
      · next h => subst h; simp
      · simp
theorem trich {x y : List UInt8} (h1 : ¬ y < x) (h2 : ¬ y = x) : x < y := by
  rcases Decidable.em (x < y) with h | h
  · exact h
  · exact absurd (List.le_antisymm (List.not_lt.1 h) (List.not_lt.1 h1)) h2
theorem insS_pw (x : List UInt8) : ∀ out : List (List UInt8), out.Pairwise (· < ·) → (insS out x).Pairwise (· < ·) := by
  intro out
  induction out with
  | nil => intro _; simp [insS]
  | cons y ys ih =>
    intro h
    obtain ⟨h1, h2⟩ := List.pairwise_cons.1 h
    unfold insS
    split
    · next hlt =>
      refine List.pairwise_cons.2 ⟨fun z hz => ?_, ih h2⟩
      rcases (insS_mem x z ys).1 hz with rfl | hz
      · exact hlt
      · exact h1 z hz
    · split
      · exact h
      · next n1 n2 =>
        have hx := trich n1 n2
        refine List.pairwise_cons.2 ⟨fun z hz => ?_, h⟩
        rcases List.mem_cons.1 hz with rfl | hz
        · exact hx
        · exact List.lt_trans hx (h1 z hz)
theorem foldIns_pw (l : List (List UInt8)) : ∀ out : List (List UInt8), out.Pairwise (· < ·) → (l.foldl insS out).Pairwise (· < ·) := by
  induction l with
  | nil => intro out h; exact h
  | cons x xs ih => intro out h; exact ih _ (insS_pw x out h)
theorem foldIns_mem (z : List UInt8) (l : List (List UInt8)) : ∀ out : List (List UInt8), z ∈ l.foldl insS out ↔ z ∈ l ∨ z ∈ out := by
  induction l with
  | nil => intro out; simp
  | cons x xs ih =>
    intro out
    simp only [List.foldl_cons, ih, insS_mem, List.mem_cons]
    constructor
    · rintro (h | h | h) <;> simp [h]
    · rintro ((h | h) | h) <;> simp [h]
theorem pw_ext {l1 l2 : List (List UInt8)} (h1 : l1.Pairwise (· < ·)) (h2 : l2.Pairwise (· < ·)) (h : ∀ z, z ∈ l1 ↔ z ∈ l2) : l1 = l2 := by
  have nd : ∀ {l : List (List UInt8)}, l.Pairwise (· < ·) → l.Nodup := fun hp => hp.imp fun {a b} hab e => by subst e; exact List.lt_irrefl _ hab
  have hp := (List.perm_ext_iff_of_nodup (nd h1) (nd h2)).2 h
  exact List.Perm.eq_of_pairwise (le := fun a b => a < b) (fun a b _ _ x y => absurd (List.lt_trans x y) (List.lt_irrefl _)) h1 h2 hp
/-- compact of a rising list: strictly rising, of the same members -/
theorem upTo_facts (d : List (List UInt8)) (hd : d.Pairwise (· ≤ ·)) : ∀ m, m ≤ d.length → (Lib.compactUpTo d.toArray m).Pairwise (· < ·) ∧ (∀ z, z ∈ Lib.compactUpTo d.toArray m ↔ z ∈ d.take m) := by
  intro m
  induction m with
  | zero => intro _; simp [Lib.compactUpTo]
  | succ m ih =>
    intro hm
    obtain ⟨i1, i2⟩ := ih (by omega)
    have hl : m < d.length := by omega
    have hg : d.toArray[m]! = d[m] := by simp [getElem!_pos, hl]
    rw [Lib.compactUpTo_succ, hg, List.take_succ_eq_append_getElem hl]
    have hle : ∀ z ∈ d.take m, z ≤ d[m] := by
      intro z hz
      obtain ⟨j, hj, rfl⟩ := List.getElem_of_mem hz
      rw [List.getElem_take]
      simp at hj
      exact List.pairwise_iff_getElem.1 hd j m (by omega) hl (by omega)
    by_cases hk : Lib.keeps d.toArray m = true
    · rw [if_pos hk]
      refine ⟨List.pairwise_append.2 ⟨i1, by simp, fun a ha b hb => ?_⟩, fun z => by rw [List.mem_append, i2, List.mem_append]⟩
      simp at hb
      subst hb
      have ha' := (i2 a).1 ha
      refine trich ?_ ?_
      · exact List.not_lt.2 (hle a ha')
      · intro e
        subst e
        have h0 : m ≠ 0 := by intro h0; subst h0; simp at ha'
        have hg1 : d.toArray[m - 1]! = d[m - 1] := by simp [getElem!_pos, show m - 1 < d.length by omega]
        simp only [Lib.keeps, decide_eq_true_eq, h0, false_or, hg, hg1] at hk
        obtain ⟨j, hj, hje⟩ := List.getElem_of_mem ha'
        rw [List.getElem_take] at hje
        simp at hj
        have q1 : d[m] ≤ d[m - 1] := by
          rw [← hje]
          rcases Nat.eq_or_lt_of_le (show j ≤ m - 1 by omega) with e | e
          · subst e; exact List.le_refl _
          · exact List.pairwise_iff_getElem.1 hd j (m - 1) (by omega) (by omega) e
        exact hk (List.le_antisymm q1 (List.pairwise_iff_getElem.1 hd (m - 1) m (by omega) hl (by omega)))
    · rw [if_neg hk, List.append_nil]
      refine ⟨i1, fun z => ?_⟩
      rw [i2, List.mem_append]
      constructor
      · exact .inl
      · rintro (h | h)
        · exact h
        · simp at h
          subst h
          have h0 : m ≠ 0 := by intro h0; subst h0; simp [Lib.keeps] at hk
          have hg1 : d.toArray[m - 1]! = d[m - 1] := by simp [getElem!_pos, show m - 1 < d.length by omega]
          simp only [Lib.keeps, decide_eq_true_eq, h0, false_or, hg, hg1, Decidable.not_not] at hk
          rw [hk]
          exact List.mem_take_iff_getElem.2 ⟨m - 1, by omega, rfl⟩
theorem sort_eq (l : List (List UInt8)) : Lib.compact (l.mergeSort fun x y => decide (x ≤ y)) = l.foldl insS [] := by
  have hs : (l.mergeSort fun x y => decide (x ≤ y)).Pairwise (· ≤ ·) := by
    refine (List.pairwise_mergeSort (le := fun x y => decide (x ≤ y)) ?_ ?_ l).imp fun {a b} h => by simpa using h
    · intro a b c h1 h2
      simp only [decide_eq_true_eq] at *
      exact List.le_trans h1 h2
    · intro a b
      have := List.le_total a b
      simpa using this
  obtain ⟨h1, h2⟩ := upTo_facts _ hs _ (Nat.le_refl _)
  refine pw_ext h1 (foldIns_pw l [] List.Pairwise.nil) fun z => ?_
  rw [foldIns_mem]
  unfold Lib.compact at *
  rw [h2, List.take_length]
  simp [(List.mergeSort_perm l _).mem_iff]
theorem insS_at (x : List UInt8) : ∀ (out : List (List UInt8)) (k : Nat), k ≤ out.length → (∀ j (h : j < out.length), j < k → out[j] < x) → (∀ h : k < out.length, ¬ out[k] < x) →
    insS out x = if out[k]? = some x then out else out.take k ++ x :: out.drop k := by
  intro out
  induction out with
  | nil => intro k hk _ _; simp at hk; subst hk; simp [insS]
  | cons y ys ih =>
    intro k hk h1 h2
    cases k with
    | zero =>
      have h2' := h2 (by simp)
      simp at h2'
      unfold insS
      rw [if_neg (by simpa using h2')]
      by_cases e : y = x
      · simp [e]
      · simp [e]
    | succ k =>
      have hy := h1 0 (by simp) (by omega)
      simp at hy
      unfold insS
      rw [if_pos (by simpa using hy), ih k (by simp at hk; omega) (fun j h hj => by have := h1 (j + 1) (by simp; omega) (by omega); simpa using this) (fun h => by have := h2 (by simp; omega); simpa using this)]
      simp only [List.getElem?_cons_succ, List.take_succ_cons, List.drop_succ_cons]
      split <;> simp
end Go.Proofs.Ytmacmejpcpdnnaa
