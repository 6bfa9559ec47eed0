/- Plain laws: what is read as a value is a value; where a reading fails. -/
import Derived.Test.YticipdjfkpakpaaNodeOnce
namespace Go.Proofs.Yticipdjfkpakpaa
open Go.RowKit

theorem opn_le : ∀ (xs : List Nd) (t : Nat), (∀ x ∈ xs, x.kids ≤ 1024) → opn t xs ≤ t + 1024 * xs.length := by
  intro xs
  induction xs with
  | nil => intro t _; simp [opn]
  | cons x xs ih =>
    intro t h
    have h1 := ih (t - 1 + x.kids) (fun y hy => h y (by simp [hy]))
    have h2 := h x (by simp)
    simp only [opn, List.length_cons]
    omega
def szOf : List Nd → Nat | [] => 0 | x :: xs => 1 + x.text.length + szOf xs
theorem szOf_snoc (xs : List Nd) (x : Nd) : szOf (xs ++ [x]) = szOf xs + (1 + x.text.length) := by
  induction xs with
  | nil => simp [szOf]
  | cons y ys ih => simp only [List.cons_append, szOf, ih]; omega
theorem msr_with (xs : List Nd) (hf : ∀ j, Fit (xs[j]?.getD (nd0 0), opn 1 (xs.take (j + 1)))) : ∀ k, k ≤ xs.length → msr (withOpen xs hf k) = szOf (xs.take k) := by
  intro k
  induction k with
  | zero => intro _; rfl
  | succ k ih =>
    intro h
    rw [withOpen_succ, msr_snoc, ih (by omega)]
    show szOf (xs.take k) + (1 + (xs[k]?.getD (nd0 0)).text.length) = szOf (xs.take (k + 1))
    rw [List.take_succ_eq_append_getElem (by omega), szOf_snoc, List.getElem?_eq_getElem (by omega)]
    rfl

/-- what holds of the nodes that were read so far -/
structure VInv (l : List UInt8) (acc : List Nd) (a size todo : Nat) : Prop where
  few : acc.length ≤ 1024
  ok : ∀ x ∈ acc, x.ok ∧ I64 x.int ∧ x.text.length ≤ 4096
  op : ∀ k, k < acc.length → 1 ≤ opn 1 (acc.take k)
  todo : opn 1 acc = todo
  bytes : flatB acc = sub l 0 a
  szq : szOf acc = size
  leq : size ≤ 4096
  at_ : a ≤ l.length
/-- where a reading fails -/
def Er (l : List UInt8) (p en : Nat) : Prop := p ≤ l.length ∧ (p = l.length ↔ en = 4)

theorem rdU_er {l : List UInt8} : ∀ (f a i n p en : Nat), i + f = 10 → 0 < f → Cd.rdU l f a i n = .error (p, en) → Er l p en := by
  intro f
  induction f with
  | zero => intro a i n p en _ h; omega
  | succ f ih =>
    intro a i n p en hi _ h
    by_cases ha : a < l.length
    · by_cases hb : (l[a].toNat = 0 ∧ 0 < i) ∨ (i = 9 ∧ l[a].toNat ≠ 1)
      · rw [Cd.rdU_bad ha hb] at h
        injection h with h; injection h with h1 h2; subst h1 h2
        exact ⟨by omega, by omega⟩
      · by_cases hc : l[a].toNat < 128
        · rw [Cd.rdU_end ha hb hc] at h; cases h
        · rw [Cd.rdU_more ha hb hc] at h
          exact ih _ _ _ _ _ (by omega) (by omega) h
    · rw [Cd.rdU_short ha] at h
      injection h with h; injection h with h1 h2; subst h1 h2
      exact ⟨Nat.le_refl _, by simp⟩
theorem rdUint_er {l : List UInt8} {a p en : Nat} (h : Cd.rdUint l a = .error (p, en)) : Er l p en := rdU_er 10 a 0 0 p en (by omega) (by omega) h

theorem rdNode_er {l : List UInt8} {a size p en : Nat} (ha : a < l.length) (h : rdNode l a size = .error (p, en)) : Er l p en := by
  unfold rdNode at h
  rw [dif_pos ha] at h
  split at h
  · cases h
  · split at h
    · split at h
      · split at h
        · injection h with h; injection h with h1 h2; subst h1 h2; exact ⟨by omega, by omega⟩
        · cases h
      · injection h with h; injection h with h1 h2; subst h1 h2; exact ⟨Nat.le_refl _, by simp⟩
    · split at h
      · cases hr : Cd.rdInt l (a + 1) with
        | ok q => rw [hr] at h; cases h
        | error q =>
          rw [hr] at h
          injection h with h
          subst h
          unfold Cd.rdInt at hr
          cases hu : Cd.rdUint l (a + 1) with
          | ok q => rw [hu] at hr; cases hr
          | error q =>
            rw [hu] at hr
            injection hr with hr
            subst hr
            exact rdUint_er hu
      · split at h
        · cases hu : Cd.rdUint l (a + 1) with
          | error q =>
            rw [hu] at h
            injection h with h
            subst h
            exact rdUint_er hu
          | ok q =>
            obtain ⟨n, t2⟩ := q
            rw [hu] at h
            have hn := Cd.rdUint_lt hu
            simp only [] at h
            split at h
            · injection h with h; injection h with h1 h2; subst h1 h2; exact ⟨by omega, by omega⟩
            · unfold Cd.rdBytes at h
              by_cases hb : n ≤ l.length - t2
              · rw [if_pos hb] at h; cases h
              · rw [if_neg hb] at h
                injection h with h; injection h with h1 h2; subst h1 h2; exact ⟨Nat.le_refl _, by simp⟩
        · split at h
          · cases hu : rdNum l (a + 1) with
            | ok q => rw [hu] at h; cases h
            | error q =>
              rw [hu] at h
              injection h with h
              subst h
              unfold rdNum at hu
              by_cases hb : 16 ≤ l.length - (a + 1)
              · rw [if_pos hb] at hu
                split at hu
                · cases hu
                · injection hu with h; injection h with h1 h2; subst h1 h2; exact ⟨by omega, by omega⟩
              · rw [if_neg hb] at hu
                injection hu with h; injection h with h1 h2; subst h1 h2; exact ⟨Nat.le_refl _, by simp⟩
          · split at h
            · cases hu : Cd.rdUint l (a + 1) with
              | error q =>
                rw [hu] at h
                injection h with h
                subst h
                exact rdUint_er hu
              | ok q =>
                obtain ⟨n, t2⟩ := q
                rw [hu] at h
                have hn := Cd.rdUint_lt hu
                simp only [] at h
                split at h
                · injection h with h; injection h with h1 h2; subst h1 h2; exact ⟨by omega, by omega⟩
                · cases h
            · injection h with h; injection h with h1 h2; subst h1 h2; exact ⟨by omega, by omega⟩

theorem VInv.step {l : List UInt8} {acc : List Nd} {a size todo tn : Nat} {x : Nd} (h : VInv l acc a size (todo + 1)) (ha : a < l.length) (hl : ¬ (1024 ≤ acc.length ∨ 4096 < size + 1)) (hx : rdNode l a size = .ok (x, tn)) :
    VInv l (acc ++ [x]) tn (size + 1 + x.text.length) (todo + x.kids) := by
  have h1 := rdNode_lt hx
  have h2 := rdNode_says hx
  refine ⟨by simp; omega, ?_, ?_, ?_, ?_, ?_, by omega, h1.2.1⟩
  · intro y hy
    rcases List.mem_append.1 hy with h3 | h3
    · exact h.ok y h3
    · simp at h3; subst h3; exact ⟨h2.ok, h2.i64, by omega⟩
  · intro k hk
    simp at hk
    by_cases hk2 : k < acc.length
    · rw [List.take_append_of_le_length (by omega)]; exact h.op k hk2
    · obtain rfl : k = acc.length := by omega
      rw [List.take_append_of_le_length (by omega), List.take_length, h.todo]; omega
  · rw [opn_snoc, h.todo]; omega
  · rw [flatB_snoc, h.bytes, h2.bytes, sub_append (by omega) (by omega)]
  · rw [szOf_snoc, h.szq]; omega

theorem rdNds_says (l : List UInt8) : ∀ (f a size todo : Nat) (acc : List Nd), acc.length + f = 1025 → VInv l acc a size todo →
    (∀ xs tn, rdNds l f a size todo acc = .ok (xs, tn) → ∃ sz, VInv l xs tn sz 0) ∧ (∀ p en, rdNds l f a size todo acc = .error (p, en) → Er l p en) := by
  intro f
  induction f with
  | zero =>
    intro a size todo acc hf h
    have := h.few
    omega
  | succ f ih =>
    intro a size todo acc hf h
    cases todo with
    | zero =>
      refine ⟨fun xs tn hr => ?_, fun p en hr => ?_⟩
      · simp [rdNds] at hr; obtain ⟨rfl, rfl⟩ := hr; exact ⟨size, h⟩
      · simp [rdNds] at hr
    | succ t =>
      rw [rdNds]
      by_cases ha : a < l.length
      · rw [if_pos ha]
        by_cases hl : 1024 ≤ acc.length ∨ 4096 < size + 1
        · rw [if_pos hl]
          refine ⟨fun xs tn hr => (by cases hr), fun p en hr => ?_⟩
          injection hr with hr; injection hr with h1 h2; subst h1 h2; exact ⟨by omega, by omega⟩
        · rw [if_neg hl]
          cases hx : rdNode l a size with
          | error q =>
            refine ⟨fun xs tn hr => (by cases hr), fun p en hr => ?_⟩
            injection hr with hr
            subst hr
            exact rdNode_er ha hx
          | ok q =>
            obtain ⟨x, t2⟩ := q
            exact ih _ _ _ _ (by simp; omega) (h.step ha hl hx)
      · rw [if_neg ha]
        refine ⟨fun xs tn hr => (by cases hr), fun p en hr => ?_⟩
        injection hr with hr; injection hr with h1 h2; subst h1 h2; exact ⟨Nat.le_refl _, by simp⟩

theorem inv0 (l : List UInt8) : VInv l [] 0 0 1 := ⟨by simp, by simp, by simp, rfl, by simp [flatB, sub], rfl, by omega, by omega⟩
theorem rdValue_er {l : List UInt8} {p en : Nat} (h : rdValue l = .error (p, en)) : Er l p en := (rdNds_says l 1025 0 0 1 [] (by simp) (inv0 l)).2 p en h
theorem rdValue_inv {l : List UInt8} {xs : List Nd} {tn : Nat} (h : rdValue l = .ok (xs, tn)) : ∃ sz, VInv l xs tn sz 0 := (rdNds_says l 1025 0 0 1 [] (by simp) (inv0 l)).1 xs tn h

theorem VInv.seqOk {l : List UInt8} {xs : List Nd} {a sz t : Nat} (h : VInv l xs a sz t) : SeqOk xs where
  few := h.few
  fit := fun j => by
    have hk : ∀ x ∈ xs, x.kids ≤ 1024 := fun x hx => (h.ok x hx).1.kids_le
    have ho : opn 1 (xs.take (j + 1)) ≤ 2000000 := by
      have h1 := opn_le (xs.take (j + 1)) 1 (fun x hx => hk x (List.mem_of_mem_take hx))
      have h2 : (xs.take (j + 1)).length ≤ xs.length := List.length_take_le' _ _
      have h3 := h.few
      have h4 : 1024 * (xs.take (j + 1)).length ≤ 1024 * 1024 := Nat.mul_le_mul_left _ (by omega)
      omega
    by_cases hj : j < xs.length
    · rw [List.getElem?_eq_getElem hj]
      have := h.ok _ (List.getElem_mem hj)
      exact ⟨this.1, this.2.2, ho⟩
    · rw [List.getElem?_eq_none (by omega)]
      exact ⟨nd0_ok 0 (by omega), by simp [nd0], ho⟩
  op := h.op
  op2 := fun k => by
    have hk : ∀ x ∈ xs, x.kids ≤ 1024 := fun x hx => (h.ok x hx).1.kids_le
    have h1 := opn_le (xs.take k) 1 (fun x hx => hk x (List.mem_of_mem_take hx))
    have h2 : (xs.take k).length ≤ xs.length := List.length_take_le' _ _
    have h3 := h.few
    have h4 : 1024 * (xs.take k).length ≤ 1024 * 1024 := Nat.mul_le_mul_left _ (by omega)
    omega
  kids := fun x hx => ⟨(h.ok x hx).1.kids_le, (h.ok x hx).1.kids⟩
theorem VInv.valOk {l : List UInt8} {xs : List Nd} {a sz : Nat} (h : VInv l xs a sz 0) : ValOk xs where
  seq := h.seqOk
  pos := by
    cases xs with
    | nil => have := h.todo; simp [opn] at this
    | cons x xs => simp
  done := h.todo
  size := by
    rw [msr_with xs _ xs.length (Nat.le_refl _), List.take_length, h.szq]; exact h.leq
end Go.Proofs.Yticipdjfkpakpaa
