/- Plain words on values' bytes: nodes, and what bytes say as nodes. -/
import Derived.Test.YticipdjfkpakpaaCodeNum
namespace Go.Proofs.Yticipdjfkpakpaa
open Go.RowKit

structure Nd where
  kind : Nat
  kids : Nat
  int : Int
  text : List UInt8
  re : Nat
  im : Nat
def Nd.cells (x : Nd) : List Value := [.int .u8 x.kind, .int .i64 x.kids, .int .i64 x.int, strV x.text, .complex .f64 x.re x.im]
def ndsV (xs : List Nd) : List Value := xs.flatMap Nd.cells
theorem ndsV_length (xs : List Nd) : (ndsV xs).length = xs.length * 5 := by
  induction xs with
  | nil => rfl
  | cons x xs ih => simp only [ndsV, List.flatMap_cons, List.length_append] at ih ⊢; rw [ih]; simp [Nd.cells]; omega
theorem ndsV_snoc (xs : List Nd) (x : Nd) : ndsV (xs ++ [x]) = ndsV xs ++ x.cells := by simp [ndsV, List.flatMap_append]
def nd0 (k : Nat) : Nd := ⟨k, 0, 0, [], 0, 0⟩

/-- one node from a place on, the size of those ahead being so much -/
def rdNode (l : List UInt8) (a size : Nat) : Except (Nat × Nat) (Nd × Nat) :=
  if h : a < l.length then
    if l[a].toNat = 0 then .ok (nd0 0, a + 1)
    else if l[a].toNat = 1 then
      if h1 : a + 1 < l.length then
        if 1 < l[a + 1].toNat then .error (a + 1, 3) else .ok ({ nd0 1 with int := l[a + 1].toNat }, a + 2)
      else .error (l.length, 4)
    else if l[a].toNat = 2 then
      match Cd.rdInt l (a + 1) with
      | .ok (x, to) => .ok ({ nd0 2 with int := x }, to)
      | .error e => .error e
    else if l[a].toNat = 3 then
      match Cd.rdUint l (a + 1) with
      | .ok (n, to) =>
        if 4096 - (size + 1) < n then .error (a + 1, 2) else
        match Cd.rdBytes l n to with
        | .ok (t, to2) => .ok ({ nd0 3 with text := t }, to2)
        | .error e => .error e
      | .error e => .error e
    else if l[a].toNat = 4 then
      match rdNum l (a + 1) with
      | .ok (z, to) => .ok ({ nd0 4 with re := z.1, im := z.2 }, to)
      | .error e => .error e
    else if l[a].toNat = 5 then
      match Cd.rdUint l (a + 1) with
      | .ok (n, to) => if 1024 < n then .error (a + 1, 2) else .ok ({ nd0 5 with kids := n }, to)
      | .error e => .error e
    else .error (a, 3)
  else .error (l.length, 4)

/-- nodes from a place on, till none is to come -/
def rdNds (l : List UInt8) : Nat → Nat → Nat → Nat → List Nd → Except (Nat × Nat) (List Nd × Nat)
  | _, a, _, 0, acc => .ok (acc, a)
  | 0, a, _, _ + 1, _ => .error (a, 0)
  | f + 1, a, size, todo + 1, acc =>
    if a < l.length then
      if 1024 ≤ acc.length ∨ 4096 < size + 1 then .error (a, 2)
      else match rdNode l a size with
        | .ok (x, to) => rdNds l f to (size + 1 + x.text.length) (todo + x.kids) (acc ++ [x])
        | .error e => .error e
    else .error (l.length, 4)
def rdValue (l : List UInt8) : Except (Nat × Nat) (List Nd × Nat) := rdNds l 1025 0 0 1 []
def rdAll (l : List UInt8) : Except (Nat × Nat) (List Nd × Nat) :=
  match rdValue l with
  | .ok (v, to) => if to < l.length then .error (to, 3) else .ok (v, to)
  | .error e => .error e

theorem rdNode_lt {l : List UInt8} {a size to : Nat} {x : Nd} (h : rdNode l a size = .ok (x, to)) : a < to ∧ to ≤ l.length ∧ x.kids ≤ 1024 ∧ x.text.length ≤ 4096 - (size + 1) := by
  unfold rdNode at h
  by_cases ha : a < l.length
  · rw [dif_pos ha] at h
    split at h
    · injection h with h; injection h with h1 h2; subst h1 h2; simp [nd0]; omega
    · split at h
      · split at h
        · split at h
          · cases h
          · injection h with h; injection h with h1 h2; subst h1 h2; simp [nd0]; omega
        · cases h
      · split at h
        · cases hr : Cd.rdInt l (a + 1) with
          | error e => rw [hr] at h; cases h
          | ok p =>
            obtain ⟨y, t⟩ := p
            rw [hr] at h
            injection h with h; injection h with h1 h2; subst h1 h2
            unfold Cd.rdInt at hr
            cases hu : Cd.rdUint l (a + 1) with
            | error e => rw [hu] at hr; cases hr
            | ok q =>
              obtain ⟨n, t2⟩ := q
              rw [hu] at hr
              injection hr with hr; injection hr with h1 h2; subst h1 h2
              have := Cd.rdUint_lt hu
              simp [nd0]; omega
        · split at h
          · cases hu : Cd.rdUint l (a + 1) with
            | error e => rw [hu] at h; cases h
            | ok q =>
              obtain ⟨n, t2⟩ := q
              rw [hu] at h
              have := Cd.rdUint_lt hu
              simp only [] at h
              split at h
              · cases h
              · unfold Cd.rdBytes at h
                by_cases hb : n ≤ l.length - t2
                · rw [if_pos hb] at h
                  injection h with h; injection h with h1 h2; subst h1 h2
                  simp [nd0]; omega
                · rw [if_neg hb] at h; cases h
          · split at h
            · unfold rdNum at h
              by_cases hb : 16 ≤ l.length - (a + 1)
              · rw [if_pos hb] at h
                split at h
                · rename_i hq
                  split at hq
                  · injection hq with hq; injection hq with h1 h2; injection h with h; injection h with h3 h4; subst h1 h2 h3 h4
                    simp [nd0]; omega
                  · cases hq
                · cases h
              · rw [if_neg hb] at h; cases h
            · split at h
              · cases hu : Cd.rdUint l (a + 1) with
                | error e => rw [hu] at h; cases h
                | ok q =>
                  obtain ⟨n, t2⟩ := q
                  rw [hu] at h
                  have := Cd.rdUint_lt hu
                  simp only [] at h
                  split at h
                  · cases h
                  · injection h with h; injection h with h1 h2; subst h1 h2
                    simp [nd0]; omega
              · cases h
  · rw [dif_neg ha] at h; cases h
end Go.Proofs.Yticipdjfkpakpaa
