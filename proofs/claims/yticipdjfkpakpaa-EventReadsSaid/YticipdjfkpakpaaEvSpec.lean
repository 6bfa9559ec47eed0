/- Plain words on events' bytes. -/
import Derived.Test.YticipdjfkpakpaaNodeVal
import Derived.Test.YticipdjfkpakpaaNames
import Derived.Test.YticipdjfkpakpaaEvFields
namespace Go.Proofs.Yticipdjfkpakpaa
open Go.RowKit

structure Ev where
  kind : Nat
  id : Nat
  name : List UInt8
  val : List Nd
  int : Int
def ev0 : Ev := ⟨0, 0, [], [], 0⟩
def nameB (l : List UInt8) : Bool := nameS ⟨l.toArray⟩

/-- an event whose fields were read: may it be? -/
def evOk (x : Ev) : Bool :=
  decide (x.id ≤ 499) && decide (0 ≤ x.int) && (!hasName x.kind || nameB x.name) && (!(x.kind == 2) || decide (x.int ≤ 501)) &&
    (!(x.kind == 8 || x.kind == 10) || decide (x.int ≠ 0)) && (!hasList x.kind || (match x.val with | n :: _ => n.kind == 5 | [] => false))

/-- what is read of what stands behind a place, told from the beginning -/
def shft {α : Type} (t : Nat) : Except (Nat × Nat) (α × Nat) → Except (Nat × Nat) (α × Nat)
  | .ok (x, n) => .ok (x, t + n)
  | .error (p, e) => .error (t + p, e)
/-- something is read, if it is there -/
def opt {α : Type} (is : Bool) (zero : α) (f : List UInt8 → Except (Nat × Nat) (α × Nat)) (l : List UInt8) (t : Nat) : Except (Nat × Nat) (α × Nat) :=
  if is then shft t (f (l.drop t)) else .ok (zero, t)

def rdEv (l : List UInt8) (a : Nat) : Except (Nat × Nat) (Ev × Nat) :=
  if h : a < l.length then
    if l[a].toNat < 1 ∨ 12 < l[a].toNat then .error (a, 3) else
    match opt (hasId l[a].toNat) 0 (fun m => Cd.rdUint m 0) l (a + 1) with
    | .error e => .error e
    | .ok (n, t1) =>
      match opt (hasName l[a].toNat) [] (fun m => Cd.rdText m 0) l t1 with
      | .error e => .error e
      | .ok (s, t2) =>
        match opt (hasValue l[a].toNat) [] rdValue l t2 with
        | .error e => .error e
        | .ok (v, t3) =>
          match opt (hasInt l[a].toNat) 0 (fun m => Cd.rdInt m 0) l t3 with
          | .error e => .error e
          | .ok (i, t4) => if evOk ⟨l[a].toNat, min n 500, s, v, i⟩ then .ok (⟨l[a].toNat, min n 500, s, v, i⟩, t4) else .error (a, 3)
  else .error (l.length, 4)

/-- so many events from a place on -/
def rdEvs (l : List UInt8) : Nat → Nat → List Ev → Except (Nat × Nat) (List Ev × Nat)
  | 0, a, acc => if a < l.length then .error (a, 3) else .ok (acc, a)
  | n + 1, a, acc =>
    match rdEv l a with
    | .ok (x, t) => rdEvs l n t (acc ++ [x])
    | .error e => .error e
def rdHist (l : List UInt8) : Except (Nat × Nat) (List Ev × Nat) :=
  match Cd.rdUint l 0 with
  | .error e => .error e
  | .ok (n, t) => if 4096 < n then .error (0, 2) else rdEvs l n t []

/-! ### reading behind a place -/
theorem drop_get {l : List UInt8} {t b : Nat} (h : b < (l.drop t).length) : (l.drop t)[b] = l[t + b]'(by simp at h; omega) := by simp
theorem rdU_shft (l : List UInt8) (t : Nat) (ht : t ≤ l.length) : ∀ (f b i n : Nat), shft t (Cd.rdU (l.drop t) f b i n) = Cd.rdU l f (t + b) i n := by
  intro f
  induction f with
  | zero => intro b i n; rfl
  | succ f ih =>
    intro b i n
    by_cases hb : b < (l.drop t).length
    · have hb2 : t + b < l.length := by simp at hb; omega
      have hg := drop_get hb
      by_cases h1 : (l[t + b].toNat = 0 ∧ 0 < i) ∨ (i = 9 ∧ l[t + b].toNat ≠ 1)
      · rw [Cd.rdU_bad hb (by rw [hg]; exact h1), Cd.rdU_bad hb2 h1]; rfl
      · by_cases h2 : l[t + b].toNat < 128
        · rw [Cd.rdU_end hb (by rw [hg]; exact h1) (by rw [hg]; exact h2), Cd.rdU_end hb2 h1 h2, hg]; rfl
        · rw [Cd.rdU_more hb (by rw [hg]; exact h1) (by rw [hg]; exact h2), Cd.rdU_more hb2 h1 h2, hg, ih]; rfl
    · have hb2 : ¬ t + b < l.length := by simp at hb; omega
      rw [Cd.rdU_short hb, Cd.rdU_short hb2]
      simp only [shft, List.length_drop]
      congr 2
      omega
theorem rdUint_shft {l : List UInt8} {t : Nat} (ht : t ≤ l.length) : shft t (Cd.rdUint (l.drop t) 0) = Cd.rdUint l t := rdU_shft l t ht 10 0 0 0
theorem rdInt_shft {l : List UInt8} {t : Nat} (ht : t ≤ l.length) : shft t (Cd.rdInt (l.drop t) 0) = Cd.rdInt l t := by
  unfold Cd.rdInt
  rw [← rdUint_shft ht]
  cases Cd.rdUint (l.drop t) 0 with
  | error e => rfl
  | ok p => rfl
theorem rdText_shft {l : List UInt8} {t : Nat} (ht : t ≤ l.length) : shft t (Cd.rdText (l.drop t) 0) = Cd.rdText l t := by
  unfold Cd.rdText
  rw [← rdUint_shft ht]
  cases Cd.rdUint (l.drop t) 0 with
  | error e => rfl
  | ok p =>
    obtain ⟨n, m⟩ := p
    show shft t (Cd.rdBytes (l.drop t) n m) = Cd.rdBytes l n (t + m)
    unfold Cd.rdBytes
    have e : (l.drop t).length - m = l.length - (t + m) := by simp; omega
    rw [e]
    by_cases hb : n ≤ l.length - (t + m)
    · rw [if_pos hb, if_pos hb, List.drop_drop]; simp [shft, Nat.add_assoc]
    · rw [if_neg hb, if_neg hb]; simp only [shft, List.length_drop]; congr 2; omega
end Go.Proofs.Yticipdjfkpakpaa
