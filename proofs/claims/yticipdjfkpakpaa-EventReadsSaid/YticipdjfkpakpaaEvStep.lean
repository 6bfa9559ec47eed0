/- event.next as one step, whatever its flag and the reader's state. -/
import Derived.Test.YticipdjfkpakpaaEvNext
namespace Go.Proofs.Yticipdjfkpakpaa
open Go.RowKit

/-- what is read, where the reader then stands, and what is wrong -/
def stp {α : Type} (is : Bool) (zero : α) (f : List UInt8 → Except (Nat × Nat) (α × Nat)) (l : List UInt8) (a en : Nat) : α × Nat × Nat :=
  if is && en == 0 then (match f (l.drop a) with | .ok (x, n) => (x, a + n, 0) | .error (p, e) => (zero, a + p, e)) else (zero, a, en)
theorem stp_no {α : Type} (zero : α) (f : List UInt8 → Except (Nat × Nat) (α × Nat)) (l : List UInt8) (a en : Nat) : stp false zero f l a en = (zero, a, en) := rfl
theorem stp_idle {α : Type} (is : Bool) (zero : α) (f : List UInt8 → Except (Nat × Nat) (α × Nat)) (l : List UInt8) (a en : Nat) (h : en ≠ 0) : stp is zero f l a en = (zero, a, en) := by
  unfold stp
  rw [show (en == 0) = false from by rw [beq_eq_false_iff_ne]; exact h, Bool.and_false]
  rfl
theorem stp_yes {α : Type} (zero : α) (f : List UInt8 → Except (Nat × Nat) (α × Nat)) (l : List UInt8) (a : Nat) : stp true zero f l a 0 = (match f (l.drop a) with | .ok (x, n) => (x, a + n, 0) | .error (p, e) => (zero, a + p, e)) := rfl
theorem grown_refl (w : World) (row : Option Nat) : w.grownBy w row := World.grownBy.refl _ _

/-- a step's word -/
def StepSays {α : Type} (val : α → Value) (w : World) (r : Nat) (T : TypeId) (more : List Value) (A : Option Addr) (len cap : Nat) (l : List UInt8) (q : α × Nat × Nat) (e : Ending) (w' : World) : Prop :=
  e = .returned (val q.1) ∧ ER w' r T more A len cap l q.2.1 q.2.2 ∧ w.grownBy w' (some r)
/-- a step's word, of a value -/
def StepV (w : World) (r : Nat) (T : TypeId) (more : List Value) (A : Option Addr) (len cap : Nat) (l : List UInt8) (q : List Nd × Nat × Nat) (e : Ending) (w' : World) : Prop :=
  (∃ A2 c2, e = .returned (.slice A2 q.1.length c2) ∧ w'.ownsRow w.heap.size 40 5 (.slice A2 q.1.length c2) q.1.length (ndsV q.1)) ∧ ER w' r T more A len cap l q.2.1 q.2.2 ∧ w.grownBy w' (some r)

theorem step_uint64 (is : Bool) (w : World) (r : Nat) (T : TypeId) (more : List Value) (A : Option Addr) (len cap : Nat) (l : List UInt8) (a en : Nat) (h : ER w r T more A len cap l a en) (hsz : l.length ≤ 1000000) :
    Calls Try.prog 42 #[.pointer (some ⟨r, 0, none⟩), .bool is, .func (.func 43) #[] #[]] w (StepSays u64V w r T more A len cap l (stp is 0 (fun m => Cd.rdUint m 0) l a en)) := by
  cases is with
  | false => exact (skip_uint64 w r _).mono fun e w' ⟨h1, h2⟩ => by subst h1 h2; exact ⟨rfl, h, grown_refl _ _⟩
  | true =>
    by_cases hen : en = 0
    · subst hen
      refine (next_uint64 w r T more A len cap l a h hsz).mono fun e w' hs => ?_
      rw [stp_yes]
      obtain ⟨h1, h2⟩ := hs
      cases hr : Cd.rdUint (l.drop a) 0 with
      | ok q => obtain ⟨x, n⟩ := q; rw [hr] at h1; exact ⟨by simp only [hr]; exact h1.1, by simp only [hr]; exact h1.2, h2⟩
      | error q => obtain ⟨p, en⟩ := q; rw [hr] at h1; exact ⟨by simp only [hr]; exact h1.1, by simp only [hr]; exact h1.2, h2⟩
    · refine (idle_uint64 w r T more A len cap l a en h hen _).mono fun e w' ⟨h1, h2⟩ => ?_
      subst h1 h2
      rw [stp_idle _ _ _ _ _ _ hen]
      exact ⟨rfl, h, grown_refl _ _⟩

theorem step_string (is : Bool) (w : World) (r : Nat) (T : TypeId) (more : List Value) (A : Option Addr) (len cap : Nat) (l : List UInt8) (a en : Nat) (h : ER w r T more A len cap l a en) (hsz : l.length ≤ 1000000) :
    Calls Try.prog 44 #[.pointer (some ⟨r, 0, none⟩), .bool is, .func (.func 45) #[] #[]] w (StepSays strV w r T more A len cap l (stp is [] (fun m => Cd.rdText m 0) l a en)) := by
  cases is with
  | false => exact (skip_string w r _).mono fun e w' ⟨h1, h2⟩ => by subst h1 h2; exact ⟨rfl, h, grown_refl _ _⟩
  | true =>
    by_cases hen : en = 0
    · subst hen
      refine (next_string w r T more A len cap l a h hsz).mono fun e w' hs => ?_
      rw [stp_yes]
      obtain ⟨h1, h2⟩ := hs
      cases hr : Cd.rdText (l.drop a) 0 with
      | ok q => obtain ⟨x, n⟩ := q; rw [hr] at h1; exact ⟨by simp only [hr]; exact h1.1, by simp only [hr]; exact h1.2, h2⟩
      | error q => obtain ⟨p, en⟩ := q; rw [hr] at h1; exact ⟨by simp only [hr]; exact h1.1, by simp only [hr]; exact h1.2, h2⟩
    · refine (idle_string w r T more A len cap l a en h hen _).mono fun e w' ⟨h1, h2⟩ => ?_
      subst h1 h2
      rw [stp_idle _ _ _ _ _ _ hen]
      exact ⟨rfl, h, grown_refl _ _⟩

theorem step_int64 (is : Bool) (w : World) (r : Nat) (T : TypeId) (more : List Value) (A : Option Addr) (len cap : Nat) (l : List UInt8) (a en : Nat) (h : ER w r T more A len cap l a en) (hsz : l.length ≤ 1000000) :
    Calls Try.prog 48 #[.pointer (some ⟨r, 0, none⟩), .bool is, .func (.func 49) #[] #[]] w (StepSays i64V w r T more A len cap l (stp is 0 (fun m => Cd.rdInt m 0) l a en)) := by
  cases is with
  | false => exact (skip_int64 w r _).mono fun e w' ⟨h1, h2⟩ => by subst h1 h2; exact ⟨rfl, h, grown_refl _ _⟩
  | true =>
    by_cases hen : en = 0
    · subst hen
      refine (next_int64 w r T more A len cap l a h hsz).mono fun e w' hs => ?_
      rw [stp_yes]
      obtain ⟨h1, h2⟩ := hs
      cases hr : Cd.rdInt (l.drop a) 0 with
      | ok q => obtain ⟨x, n⟩ := q; rw [hr] at h1; exact ⟨by simp only [hr]; exact h1.1, by simp only [hr]; exact h1.2, h2⟩
      | error q => obtain ⟨p, en⟩ := q; rw [hr] at h1; exact ⟨by simp only [hr]; exact h1.1, by simp only [hr]; exact h1.2, h2⟩
    · refine (idle_int64 w r T more A len cap l a en h hen _).mono fun e w' ⟨h1, h2⟩ => ?_
      subst h1 h2
      rw [stp_idle _ _ _ _ _ _ hen]
      exact ⟨rfl, h, grown_refl _ _⟩

theorem step_nodes (is : Bool) (w : World) (r : Nat) (T : TypeId) (more : List Value) (A : Option Addr) (len cap : Nat) (l : List UInt8) (a en : Nat) (h : ER w r T more A len cap l a en) (hsz : l.length ≤ 1000000) :
    Calls Try.prog 46 #[.pointer (some ⟨r, 0, none⟩), .bool is, .func (.func 47) #[] #[]] w (StepV w r T more A len cap l (stp is [] rdValue l a en)) := by
  cases is with
  | false => exact (skip_nodes w r _).mono fun e w' ⟨h1, h2⟩ => by subst h1 h2; exact ⟨⟨none, 0, rfl, World.ownsRow_nil _ _ _ _⟩, h, grown_refl _ _⟩
  | true =>
    by_cases hen : en = 0
    · subst hen
      refine (next_value w r T more A len cap l a h hsz).mono fun e w' hs => ?_
      rw [stp_yes]
      obtain ⟨h1, h2⟩ := hs
      cases hr : rdValue (l.drop a) with
      | ok q => obtain ⟨x, n⟩ := q; rw [hr] at h1; obtain ⟨A2, c2, h3, h4, h5⟩ := h1; exact ⟨⟨A2, c2, h3, h4⟩, h5, h2⟩
      | error q => obtain ⟨p, en⟩ := q; rw [hr] at h1; exact ⟨⟨none, 0, h1.1, World.ownsRow_nil _ _ _ _⟩, h1.2, h2⟩
    · refine (idle_nodes w r T more A len cap l a en h hen _).mono fun e w' ⟨h1, h2⟩ => ?_
      subst h1 h2
      rw [stp_idle _ _ _ _ _ _ hen]
      exact ⟨⟨none, 0, rfl, World.ownsRow_nil _ _ _ _⟩, h, grown_refl _ _⟩
end Go.Proofs.Yticipdjfkpakpaa
