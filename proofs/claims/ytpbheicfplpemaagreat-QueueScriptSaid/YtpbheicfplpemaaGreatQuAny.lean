/- queue's reader: what it reads, whether or not something was wrong already. -/
import Derived.Test.YtpbheicfplpemaaGreatQuHead
namespace Go.Proofs.YtpbheicfplpemaaGreat
open Go.RowKit

/-- a read by a reader that may stand still already: what it tells, and where and how the reader then is -/
def aft {α : Type} (z : α) (rd : Nat → Except (Nat × Nat) (α × Nat)) (s : Nat × Nat) : α × (Nat × Nat) :=
  if s.2 = 0 then (match rd s.1 with | .ok (x, n) => (x, (n, 0)) | .error q => (z, q)) else (z, s)
theorem aft_idle {α : Type} {z : α} {rd : Nat → Except (Nat × Nat) (α × Nat)} {s : Nat × Nat} (h : s.2 ≠ 0) : aft z rd s = (z, s) := if_neg h
theorem aft_ok {α : Type} {z : α} {rd : Nat → Except (Nat × Nat) (α × Nat)} {a n : Nat} {x : α} (h : rd a = .ok (x, n)) : aft z rd (a, 0) = (x, (n, 0)) := by
  unfold aft; rw [if_pos rfl]; simp only [h]
theorem aft_er {α : Type} {z : α} {rd : Nat → Except (Nat × Nat) (α × Nat)} {a : Nat} {q : Nat × Nat} (h : rd a = .error q) : aft z rd (a, 0) = (z, q) := by
  unfold aft; rw [if_pos rfl]; simp only [h]
def StepY {α : Type} (val : α → Value) (w : World) (r : Nat) (A : Option Addr) (len cap : Nat) (l : List UInt8) (p : α × (Nat × Nat)) (e : Ending) (w' : World) : Prop :=
  e = .returned (val p.1) ∧ ER w' r 57 [] A len cap l p.2.1 p.2.2 ∧ w.grownBy w' (some r)
theorem any_string (w : World) (r : Nat) (A : Option Addr) (len cap : Nat) (l : List UInt8) (s : Nat × Nat) (h : ER w r 57 [] A len cap l s.1 s.2) (hsz : l.length ≤ 1000000) :
    Calls Tryz.prog 65 #[.pointer (some ⟨r, 0, none⟩), .func (.func 66) #[] #[]] w (StepY strV w r A len cap l (aft [] (Cd.rdText l) s)) := by
  obtain ⟨a, en⟩ := s
  by_cases hen : en = 0
  · subst hen
    have := next_string w r 57 [] A len cap l a h hsz
    rw [rdText_shft h.at_le] at this
    refine this.mono ?_
    rintro e w' ⟨hm, g⟩
    cases hr : Cd.rdText l a with
    | ok p => obtain ⟨x, n⟩ := p; rw [aft_ok hr]; rw [hr] at hm; exact ⟨hm.1, hm.2, g⟩
    | error p => obtain ⟨x, n⟩ := p; rw [aft_er hr]; rw [hr] at hm; exact ⟨hm.1, hm.2, g⟩
  · refine (idle_string w r 57 [] A len cap l a en h hen _).mono ?_
    rintro e w' ⟨rfl, rfl⟩
    rw [aft_idle hen]
    exact ⟨rfl, h, grown_of_below (Below.refl _ _) _⟩
theorem any_int64 (w : World) (r : Nat) (A : Option Addr) (len cap : Nat) (l : List UInt8) (s : Nat × Nat) (h : ER w r 57 [] A len cap l s.1 s.2) (hsz : l.length ≤ 1000000) :
    Calls Tryz.prog 63 #[.pointer (some ⟨r, 0, none⟩), .func (.func 64) #[] #[]] w (StepY (fun x => .int .i64 x) w r A len cap l (aft 0 (Cd.rdInt l) s)) := by
  obtain ⟨a, en⟩ := s
  by_cases hen : en = 0
  · subst hen
    have := next_int64 w r 57 [] A len cap l a h hsz
    rw [rdInt_shft h.at_le] at this
    refine this.mono ?_
    rintro e w' ⟨hm, g⟩
    cases hr : Cd.rdInt l a with
    | ok p => obtain ⟨x, n⟩ := p; rw [aft_ok hr]; rw [hr] at hm; exact ⟨hm.1, hm.2, g⟩
    | error p => obtain ⟨x, n⟩ := p; rw [aft_er hr]; rw [hr] at hm; exact ⟨hm.1, hm.2, g⟩
  · refine (idle_int64 w r 57 [] A len cap l a en h hen _).mono ?_
    rintro e w' ⟨rfl, rfl⟩
    rw [aft_idle hen]
    exact ⟨rfl, h, grown_of_below (Below.refl _ _) _⟩
theorem any_num (w : World) (r : Nat) (A : Option Addr) (len cap : Nat) (l : List UInt8) (s : Nat × Nat) (h : ER w r 57 [] A len cap l s.1 s.2) (hsz : l.length ≤ 1000000) :
    Calls Tryz.prog 62 #[.pointer (some ⟨r, 0, none⟩)] w (StepY (fun x : Nat => .int .i64 (x : Int)) w r A len cap l (aft 0 (rdNum l) s)) := by
  obtain ⟨a, en⟩ := s
  by_cases hen : en = 0
  · subst hen
    refine (num_any w r A len cap l a h hsz).mono ?_
    rintro e w' ⟨hm, g⟩
    cases hr : rdNum l a with
    | ok p => obtain ⟨x, n⟩ := p; rw [aft_ok hr]; rw [hr] at hm; exact ⟨hm.1, hm.2, g⟩
    | error p => obtain ⟨x, n⟩ := p; rw [aft_er hr]; rw [hr] at hm; exact ⟨hm.1, hm.2, g⟩
  · refine (num_idle w r 57 A len cap l a en h hen).mono ?_
    rintro e w' ⟨rfl, rfl⟩
    rw [aft_idle hen]
    exact ⟨rfl, h, grown_of_below (Below.refl _ _) _⟩
theorem any_count (w : World) (r : Nat) (A : Option Addr) (len cap : Nat) (l : List UInt8) (s : Nat × Nat) (h : ER w r 57 [] A len cap l s.1 s.2) (hsz : l.length ≤ 1000000) :
    Calls Tryz.prog 21 #[.pointer (some ⟨r, 0, none⟩)] w (StepY (fun x : Nat => .int .i64 (x : Int)) w r A len cap l (aft 0 (rdCnt l) s)) := by
  obtain ⟨a, en⟩ := s
  by_cases hen : en = 0
  · subst hen
    refine (count_any w r A len cap l a h hsz).mono ?_
    rintro e w' ⟨hm, g⟩
    cases hr : rdCnt l a with
    | ok p => obtain ⟨x, n⟩ := p; rw [aft_ok hr]; rw [hr] at hm; exact ⟨hm.1, hm.2, g⟩
    | error p => obtain ⟨x, n⟩ := p; rw [aft_er hr]; rw [hr] at hm; exact ⟨hm.1, hm.2, g⟩
  · refine (count_idle w r A len cap l a en h hen).mono ?_
    rintro e w' ⟨rfl, rfl⟩
    rw [aft_idle hen]
    exact ⟨rfl, h, grown_of_below (Below.refl _ _) _⟩
end Go.Proofs.YtpbheicfplpemaaGreat
