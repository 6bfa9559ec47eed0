/- Plain laws on an event's fields as they are read. -/
import Derived.Test.YticipdjfkpakpaaEvStep
import Derived.Test.YticipdjfkpakpaaEvCheck
namespace Go.Proofs.Yticipdjfkpakpaa
open Go.RowKit

/-- the reader goes through an event's fields -/
def evStp (l : List UInt8) (a k : Nat) : Ev × Nat × Nat :=
  let s1 := stp (hasId k) 0 (fun m => Cd.rdUint m 0) l (a + 1) 0
  let s2 := stp (hasName k) [] (fun m => Cd.rdText m 0) l s1.2.1 s1.2.2
  let s3 := stp (hasValue k) [] rdValue l s2.2.1 s2.2.2
  let s4 := stp (hasInt k) 0 (fun m => Cd.rdInt m 0) l s3.2.1 s3.2.2
  (⟨k, min s1.1 500, s2.1, s3.1, s4.1⟩, s4.2.1, s4.2.2)
def evRes (l : List UInt8) (a k : Nat) : Except (Nat × Nat) (Ev × Nat) :=
  if (evStp l a k).2.2 = 0 then (if evOk (evStp l a k).1 then .ok ((evStp l a k).1, (evStp l a k).2.1) else .error (a, 3)) else .error ((evStp l a k).2.1, (evStp l a k).2.2)
theorem evStp_is (l : List UInt8) (a k : Nat) {s1 : Nat × Nat × Nat} {s2 : List UInt8 × Nat × Nat} {s3 : List Nd × Nat × Nat} {s4 : Int × Nat × Nat} (h1 : stp (hasId k) 0 (fun m => Cd.rdUint m 0) l (a + 1) 0 = s1)
    (h2 : stp (hasName k) [] (fun m => Cd.rdText m 0) l s1.2.1 s1.2.2 = s2) (h3 : stp (hasValue k) [] rdValue l s2.2.1 s2.2.2 = s3) (h4 : stp (hasInt k) 0 (fun m => Cd.rdInt m 0) l s3.2.1 s3.2.2 = s4) :
    evStp l a k = (⟨k, min s1.1 500, s2.1, s3.1, s4.1⟩, s4.2.1, s4.2.2) := by
  subst h1 h2 h3 h4; rfl

section
variable {α : Type} {is : Bool} {zero : α} {f : List UInt8 → Except (Nat × Nat) (α × Nat)} {l : List UInt8} {a en : Nat}
theorem stp_en (h : (stp is zero f l a en).2.2 = 0) : en = 0 := by
  by_cases he : en = 0
  · exact he
  · rw [stp_idle _ _ _ _ _ _ he] at h; exact h
theorem stp_zero (h : is = false) : (stp is zero f l a en).1 = zero := by subst h; rfl
theorem stp_ok (hf : ∀ m p e, f m = .error (p, e) → e ≠ 0) (hi : is = true) (h : (stp is zero f l a en).2.2 = 0) : ∃ n, f (l.drop a) = .ok ((stp is zero f l a en).1, n) ∧ (stp is zero f l a en).2.1 = a + n := by
  have he := stp_en h
  subst hi he
  rw [stp_yes] at h ⊢
  cases hr : f (l.drop a) with
  | ok q => obtain ⟨x, n⟩ := q; exact ⟨n, by simp, by simp⟩
  | error q => obtain ⟨p, e⟩ := q; rw [hr] at h; exact absurd h (hf _ _ _ hr)
end
theorem rdText_errno {l : List UInt8} {a p en : Nat} (h : Cd.rdText l a = .error (p, en)) : en ≠ 0 := by
  unfold Cd.rdText at h
  cases hu : Cd.rdUint l a with
  | error q => rw [hu] at h; injection h with h; subst h; have := rdUint_errno hu; omega
  | ok q =>
    obtain ⟨n, t2⟩ := q
    rw [hu] at h
    simp only [Cd.rdBytes] at h
    split at h
    · cases h
    · injection h with h; injection h with h1 h2; omega
theorem rdInt_errno {l : List UInt8} {a p en : Nat} (h : Cd.rdInt l a = .error (p, en)) : en ≠ 0 := by
  unfold Cd.rdInt at h
  cases hu : Cd.rdUint l a with
  | error q => rw [hu] at h; injection h with h; subst h; have := rdUint_errno hu; omega
  | ok q => rw [hu] at h; cases h
theorem rdUint_errno' {l : List UInt8} {a p en : Nat} (h : Cd.rdUint l a = .error (p, en)) : en ≠ 0 := by have := rdUint_errno h; omega
theorem rdText_len {l : List UInt8} {a : Nat} {x : List UInt8} {n : Nat} (h : Cd.rdText l a = .ok (x, n)) : x.length ≤ l.length := by
  unfold Cd.rdText at h
  cases hu : Cd.rdUint l a with
  | error q => rw [hu] at h; cases h
  | ok q =>
    obtain ⟨m, t2⟩ := q
    rw [hu] at h
    simp only [Cd.rdBytes] at h
    split at h
    · injection h with h; injection h with h1 h2; subst h1; simp; omega
    · cases h
theorem rdInt_i64 {l : List UInt8} {a n : Nat} {x : Int} (h : Cd.rdInt l a = .ok (x, n)) : I64 x := by
  unfold Cd.rdInt at h
  cases hu : Cd.rdUint l a with
  | error q => rw [hu] at h; cases h
  | ok q => obtain ⟨m, t2⟩ := q; rw [hu] at h; injection h with h; injection h with h1 h2; subst h1; exact unzig_i64 (Cd.rdUint_lt hu).1

theorem evStp_raw {l : List UInt8} {a k : Nat} (hk : 1 ≤ k ∧ k ≤ 12) (hl : l.length ≤ 1000000) (h : (evStp l a k).2.2 = 0) : EvRaw (evStp l a k).1 := by
  unfold evStp at h ⊢
  simp only at h ⊢
  have h3 := stp_en h
  have h2 := stp_en h3
  have h1 := stp_en h2
  refine ⟨hk, fun hi => ?_, by simp only; omega, fun hi => stp_zero hi, ?_, fun hi => stp_zero hi, ?_, fun hi => stp_zero hi, fun hi => ?_⟩
  · simp only; rw [stp_zero hi]; rfl
  · cases hn : hasName k with
    | false => simp only; rw [stp_zero rfl]; simp
    | true =>
      rw [hn] at h2
      obtain ⟨n, hn1, _⟩ := stp_ok (fun m p e => rdText_errno) rfl h2
      have := rdText_len hn1
      simp only
      simp at this
      omega
  · cases hn : hasInt k with
    | false => simp only; rw [stp_zero rfl]; exact i64_0
    | true =>
      rw [hn] at h
      obtain ⟨n, hn1, _⟩ := stp_ok (fun m p e => rdInt_errno) rfl h
      exact rdInt_i64 hn1
  · simp only at hi
    obtain ⟨n, hn1, _⟩ := stp_ok (fun m p e => rdValue_errno) hi h3
    obtain ⟨sz, hI⟩ := rdValue_inv hn1
    exact ⟨hI.valOk, fun y hy => (hI.ok y hy).2.1⟩
end Go.Proofs.Yticipdjfkpakpaa
