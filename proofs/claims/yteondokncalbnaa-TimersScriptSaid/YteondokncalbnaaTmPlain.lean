/- timers: a table's names and its heap, in plain Lean. -/
import Derived.Test.YteondokncalbnaaHpT7
import Derived.Test.YteondokncalbnaaTmKey
namespace Go.Proofs.Yteondokncalbnaa
open Go.RowKit

def strOf : Value → ByteArray
  | .string s => s
  | _ => ⟨#[]⟩
def nmOf (t : Th) : Nm := (strOf (t.v 1), intOf (t.v 2))
theorem nmOf_tim (key : Int) (num : Nat) (d : Int) (o : ByteArray) (k : Int) : nmOf ⟨key, num, timV d o k⟩ = (o, k) := rfl
def updN (m : Nm → Option Value) (k : Nm) (v : Value) : Nm → Option Value := fun k' => if k' = k then some v else m k'
def wipeN (m : Nm → Option Value) (k : Nm) : Nm → Option Value := fun k' => if k' = k then none else m k'

/-- the names of what is in the heap -/
structure TabP (xs : List Th) (m : Nm → Option Value) : Prop where
  form : ∀ t ∈ xs, ∃ o k, t.v = timV t.key o k ∧ 0 ≤ k
  is : ∀ t ∈ xs, m (nmOf t) = some (.int .i64 (t.num : Int))
  no : ∀ k, (∀ t ∈ xs, nmOf t ≠ k) → m k = none
theorem TabP.nil : TabP [] (fun _ => none) := ⟨by simp, by simp, by simp⟩
theorem TabP.perm {xs ys : List Th} {m : Nm → Option Value} (h : TabP xs m) (p : ys.Perm xs) : TabP ys m :=
  ⟨fun t ht => h.form t (p.mem_iff.1 ht), fun t ht => h.is t (p.mem_iff.1 ht), fun k hk => h.no k fun t ht => hk t (p.mem_iff.2 ht)⟩
theorem TabP.set {xs : List Th} {m : Nm → Option Value} (h : TabP xs m) (due : Int) (nx : Nat) (o : ByteArray) (k : Int) (hk : 0 ≤ k) (hn : ∀ t ∈ xs, nmOf t ≠ (o, k)) :
    TabP (xs ++ [⟨due, nx, timV due o k⟩]) (updN m (o, k) (.int .i64 (nx : Int))) where
  form t ht := by
    rcases List.mem_append.1 ht with ht | ht
    · exact h.form t ht
    · simp at ht; subst ht; exact ⟨o, k, rfl, hk⟩
  is t ht := by
    unfold updN
    rcases List.mem_append.1 ht with ht | ht
    · rw [if_neg (hn t ht)]; exact h.is t ht
    · simp at ht; subst ht; rw [if_pos (nmOf_tim _ _ _ _ _)]
  no k' hk' := by
    unfold updN
    have h1 := hk' ⟨due, nx, timV due o k⟩ (by simp)
    rw [nmOf_tim] at h1
    rw [if_neg (Ne.symm h1)]
    exact h.no k' fun t ht => hk' t (List.mem_append_left _ ht)
theorem TabP.apart {x : Th} {zs xs : List Th} {m : Nm → Option Value} (h : TabP xs m) (ha : Apart xs) (hp : (x :: zs).Perm xs) : ∀ t ∈ zs, nmOf t ≠ nmOf x := fun t ht e => by
  have h1 := h.is x (hp.mem_iff.1 List.mem_cons_self)
  have h2 := h.is t (hp.mem_iff.1 (List.mem_cons_of_mem _ ht))
  rw [e, h1] at h2
  have hd : Apart (x :: zs) := ha.perm hp
  have := (List.nodup_cons.1 (show (x.num :: zs.map (·.num)).Nodup from hd)).1
  refine this (List.mem_map.2 ⟨t, ht, ?_⟩)
  injection h2 with h2
  injection h2 with _ h2
  omega
theorem TabP.out {x : Th} {zs xs : List Th} {m : Nm → Option Value} (h : TabP xs m) (ha : Apart xs) (hp : (x :: zs).Perm xs) : TabP zs (wipeN m (nmOf x)) where
  form t ht := h.form t (hp.mem_iff.1 (List.mem_cons_of_mem _ ht))
  is t ht := by
    unfold wipeN
    rw [if_neg (h.apart ha hp t ht)]
    exact h.is t (hp.mem_iff.1 (List.mem_cons_of_mem _ ht))
  no k hk := by
    unfold wipeN
    by_cases e : k = nmOf x
    · rw [if_pos e]
    · rw [if_neg e]
      refine h.no k fun t ht => ?_
      rcases List.mem_cons.1 (hp.mem_iff.2 ht) with rfl | ht
      · exact Ne.symm e
      · exact hk t ht
end Go.Proofs.Yteondokncalbnaa
