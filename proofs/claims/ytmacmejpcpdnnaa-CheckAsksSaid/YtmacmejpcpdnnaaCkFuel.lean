/- check: the parser without its fuel: its equations. -/
import Derived.Test.YtmacmejpcpdnnaaCkTree
namespace Go.Proofs.Ytmacmejpcpdnnaa

theorem ckK_fuel (t : List Tw) : ∀ (f g at_ level : Nat) (m : May) (n : Nat) (d : Option Nat), at_ ≤ t.length → t.length - at_ + 2 ≤ f → t.length - at_ + 2 ≤ g → ckK t f at_ level m n d = ckK t g at_ level m n d := by
  intro f
  induction f with
  | zero => intro g at_ level m n d _ h; omega
  | succ f ih =>
    intro g at_ level m n d hle hf hg
    cases g with
    | zero => omega
    | succ g =>
      cases n with
      | zero => simp only [ckK]
      | succ n =>
        simp only [ckK]
        by_cases hlt : at_ < t.length
        · rw [dif_pos hlt, dif_pos hlt]
          by_cases hgd : goodB m t[at_] = true
          · rw [if_pos hgd, if_pos hgd, ih g (at_ + 1) (level + 1) _ _ _ hlt (by omega) (by omega)]
            cases h1 : ckK t g (at_ + 1) (level + 1) (.of t[at_].op 0 t[at_].kids) t[at_].kids.toNat (deepAt at_ level d) with
            | error e => rfl
            | ok q =>
              obtain ⟨k, a1, d1⟩ := q
              obtain ⟨r1, _⟩ := ckK_ok t _ _ _ _ _ _ _ _ _ hlt h1
              have e1 := r1.le
              simp only
              rw [ih g a1 level m.next n d1 r1.len (by omega) (by omega)]
          · rw [if_neg hgd, if_neg hgd]
        · rw [dif_neg hlt, dif_neg hlt]
/-- n trees from a place on: where they end, and the first place that lies too deep -/
def ckr (t : List Tw) (at_ level : Nat) (m : May) (n : Nat) (d : Option Nat) : Except Nat (Nat × Option Nat) :=
  match ckK t (t.length - at_ + 2) at_ level m n d with
  | .error e => .error e
  | .ok (_, a, d') => .ok (a, d')
theorem ckr_zero (t : List Tw) (at_ level : Nat) (m : May) (d : Option Nat) : ckr t at_ level m 0 d = .ok (at_, d) := by
  unfold ckr
  rw [show t.length - at_ + 2 = (t.length - at_ + 1) + 1 from rfl]
  simp only [ckK]
theorem ckr_out {t : List Tw} {at_ level : Nat} {m : May} {n : Nat} {d : Option Nat} (h : ¬ at_ < t.length) : ckr t at_ level m (n + 1) d = .error t.length := by
  unfold ckr
  rw [show t.length - at_ + 2 = (t.length - at_ + 1) + 1 from rfl]
  simp only [ckK]
  rw [dif_neg h]
theorem ckr_bad {t : List Tw} {at_ level : Nat} {m : May} {n : Nat} {d : Option Nat} (h : at_ < t.length) (hg : goodB m t[at_] = false) : ckr t at_ level m (n + 1) d = .error at_ := by
  unfold ckr
  rw [show t.length - at_ + 2 = (t.length - at_ + 1) + 1 from rfl]
  simp only [ckK]
  rw [dif_pos h, if_neg (by rw [hg]; decide)]
theorem ckK_good {t : List Tw} {F at_ level : Nat} {m : May} {n : Nat} {d : Option Nat} (h : at_ < t.length) (hg : goodB m t[at_] = true) :
    ckK t (F + 1) at_ level m (n + 1) d = match ckK t F (at_ + 1) (level + 1) (.of t[at_].op 0 t[at_].kids) t[at_].kids.toNat (deepAt at_ level d) with
      | .error e => .error e
      | .ok (k, a1, d1) => match ckK t F a1 level m.next n d1 with
        | .error e => .error e
        | .ok (r, a2, d2) => .ok (.cons t[at_] k r, a2, d2) := by
  simp only [ckK]
  rw [dif_pos h, if_pos hg]
  rfl
theorem ckr_good {t : List Tw} {at_ level : Nat} {m : May} {n : Nat} {d : Option Nat} (h : at_ < t.length) (hg : goodB m t[at_] = true) :
    ckr t at_ level m (n + 1) d = match ckr t (at_ + 1) (level + 1) (.of t[at_].op 0 t[at_].kids) t[at_].kids.toNat (deepAt at_ level d) with
      | .error e => .error e
      | .ok (a1, d1) => ckr t a1 level m.next n d1 := by
  unfold ckr
  rw [show t.length - at_ + 2 = (t.length - (at_ + 1) + 2) + 1 from by omega, ckK_good h hg]
  cases h1 : ckK t (t.length - (at_ + 1) + 2) (at_ + 1) (level + 1) (.of t[at_].op 0 t[at_].kids) t[at_].kids.toNat (deepAt at_ level d) with
  | error e => rfl
  | ok q =>
    obtain ⟨k, a1, d1⟩ := q
    obtain ⟨r1, _⟩ := ckK_ok t _ _ _ _ _ _ _ _ _ h h1
    have e1 := r1.le
    simp only
    rw [ckK_fuel t (t.length - (at_ + 1) + 2) (t.length - a1 + 2) a1 level m.next n d1 r1.len (by omega) (by omega)]
    cases ckK t (t.length - a1 + 2) a1 level m.next n d1 <;> rfl
/-- where trees end -/
theorem ckr_le {t : List Tw} {at_ level : Nat} {m : May} {n : Nat} {d d' : Option Nat} {a : Nat} (hle : at_ ≤ t.length) (h : ckr t at_ level m n d = .ok (a, d')) : at_ ≤ a ∧ a ≤ t.length ∧ (0 < n → at_ < a) := by
  unfold ckr at h
  cases h1 : ckK t (t.length - at_ + 2) at_ level m n d with
  | error e => rw [h1] at h; cases h
  | ok q =>
    obtain ⟨k, a1, d1⟩ := q
    rw [h1] at h
    simp only at h
    injection h with h
    injection h with h2 _
    subst h2
    obtain ⟨r1, c1⟩ := ckK_ok t _ _ _ _ _ _ _ _ _ hle h1
    refine ⟨r1.le, r1.len, fun hn => ?_⟩
    have e1 := r1.le
    rcases Nat.lt_or_ge at_ a1 with hh | hh
    · exact hh
    · exfalso
      have hf := r1.flat
      rw [show a1 - at_ = 0 from by omega, List.take_zero] at hf
      cases k with
      | nil => simp only [Fo.cnt] at c1; omega
      | cons x k r => simp [Fo.flat] at hf
/-- the first tree, then the others -/
theorem ckr_one {t : List Tw} {at_ level : Nat} {m : May} {n : Nat} {d : Option Nat} :
    ckr t at_ level m (n + 1) d = match ckr t at_ level m 1 d with
      | .error e => .error e
      | .ok (a, d1) => ckr t a level m.next n d1 := by
  by_cases h : at_ < t.length
  · by_cases hg : goodB m t[at_] = true
    · rw [ckr_good (n := n) h hg, ckr_good (n := 0) h hg]
      cases ckr t (at_ + 1) (level + 1) (.of t[at_].op 0 t[at_].kids) t[at_].kids.toNat (deepAt at_ level d) with
      | error e => rfl
      | ok q => obtain ⟨a1, d1⟩ := q; simp only [ckr_zero]
    · have hg' : goodB m t[at_] = false := by simpa using hg
      rw [ckr_bad (n := n) h hg', ckr_bad (n := 0) h hg']
  · rw [ckr_out (n := n) h, ckr_out (n := 0) h]
/-- what tree.Check says, by them -/
theorem ckTree_ckr (t : List Tw) : ckTree t = if 2048 < t.length then (0, 2) else
    match ckr t 0 1 .any 1 none with
    | .error p => (p, 3)
    | .ok (e, d) => if e < t.length then (e, 3) else match d with | some p => (p, 2) | none => (0, 0) := by
  unfold ckTree ckr
  rw [Nat.sub_zero]
  cases ckK t (t.length + 2) 0 1 .any 1 none <;> rfl
end Go.Proofs.Ytmacmejpcpdnnaa
