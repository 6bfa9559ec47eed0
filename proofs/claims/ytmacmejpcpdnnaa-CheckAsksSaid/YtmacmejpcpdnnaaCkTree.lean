/- check: the program's Check of a tree, in plain Lean. -/
import Derived.Test.YtmacmejpcpdnnaaCkSmall
namespace Go.Proofs.Ytmacmejpcpdnnaa

/-- which parts may come: any one, or those of a twig: its Op, the part's place, how many -/
inductive May where
  | any
  | of (up : Nat) (i n : Int)
def May.ok : May → Nat → Bool
  | .any, _ => true
  | .of up i n, op => match formT up with | some f => prtB f.prt i n op | none => false
def May.next : May → May
  | .any => .any
  | .of up i n => .of up (i + 1) n
/-- may a twig stand there? -/
def goodB (m : May) (x : Tw) : Bool :=
  match formT x.op with
  | none => false
  | some f => m.ok x.op && txtB f.txt x.text && !decide (x.kids < f.least) && !decide (f.most < x.kids) && !(!(x.op == 23) && !decide (x.int = 0)) && !decide (x.int < 0)
/-- the first place that lies too deep -/
def deepAt (at_ level : Nat) (d : Option Nat) : Option Nat := if 40 < level ∧ d = none then some at_ else d
/-- n trees from a place on: where they end -/
def ckK (t : List Tw) : Nat → Nat → Nat → May → Nat → Option Nat → Except Nat (Fo × Nat × Option Nat)
  | 0, _, _, _, _, _ => .error 0
  | f + 1, at_, level, m, n, d =>
    match n with
    | 0 => .ok (.nil, at_, d)
    | n + 1 =>
      if h : at_ < t.length then
        if goodB m t[at_] then
          match ckK t f (at_ + 1) (level + 1) (.of t[at_].op 0 t[at_].kids) t[at_].kids.toNat (deepAt at_ level d) with
          | .error e => .error e
          | .ok (k, a1, d1) =>
            match ckK t f a1 level m.next n d1 with
            | .error e => .error e
            | .ok (r, a2, d2) => .ok (.cons t[at_] k r, a2, d2)
        else .error at_
      else .error t.length
/-- what tree.Check says -/
def ckTree (t : List Tw) : Nat × Nat :=
  if 2048 < t.length then (0, 2) else
  match ckK t (t.length + 2) 0 1 .any 1 none with
  | .error p => (p, 3)
  | .ok (_, e, d) => if e < t.length then (e, 3) else match d with | some p => (p, 2) | none => (0, 0)

def lmB (f : Form) : Bool := decide (0 ≤ f.least) && decide (f.most ≤ 2048)
def lmO : Option Form → Bool
  | some f => lmB f
  | none => true
theorem lmO_ite {c : Prop} [Decidable c] {a b : Option Form} (ha : lmO a = true) (hb : lmO b = true) : lmO (if c then a else b) = true := by
  by_cases h : c
  · rw [if_pos h]; exact ha
  · rw [if_neg h]; exact hb
theorem lmO_formT (op : Nat) : lmO (formT op) = true := by
  unfold formT
  repeat (refine lmO_ite (by decide) ?_)
  rfl
theorem formT_lm {op : Nat} {f : Form} (h : formT op = some f) : 0 ≤ f.least ∧ f.most ≤ 2048 := by
  have := lmO_formT op
  rw [h] at this
  simpa [lmO, lmB] using this
theorem goodB_kids {m : May} {x : Tw} (h : goodB m x = true) : 0 ≤ x.kids ∧ x.kids ≤ 2048 := by
  unfold goodB at h
  cases hf : formT x.op with
  | none => rw [hf] at h; cases h
  | some f =>
    rw [hf] at h
    simp only [Bool.and_eq_true, Bool.not_eq_true', decide_eq_false_iff_not] at h
    have h1 := h.1.1.1.2
    have h2 := h.1.1.2
    have key := formT_lm hf
    omega
/-- what was read is there -/
structure Read (t : List Tw) (at_ a : Nat) (f : Fo) : Prop where
  le : at_ ≤ a
  len : a ≤ t.length
  flat : f.flat = (t.drop at_).take (a - at_)
  ok : f.ok
theorem ckK_ok (t : List Tw) : ∀ (f at_ level : Nat) (m : May) (n : Nat) (d : Option Nat) (g : Fo) (a : Nat) (d' : Option Nat), at_ ≤ t.length → ckK t f at_ level m n d = .ok (g, a, d') → Read t at_ a g ∧ g.cnt = n := by
  intro f
  induction f with
  | zero => intro at_ level m n d g a d' _ h; simp [ckK] at h
  | succ f ih =>
    intro at_ level m n d g a d' hle h
    cases n with
    | zero =>
      simp only [ckK] at h
      injection h with h
      injection h with h1 h2
      injection h2 with h2 _
      subst h1 h2
      exact ⟨⟨Nat.le_refl _, hle, by simp [Fo.flat], trivial⟩, rfl⟩
    | succ n =>
      simp only [ckK] at h
      by_cases hlt : at_ < t.length
      · rw [dif_pos hlt] at h
        by_cases hg : goodB m t[at_] = true
        · rw [if_pos hg] at h
          cases h1 : ckK t f (at_ + 1) (level + 1) (.of t[at_].op 0 t[at_].kids) t[at_].kids.toNat (deepAt at_ level d) with
          | error e => rw [h1] at h; cases h
          | ok q =>
            obtain ⟨k, a1, d1⟩ := q
            rw [h1] at h
            simp only at h
            obtain ⟨r1, c1⟩ := ih _ _ _ _ _ _ _ _ hlt h1
            cases h2 : ckK t f a1 level m.next n d1 with
            | error e => rw [h2] at h; cases h
            | ok q =>
              obtain ⟨r, a2, d2⟩ := q
              rw [h2] at h
              simp only at h
              obtain ⟨r2, c2⟩ := ih _ _ _ _ _ _ _ _ r1.len h2
              injection h with h
              injection h with h3 h4
              injection h4 with h4 _
              subst h3 h4
              have hk := goodB_kids hg
              have e1 := r1.le
              have e2 := r2.le
              refine ⟨⟨by omega, r2.len, ?_, ⟨by rw [c1]; omega, r1.ok, r2.ok⟩⟩, by simp [Fo.cnt, c2]⟩
              show t[at_] :: (k.flat ++ r.flat) = _
              rw [r1.flat, r2.flat, List.drop_eq_getElem_cons hlt, show a2 - at_ = (a2 - (at_ + 1)) + 1 from by omega, List.take_succ_cons]
              congr 1
              rw [show a2 - (at_ + 1) = (a1 - (at_ + 1)) + (a2 - a1) from by omega, List.take_add, List.drop_drop, show at_ + 1 + (a1 - (at_ + 1)) = a1 from by omega]
        · rw [if_neg hg] at h; cases h
      · rw [dif_neg hlt] at h; cases h
end Go.Proofs.Ytmacmejpcpdnnaa
