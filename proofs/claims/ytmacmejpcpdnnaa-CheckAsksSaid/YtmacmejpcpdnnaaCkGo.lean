/- check: the walk of check.Slots in plain Lean. -/
import Derived.Test.YtmacmejpcpdnnaaCkFuel
namespace Go.Proofs.Ytmacmejpcpdnnaa

abbrev Seen := ByteArray → Option Int
def addS (m : Seen) (k : ByteArray) (v : Int) : Seen := fun k' => if k' = k then some v else m k'
def delS (m : Seen) (k : ByteArray) : Seen := fun k' => if k' = k then none else m k'
/-- the walk's state: the next place, how many variables were made, those that are seen, the slots told -/
structure Sl where
  at_ : Nat
  made : Nat
  seen : Seen
  out : List Int
def mkB (x : Tw) : Bool := x.op == 2 || x.op == 4
def usB (x : Tw) : Bool := x.op == 5 || x.op == 26
/-- one twig -/
def stepT (x : Tw) (s : Sl) : Except Nat Sl :=
  if mkB x then
    if (s.seen x.text).isSome then .error 111 else if s.made = 100 then .error 2 else .ok ⟨s.at_ + 1, s.made + 1, s.seen, s.out ++ [(s.made : Int)]⟩
  else if usB x then
    match s.seen x.text with
    | none => .error 110
    | some v => .ok ⟨s.at_ + 1, s.made, s.seen, s.out ++ [v]⟩
  else .ok ⟨s.at_ + 1, s.made, s.seen, s.out ++ [-1]⟩
def bindS (x : Tw) (m : Nat) (s : Sl) : Sl := if mkB x then ⟨s.at_, s.made, addS s.seen x.text m, s.out⟩ else s
def bindN (x : Tw) (l : List ByteArray) : List ByteArray := if mkB x then x.text :: l else l
def dropS (s : Sl) (l : List ByteArray) : Sl := ⟨s.at_, s.made, l.foldl delS s.seen, s.out⟩
/-- trees, one behind the other: the state behind them, and the variables that they made -/
def goF : Fo → Sl → Except (Nat × Nat) (Sl × List ByteArray)
  | .nil, s => .ok (s, [])
  | .cons x k r, s =>
    match stepT x s with
    | .error e => .error (s.at_, e)
    | .ok s1 =>
      match goF k s1 with
      | .error e => .error e
      | .ok (s2, l) =>
        match goF r (bindS x s.made (dropS s2 l)) with
        | .error e => .error e
        | .ok (s3, l') => .ok (s3, bindN x l')
/-- one tree -/
def go1 (x : Tw) (k : Fo) (s : Sl) : Except (Nat × Nat) Sl :=
  match stepT x s with
  | .error e => .error (s.at_, e)
  | .ok s1 =>
    match goF k s1 with
    | .error e => .error e
    | .ok (s2, l) => .ok (dropS s2 l)
theorem goF_cons (x : Tw) (k r : Fo) (s : Sl) : goF (.cons x k r) s = match go1 x k s with
    | .error e => .error e
    | .ok s3 => match goF r (bindS x s.made s3) with
      | .error e => .error e
      | .ok (s4, l) => .ok (s4, bindN x l) := by
  unfold go1
  simp only [goF]
  cases stepT x s with
  | error e => rfl
  | ok s1 =>
    simp only
    cases goF k s1 with
    | error e => rfl
    | ok q => rfl
theorem stepT_at {x : Tw} {s s1 : Sl} (h : stepT x s = .ok s1) : s1.at_ = s.at_ + 1 ∧ s1.out.length = s.out.length + 1 ∧ s1.seen = s.seen := by
  unfold stepT at h
  split at h
  · split at h
    · cases h
    · split at h
      · cases h
      · injection h with h; subst h; simp
  · split at h
    · split at h
      · cases h
      · injection h with h; subst h; simp
    · injection h with h; subst h; simp
theorem goF_at : ∀ (f : Fo) (s s' : Sl) (l : List ByteArray), goF f s = .ok (s', l) → s'.at_ = s.at_ + f.size ∧ s'.out.length = s.out.length + f.size := by
  intro f
  induction f with
  | nil => intro s s' l h; simp only [goF] at h; injection h with h; injection h with h _; subst h; simp [Fo.size]
  | cons x k r ihk ihr =>
    intro s s' l h
    simp only [goF] at h
    cases h1 : stepT x s with
    | error e => rw [h1] at h; cases h
    | ok s1 =>
      rw [h1] at h
      simp only at h
      cases h2 : goF k s1 with
      | error e => rw [h2] at h; cases h
      | ok q =>
        obtain ⟨s2, l2⟩ := q
        rw [h2] at h
        simp only at h
        cases h3 : goF r (bindS x s.made (dropS s2 l2)) with
        | error e => rw [h3] at h; cases h
        | ok q =>
          obtain ⟨s3, l3⟩ := q
          rw [h3] at h
          simp only at h
          injection h with h
          injection h with h _
          subst h
          obtain ⟨a1, a2, _⟩ := stepT_at h1
          obtain ⟨b1, b2⟩ := ihk _ _ _ h2
          obtain ⟨c1, c2⟩ := ihr _ _ _ h3
          have e1 : (bindS x s.made (dropS s2 l2)).at_ = s2.at_ := by unfold bindS dropS; split <;> rfl
          have e2 : (bindS x s.made (dropS s2 l2)).out = s2.out := by unfold bindS dropS; split <;> rfl
          rw [e1] at c1
          rw [e2] at c2
          simp only [Fo.size]
          omega
theorem go1_at {x : Tw} {k : Fo} {s s' : Sl} (h : go1 x k s = .ok s') : s'.at_ = s.at_ + (1 + k.size) ∧ s'.out.length = s.out.length + (1 + k.size) := by
  have := goF_at (.cons x k .nil) s (bindS x s.made s') (bindN x []) (by rw [goF_cons, h]; rfl)
  have e1 : (bindS x s.made s').at_ = s'.at_ := by unfold bindS; split <;> rfl
  have e2 : (bindS x s.made s').out = s'.out := by unfold bindS; split <;> rfl
  rw [e1, e2] at this
  simpa [Fo.size] using this
/-- the place of a fault -/
theorem goF_er : ∀ (f : Fo) (s : Sl) (p e : Nat), goF f s = .error (p, e) → s.at_ ≤ p ∧ p < s.at_ + f.size ∧ e ≠ 0 ∧ e ≤ 255 := by
  intro f
  induction f with
  | nil => intro s p e h; simp only [goF] at h; cases h
  | cons x k r ihk ihr =>
    intro s p e h
    simp only [goF] at h
    cases h1 : stepT x s with
    | error e' =>
      rw [h1] at h
      simp only at h
      injection h with h
      injection h with h h'
      subst h h'
      refine ⟨Nat.le_refl _, by simp only [Fo.size]; omega, ?_⟩
      unfold stepT at h1
      split at h1
      · split at h1
        · injection h1 with h1; omega
        · split at h1
          · injection h1 with h1; omega
          · cases h1
      · split at h1
        · split at h1
          · injection h1 with h1; omega
          · cases h1
        · cases h1
    | ok s1 =>
      rw [h1] at h
      simp only at h
      obtain ⟨a1, _, _⟩ := stepT_at h1
      cases h2 : goF k s1 with
      | error q =>
        obtain ⟨p', e'⟩ := q
        rw [h2] at h
        simp only at h
        injection h with h
        injection h with h h'
        subst h h'
        obtain ⟨b1, b2, b3⟩ := ihk _ _ _ h2
        simp only [Fo.size]
        exact ⟨by omega, by omega, b3⟩
      | ok q =>
        obtain ⟨s2, l2⟩ := q
        rw [h2] at h
        simp only at h
        obtain ⟨b1, b2⟩ := goF_at _ _ _ _ h2
        cases h3 : goF r (bindS x s.made (dropS s2 l2)) with
        | ok q => obtain ⟨s3, l3⟩ := q; rw [h3] at h; cases h
        | error q =>
          obtain ⟨p', e'⟩ := q
          rw [h3] at h
          simp only at h
          injection h with h
          injection h with h h'
          subst h h'
          obtain ⟨c1, c2, c3⟩ := ihr _ _ _ h3
          have e1 : (bindS x s.made (dropS s2 l2)).at_ = s2.at_ := by unfold bindS dropS; split <;> rfl
          rw [e1] at c1 c2
          simp only [Fo.size]
          exact ⟨by omega, by omega, c3⟩
/-- each twig may stand where it stands -/
def Fo.rt : May → Fo → Prop
  | _, .nil => True
  | m, .cons x k r => goodB m x = true ∧ Fo.rt (.of x.op 0 x.kids) k ∧ Fo.rt m.next r
theorem ckK_rt (t : List Tw) : ∀ (f at_ level : Nat) (m : May) (n : Nat) (d : Option Nat) (g : Fo) (a : Nat) (d' : Option Nat), ckK t f at_ level m n d = .ok (g, a, d') → g.rt m := by
  intro f
  induction f with
  | zero => intro at_ level m n d g a d' h; simp [ckK] at h
  | succ f ih =>
    intro at_ level m n d g a d' h
    cases n with
    | zero => simp only [ckK] at h; injection h with h; injection h with h1 _; subst h1; trivial
    | succ n =>
      simp only [ckK] at h
      by_cases hlt : at_ < t.length
      · rw [dif_pos hlt] at h
        by_cases hg : goodB m t[at_] = true
        · rw [if_pos hg] at h
          cases h1 : ckK t f (at_ + 1) (level + 1) (.of t[at_].op 0 t[at_].kids) t[at_].kids.toNat (deepAt at_ level d) with
          | error e => rw [h1] at h; cases h
          | ok q =>
            obtain ⟨k, a1, d1⟩ := q
            rw [h1] at h
            simp only at h
            cases h2 : ckK t f a1 level m.next n d1 with
            | error e => rw [h2] at h; cases h
            | ok q =>
              obtain ⟨r, a2, d2⟩ := q
              rw [h2] at h
              simp only at h
              injection h with h
              injection h with h3 _
              subst h3
              exact ⟨hg, ih _ _ _ _ _ _ _ _ h1, ih _ _ _ _ _ _ _ _ h2⟩
        · rw [if_neg hg] at h; cases h
      · rw [dif_neg hlt] at h; cases h
/-- who makes a variable has a name -/
def Fo.named : Fo → Prop
  | .nil => True
  | .cons x k r => (mkB x = true → x.text ≠ ⟨#[]⟩) ∧ k.named ∧ r.named
theorem own_ne : txtB .own ⟨#[]⟩ = false := by decide
theorem Fo.named_of : ∀ (f : Fo) (m : May), f.rt m → f.named := by
  intro f
  induction f with
  | nil => intro _ _; trivial
  | cons x k r ihk ihr =>
    intro m h
    refine ⟨fun hm => ?_, ihk _ h.2.1, ihr _ h.2.2⟩
    intro he
    have h0 := h.1
    unfold goodB at h0
    have hf : (∃ f, formT x.op = some f ∧ f.txt = .own) := by
      unfold mkB at hm
      simp only [Bool.or_eq_true, beq_iff_eq] at hm
      rcases hm with hm | hm <;> rw [hm]
      · exact ⟨_, rfl, rfl⟩
      · exact ⟨_, rfl, rfl⟩
    obtain ⟨f, hf1, hf2⟩ := hf
    rw [hf1] at h0
    simp only [hf2, he, own_ne] at h0
    simp at h0
/-- the tree of a right tree's twigs -/
def forest (t : List Tw) : Fo := match ckK t (t.length + 2) 0 1 .any 1 none with
  | .error _ => .nil
  | .ok (g, _, _) => g
theorem forest_of {t : List Tw} (h : ckTree t = (0, 0)) : ∃ x k, forest t = .cons x k .nil ∧ (forest t).flat = t ∧ (forest t).ok ∧ (forest t).rt .any ∧ 0 < t.length ∧ t.length ≤ 2048 ∧ t[0]? = some x := by
  unfold ckTree at h
  by_cases hl : 2048 < t.length
  · rw [if_pos hl] at h; cases h
  · rw [if_neg hl] at h
    unfold forest
    cases h1 : ckK t (t.length + 2) 0 1 .any 1 none with
    | error p => rw [h1] at h; cases h
    | ok q =>
      obtain ⟨g, a, d⟩ := q
      rw [h1] at h
      simp only at h
      by_cases ha : a < t.length
      · rw [if_pos ha] at h; cases h
      · obtain ⟨r1, c1⟩ := ckK_ok t _ _ _ _ _ _ _ _ _ (Nat.zero_le _) h1
        have hr := ckK_rt t _ _ _ _ _ _ _ _ _ h1
        have hfl : g.flat = t := by
          rw [r1.flat, Nat.sub_zero, List.drop_zero, List.take_of_length_le (by omega)]
        cases g with
        | nil => simp only [Fo.cnt] at c1; omega
        | cons x k r =>
          cases r with
          | cons => simp only [Fo.cnt] at c1; omega
          | nil =>
            refine ⟨x, k, rfl, hfl, r1.ok, hr, ?_, by omega, ?_⟩
            · rw [← hfl]; simp [Fo.flat]
            · rw [← hfl]; simp [Fo.flat]
/-- what check.Slots says: the slots, or the place and what is wrong -/
def slots (t : List Tw) : Except (Nat × Nat) (List Int) :=
  if ckTree t ≠ (0, 0) then .error (ckTree t) else
  match forest t with
  | .nil => .error (0, 3)
  | .cons x k r => if x.op ≠ 1 then .error (0, 3) else
    match goF (.cons x k r) ⟨0, 0, fun _ => none, []⟩ with
    | .error e => .error e
    | .ok (s, _) => .ok s.out
theorem slots_len {t : List Tw} {l : List Int} (h : slots t = .ok l) : l.length = t.length ∧ t.length ≤ 2048 := by
  unfold slots at h
  by_cases hc : ckTree t = (0, 0)
  · rw [if_neg (by simpa using hc)] at h
    obtain ⟨x, k, hf, hfl, _, _, _, hl, _⟩ := forest_of hc
    rw [hf] at h
    simp only at h
    split at h
    · cases h
    · cases h1 : goF (.cons x k .nil) ⟨0, 0, fun _ => none, []⟩ with
      | error e => rw [h1] at h; cases h
      | ok q =>
        obtain ⟨s, m⟩ := q
        rw [h1] at h
        simp only at h
        injection h with h
        subst h
        obtain ⟨_, h2⟩ := goF_at _ _ _ _ h1
        rw [h2, ← Fo.flat_len, ← hf, hfl]
        simp [hl]
  · rw [if_pos (by simpa using hc)] at h; cases h
theorem ckK_er (t : List Tw) : ∀ (f at_ level : Nat) (m : May) (n : Nat) (d : Option Nat) (p : Nat), at_ ≤ t.length → ckK t f at_ level m n d = .error p → p ≤ t.length := by
  intro f
  induction f with
  | zero => intro at_ level m n d p _ h; simp only [ckK] at h; injection h with h; omega
  | succ f ih =>
    intro at_ level m n d p hle h
    cases n with
    | zero => simp only [ckK] at h; cases h
    | succ n =>
      simp only [ckK] at h
      by_cases hlt : at_ < t.length
      · rw [dif_pos hlt] at h
        by_cases hg : goodB m t[at_] = true
        · rw [if_pos hg] at h
          cases h1 : ckK t f (at_ + 1) (level + 1) (.of t[at_].op 0 t[at_].kids) t[at_].kids.toNat (deepAt at_ level d) with
          | error e => rw [h1] at h; injection h with h; subst h; exact ih _ _ _ _ _ _ hlt h1
          | ok q =>
            obtain ⟨k, a1, d1⟩ := q
            rw [h1] at h
            simp only at h
            obtain ⟨r1, _⟩ := ckK_ok t _ _ _ _ _ _ _ _ _ hlt h1
            cases h2 : ckK t f a1 level m.next n d1 with
            | error e => rw [h2] at h; injection h with h; subst h; exact ih _ _ _ _ _ _ r1.len h2
            | ok q => obtain ⟨r, a2, d2⟩ := q; rw [h2] at h; cases h
        · rw [if_neg hg] at h; injection h with h; omega
      · rw [dif_neg hlt] at h; injection h with h; omega
theorem deepAt_le {L at_ level : Nat} {d : Option Nat} (ha : at_ ≤ L) (hd : ∀ p, d = some p → p ≤ L) : ∀ p, deepAt at_ level d = some p → p ≤ L := by
  intro p h
  unfold deepAt at h
  split at h
  · injection h with h; omega
  · exact hd p h
theorem ckK_dp (t : List Tw) : ∀ (f at_ level : Nat) (m : May) (n : Nat) (d : Option Nat) (g : Fo) (a : Nat) (d' : Option Nat), at_ ≤ t.length → (∀ p, d = some p → p ≤ t.length) → ckK t f at_ level m n d = .ok (g, a, d') → ∀ p, d' = some p → p ≤ t.length := by
  intro f
  induction f with
  | zero => intro at_ level m n d g a d' _ _ h; simp [ckK] at h
  | succ f ih =>
    intro at_ level m n d g a d' hle hd h
    cases n with
    | zero => simp only [ckK] at h; injection h with h; injection h with _ h; injection h with _ h; subst h; exact hd
    | succ n =>
      simp only [ckK] at h
      by_cases hlt : at_ < t.length
      · rw [dif_pos hlt] at h
        by_cases hg : goodB m t[at_] = true
        · rw [if_pos hg] at h
          cases h1 : ckK t f (at_ + 1) (level + 1) (.of t[at_].op 0 t[at_].kids) t[at_].kids.toNat (deepAt at_ level d) with
          | error e => rw [h1] at h; cases h
          | ok q =>
            obtain ⟨k, a1, d1⟩ := q
            rw [h1] at h
            simp only at h
            obtain ⟨r1, _⟩ := ckK_ok t _ _ _ _ _ _ _ _ _ hlt h1
            have hd1 := ih _ _ _ _ _ _ _ _ hlt (deepAt_le hle hd) h1
            cases h2 : ckK t f a1 level m.next n d1 with
            | error e => rw [h2] at h; cases h
            | ok q =>
              obtain ⟨r, a2, d2⟩ := q
              rw [h2] at h
              simp only at h
              injection h with h
              injection h with _ h
              injection h with _ h
              subst h
              exact ih _ _ _ _ _ _ _ _ r1.len hd1 h2
        · rw [if_neg hg] at h; cases h
      · rw [dif_neg hlt] at h; cases h
theorem ckTree_le (t : List Tw) : (ckTree t).1 ≤ t.length := by
  unfold ckTree
  split
  · simp
  · cases h1 : ckK t (t.length + 2) 0 1 .any 1 none with
    | error p =>
      simp only
      exact ckK_er t _ _ _ _ _ _ _ (Nat.zero_le _) h1
    | ok q =>
      obtain ⟨g, a, d⟩ := q
      simp only
      obtain ⟨r1, c1⟩ := ckK_ok t _ _ _ _ _ _ _ _ _ (Nat.zero_le _) h1
      split
      · exact r1.len
      · cases d with
        | none => simp
        | some p => simp only; exact ckK_dp t _ _ _ _ _ _ _ _ _ (Nat.zero_le _) (by simp) h1 p rfl
end Go.Proofs.Ytmacmejpcpdnnaa
