/- check: what CheckBound says, in plain Lean. -/
import Derived.Test.YtmacmejpcpdnnaaCkGo
namespace Go.Proofs.Ytmacmejpcpdnnaa

/-- the names that twigs make, behind those that were made -/
def more (N : List ByteArray) : List Tw → List ByteArray
  | [] => N
  | x :: t => more (if mkB x then N ++ [x.text] else N) t
def Fits (x : Tw) (z : Int) (N : List ByteArray) : Prop :=
  if mkB x then z = (N.length : Int) ∧ N.length < 100 else if usB x then ∃ k : Nat, z = (k : Int) ∧ N[k]? = some x.text else z = -1
def Good : List Tw → List Int → List ByteArray → Prop
  | [], [], _ => True
  | x :: t, z :: l, N => Fits x z N ∧ Good t l (if mkB x then N ++ [x.text] else N)
  | _, _, _ => False
theorem more_append (t1 t2 : List Tw) : ∀ N, more N (t1 ++ t2) = more (more N t1) t2 := by
  induction t1 with
  | nil => intro N; rfl
  | cons x t ih => intro N; exact ih _
theorem Good.append : ∀ {t1 t2 : List Tw} {o1 o2 : List Int} {N : List ByteArray}, Good t1 o1 N → Good t2 o2 (more N t1) → Good (t1 ++ t2) (o1 ++ o2) N := by
  intro t1
  induction t1 with
  | nil =>
    intro t2 o1 o2 N h1 h2
    cases o1 with
    | nil => exact h2
    | cons => exact h1.elim
  | cons x t ih =>
    intro t2 o1 o2 N h1 h2
    cases o1 with
    | nil => exact h1.elim
    | cons z o => exact ⟨h1.1, ih h1.2 h2⟩
/-- what the state knows of the names made -/
structure Knows (s : Sl) (N : List ByteArray) : Prop where
  made : N.length = s.made
  le : s.made ≤ 100
  seen : ∀ n v, s.seen n = some v → ∃ k : Nat, v = (k : Int) ∧ N[k]? = some n
theorem Knows.drop {s : Sl} {N : List ByteArray} (h : Knows s N) (l : List ByteArray) : Knows (dropS s l) N := by
  refine ⟨h.made, h.le, ?_⟩
  have key : ∀ (l : List ByteArray) (m : Seen), (∀ n v, m n = some v → ∃ k : Nat, v = (k : Int) ∧ N[k]? = some n) → ∀ n v, l.foldl delS m n = some v → ∃ k : Nat, v = (k : Int) ∧ N[k]? = some n := by
    intro l
    induction l with
    | nil => intro m hm; exact hm
    | cons a l ih =>
      intro m hm
      refine ih _ (fun n v hv => hm n v ?_)
      unfold delS at hv
      split at hv
      · cases hv
      · exact hv
  exact key l s.seen h.seen
theorem more_len (t : List Tw) : ∀ N, N.length ≤ (more N t).length := by
  induction t with
  | nil => intro N; exact Nat.le_refl _
  | cons x t ih =>
    intro N
    refine Nat.le_trans ?_ (ih _)
    split <;> simp
theorem more_get (t : List Tw) : ∀ (N : List ByteArray) (k : Nat) (n : ByteArray), N[k]? = some n → (more N t)[k]? = some n := by
  induction t with
  | nil => intro N k n h; exact h
  | cons x t ih =>
    intro N k n h
    refine ih _ k n ?_
    split
    · rw [List.getElem?_append_left (List.getElem?_eq_some_iff.1 h).1]; exact h
    · exact h
theorem goF_good : ∀ (f : Fo) (s s' : Sl) (m N : List ByteArray), goF f s = .ok (s', m) → Knows s N → ∃ o, s'.out = s.out ++ o ∧ Good f.flat o N ∧ Knows s' (more N f.flat) := by
  intro f
  induction f with
  | nil =>
    intro s s' m N h hk
    simp only [goF] at h
    injection h with h
    injection h with h _
    subst h
    exact ⟨[], by simp, trivial, hk⟩
  | cons x k r ihk ihr =>
    intro s s' m N h hk
    simp only [goF] at h
    cases h1 : stepT x s with
    | error e => rw [h1] at h; cases h
    | ok s1 =>
      rw [h1] at h
      simp only at h
      cases h2 : goF k s1 with
      | error e => rw [h2] at h; cases h
      | ok q =>
        obtain ⟨s2, l2⟩ := q
        rw [h2] at h
        simp only at h
        cases h3 : goF r (bindS x s.made (dropS s2 l2)) with
        | error e => rw [h3] at h; cases h
        | ok q =>
          obtain ⟨s3, l3⟩ := q
          rw [h3] at h
          simp only at h
          injection h with h
          injection h with h _
          subst h
          obtain ⟨z, hz, hf, hk1⟩ : ∃ z, s1.out = s.out ++ [z] ∧ Fits x z N ∧ Knows s1 (if mkB x then N ++ [x.text] else N) := by
            unfold stepT at h1
            by_cases hm : mkB x = true
            · rw [if_pos hm] at h1
              split at h1
              · cases h1
              · split at h1
                · cases h1
                · rename_i hn hb
                  injection h1 with h1
                  subst h1
                  refine ⟨_, rfl, ?_, ?_⟩
                  · unfold Fits; rw [if_pos hm, hk.made]; exact ⟨rfl, by have := hk.le; omega⟩
                  · rw [if_pos hm]
                    refine ⟨by simp [hk.made], by have := hk.le; simp only; omega, fun n v hv => ?_⟩
                    obtain ⟨k0, e0, g0⟩ := hk.seen n v hv
                    exact ⟨k0, e0, by rw [List.getElem?_append_left (List.getElem?_eq_some_iff.1 g0).1]; exact g0⟩
            · rw [if_neg hm] at h1
              by_cases hu : usB x = true
              · rw [if_pos hu] at h1
                cases hsn : s.seen x.text with
                | none => rw [hsn] at h1; cases h1
                | some v =>
                  rw [hsn] at h1
                  simp only at h1
                  injection h1 with h1
                  subst h1
                  refine ⟨v, rfl, ?_, ?_⟩
                  · unfold Fits; rw [if_neg hm, if_pos hu]; exact hk.seen _ _ hsn
                  · rw [if_neg hm]; exact ⟨hk.made, hk.le, hk.seen⟩
              · rw [if_neg hu] at h1
                injection h1 with h1
                subst h1
                refine ⟨-1, rfl, ?_, ?_⟩
                · unfold Fits; rw [if_neg hm, if_neg hu]
                · rw [if_neg hm]; exact ⟨hk.made, hk.le, hk.seen⟩
          obtain ⟨o2, ho2, hg2, hk2⟩ := ihk _ _ _ _ h2 hk1
          have hk3 : Knows (bindS x s.made (dropS s2 l2)) (more (if mkB x then N ++ [x.text] else N) k.flat) := by
            have hd := hk2.drop l2
            unfold bindS
            by_cases hm : mkB x = true
            · rw [if_pos hm] at hd ⊢
              rw [if_pos hm]
              refine ⟨hd.made, hd.le, fun n v hv => ?_⟩
              simp only [addS] at hv
              split at hv
              · rename_i hn
                injection hv with hv
                refine ⟨s.made, hv.symm, ?_⟩
                rw [hn]
                refine more_get _ _ _ _ ?_
                rw [List.getElem?_append_right (by rw [hk.made]; exact Nat.le_refl _), hk.made]
                simp
              · exact hd.seen n v hv
            · rw [if_neg hm] at hd ⊢
              rw [if_neg hm]
              exact hd
          obtain ⟨o3, ho3, hg3, hk4⟩ := ihr _ _ _ _ h3 hk3
          have e3 : (bindS x s.made (dropS s2 l2)).out = s2.out := by unfold bindS dropS; split <;> rfl
          refine ⟨z :: (o2 ++ o3), ?_, ⟨hf, ?_⟩, ?_⟩
          · rw [ho3, e3, ho2, hz]; simp
          · exact Good.append hg2 hg3
          · show Knows _ (more _ (k.flat ++ r.flat))
            rw [more_append]
            exact hk4
theorem slots_good {t : List Tw} {l : List Int} (h : slots t = .ok l) : Good t l [] := by
  unfold slots at h
  by_cases hc : ckTree t = (0, 0)
  · rw [if_neg (by simpa using hc)] at h
    obtain ⟨x, k, hf, hfl, _, _, _, hl, _⟩ := forest_of hc
    rw [hf] at h
    simp only at h
    split at h
    · cases h
    · cases h1 : goF (.cons x k .nil) ⟨0, 0, fun _ => none, []⟩ with
      | error e => rw [h1] at h; cases h
      | ok q =>
        obtain ⟨s, m⟩ := q
        rw [h1] at h
        simp only at h
        injection h with h
        subst h
        obtain ⟨o, ho, hg, _⟩ := goF_good _ _ _ _ [] h1 ⟨rfl, Nat.zero_le _, fun n v hv => by cases hv⟩
        rw [ho, ← hfl, hf]
        exact hg
  · rw [if_pos (by simpa using hc)] at h; cases h
theorem slots_er {t : List Tw} {p e : Nat} (h : slots t = .error (p, e)) : p ≤ t.length := by
  unfold slots at h
  by_cases hc : ckTree t = (0, 0)
  · rw [if_neg (by simpa using hc)] at h
    obtain ⟨x, k, hf, hfl, _, _, _, hl, _⟩ := forest_of hc
    rw [hf] at h
    simp only at h
    split at h
    · injection h with h; injection h with h _; omega
    · cases h1 : goF (.cons x k .nil) ⟨0, 0, fun _ => none, []⟩ with
      | error q =>
        obtain ⟨p', e'⟩ := q
        rw [h1] at h
        simp only at h
        injection h with h
        injection h with h _
        subst h
        have h2 := (goF_er _ _ _ _ h1).2.1
        rw [← Fo.flat_len, ← hf, hfl] at h2
        simp only at h2
        omega
      | ok q => obtain ⟨s, m⟩ := q; rw [h1] at h; cases h
  · rw [if_pos (by simpa using hc)] at h
    injection h with h
    have := ckTree_le t
    rw [h] at this
    exact this
end Go.Proofs.Ytmacmejpcpdnnaa
