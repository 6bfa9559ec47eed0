/- check: variables under other names: the slots stay (plain Lean). -/
import Derived.Test.YtmacmejpcpdnnaaCkBoundP
namespace Go.Proofs.Ytmacmejpcpdnnaa

/-- a letter goes on by k, round and round -/
def rnN (k c : Nat) : Nat := if 97 ≤ c ∧ c ≤ 122 then 97 + (c - 97 + k) % 26 else c
def rnB (k : Nat) (c : UInt8) : UInt8 := UInt8.ofNat (rnN k c.toNat)
def ren (k : Nat) (s : ByteArray) : ByteArray := ⟨(s.toList.map (rnB k)).toArray⟩
theorem rnN_lt {k c : Nat} (h : c < 256) : rnN k c < 256 := by
  unfold rnN
  split
  · have := Nat.mod_lt (c - 97 + k) (show 0 < 26 by decide); omega
  · exact h
theorem rnB_nat (k : Nat) (c : UInt8) : (rnB k c).toNat = rnN k c.toNat := by
  unfold rnB
  rw [UInt8.toNat_ofNat', Nat.mod_eq_of_lt (rnN_lt (UInt8.toNat_lt c))]
theorem rnN_inj {k c d : Nat} (hk : k < 26) (h : rnN k c = rnN k d) : c = d := by
  unfold rnN at h
  by_cases h1 : 97 ≤ c ∧ c ≤ 122 <;> by_cases h2 : 97 ≤ d ∧ d ≤ 122
  · rw [if_pos h1, if_pos h2] at h; omega
  · rw [if_pos h1, if_neg h2] at h; omega
  · rw [if_neg h1, if_pos h2] at h; omega
  · rw [if_neg h1, if_neg h2] at h; exact h
theorem rnB_inj {k : Nat} {c d : UInt8} (hk : k < 26) (h : rnB k c = rnB k d) : c = d := by
  have := congrArg UInt8.toNat h
  rw [rnB_nat, rnB_nat] at this
  exact UInt8.toNat_inj.1 (rnN_inj hk this)
theorem map_inj {k : Nat} (hk : k < 26) : ∀ l l' : List UInt8, l.map (rnB k) = l'.map (rnB k) → l = l' := by
  intro l
  induction l with
  | nil => intro l' h; cases l' with | nil => rfl | cons => simp at h
  | cons c l ih =>
    intro l' h
    cases l' with
    | nil => simp at h
    | cons d l' => simp only [List.map_cons, List.cons.injEq] at h; rw [rnB_inj hk h.1, ih _ h.2]
theorem ren_inj {k : Nat} {s s' : ByteArray} (hk : k < 26) (h : ren k s = ren k s') : s = s' := by
  unfold ren at h
  injection h with h
  have h2 := congrArg Array.toList h
  simp only at h2
  have := map_inj hk _ _ h2
  rw [ByteArray.toList_eq, ByteArray.toList_eq] at this
  obtain ⟨⟨l⟩⟩ := s
  obtain ⟨⟨l'⟩⟩ := s'
  simp only at this
  rw [this]
def renT (k : Nat) (x : Tw) : Tw := if mkB x || usB x then ⟨x.op, x.kids, x.int, ren k x.text⟩ else x
theorem renT_op (k : Nat) (x : Tw) : (renT k x).op = x.op ∧ (renT k x).kids = x.kids := by unfold renT; split <;> exact ⟨rfl, rfl⟩
theorem mkB_ren (k : Nat) (x : Tw) : mkB (renT k x) = mkB x := by unfold mkB; rw [(renT_op k x).1]
theorem usB_ren (k : Nat) (x : Tw) : usB (renT k x) = usB x := by unfold usB; rw [(renT_op k x).1]
theorem text_mk {k : Nat} {x : Tw} (h : mkB x = true) : (renT k x).text = ren k x.text := by unfold renT; rw [h]; rfl
theorem text_us {k : Nat} {x : Tw} (h : usB x = true) : (renT k x).text = ren k x.text := by unfold renT; rw [h, Bool.or_true]; rfl
def Fo.ren (k : Nat) : Fo → Fo
  | .nil => .nil
  | .cons x f r => .cons (renT k x) (f.ren k) (r.ren k)
theorem ckK_ren (k : Nat) (t : List Tw) : ∀ (f at_ level : Nat) (m : May) (n : Nat) (d : Option Nat) (g g' : Fo) (a a' : Nat) (d1 d1' : Option Nat),
    ckK t f at_ level m n d = .ok (g, a, d1) → ckK (t.map (renT k)) f at_ level m n d = .ok (g', a', d1') → g' = g.ren k ∧ a' = a ∧ d1' = d1 := by
  intro f
  induction f with
  | zero => intro at_ level m n d g g' a a' d1 d1' h; simp [ckK] at h
  | succ f ih =>
    intro at_ level m n d g g' a a' d1 d1' h h'
    cases n with
    | zero =>
      simp only [ckK] at h h'
      injection h with h; injection h with e1 h; injection h with e2 e3
      injection h' with h'; injection h' with f1 h'; injection h' with f2 f3
      subst e1 e2 e3 f1 f2 f3
      exact ⟨rfl, rfl, rfl⟩
    | succ n =>
      simp only [ckK] at h h'
      by_cases hlt : at_ < t.length
      · have hlt' : at_ < (t.map (renT k)).length := by simpa using hlt
        have hx : (t.map (renT k))[at_] = renT k t[at_] := by simp
        rw [dif_pos hlt] at h
        rw [dif_pos hlt'] at h'
        rw [hx, (renT_op k t[at_]).1, (renT_op k t[at_]).2] at h'
        by_cases hg : goodB m t[at_] = true
        · rw [if_pos hg] at h
          by_cases hg' : goodB m (renT k t[at_]) = true
          · rw [if_pos hg'] at h'
            cases h1 : ckK t f (at_ + 1) (level + 1) (.of t[at_].op 0 t[at_].kids) t[at_].kids.toNat (deepAt at_ level d) with
            | error e => rw [h1] at h; cases h
            | ok q =>
              obtain ⟨k1, a1, d2⟩ := q
              rw [h1] at h
              simp only at h
              cases h1' : ckK (t.map (renT k)) f (at_ + 1) (level + 1) (.of t[at_].op 0 t[at_].kids) t[at_].kids.toNat (deepAt at_ level d) with
              | error e => rw [h1'] at h'; cases h'
              | ok q =>
                obtain ⟨k1', a1', d2'⟩ := q
                rw [h1'] at h'
                simp only at h'
                obtain ⟨e1, e2, e3⟩ := ih _ _ _ _ _ _ _ _ _ _ _ h1 h1'
                subst e1 e2 e3
                cases h2 : ckK t f a1' level m.next n d2' with
                | error e => rw [h2] at h; cases h
                | ok q =>
                  obtain ⟨r, a2, d3⟩ := q
                  rw [h2] at h
                  simp only at h
                  cases h2' : ckK (t.map (renT k)) f a1' level m.next n d2' with
                  | error e => rw [h2'] at h'; cases h'
                  | ok q =>
                    obtain ⟨r', a2', d3'⟩ := q
                    rw [h2'] at h'
                    simp only at h'
                    obtain ⟨e1, e2, e3⟩ := ih _ _ _ _ _ _ _ _ _ _ _ h2 h2'
                    subst e1 e2 e3
                    injection h with h; injection h with e1 h; injection h with e2 e3
                    injection h' with h'; injection h' with f1 h'; injection h' with f2 f3
                    subst e1 e2 e3 f1 f2 f3
                    exact ⟨rfl, rfl, rfl⟩
          · rw [if_neg hg'] at h'; cases h'
        · rw [if_neg hg] at h; cases h
      · rw [dif_neg hlt] at h; cases h
/-- the states go along -/
structure Along (k : Nat) (s s' : Sl) : Prop where
  at_ : s'.at_ = s.at_
  made : s'.made = s.made
  out : s'.out = s.out
  seen : ∀ n, s'.seen (ren k n) = s.seen n
theorem Along.drop {k : Nat} (hk : k < 26) {s s' : Sl} (h : Along k s s') (l : List ByteArray) : Along k (dropS s l) (dropS s' (l.map (ren k))) := by
  refine ⟨h.at_, h.made, h.out, ?_⟩
  have key : ∀ (l : List ByteArray) (m m' : Seen), (∀ n, m' (ren k n) = m n) → ∀ n, (l.map (ren k)).foldl delS m' (ren k n) = l.foldl delS m n := by
    intro l
    induction l with
    | nil => intro m m' hm n; exact hm n
    | cons a l ih =>
      intro m m' hm n
      refine ih _ _ (fun n => ?_) n
      unfold delS
      by_cases e : n = a
      · subst e; simp
      · rw [if_neg e, if_neg (fun e2 => e (ren_inj hk e2))]; exact hm n
  exact key l _ _ h.seen
theorem stepT_ren {k : Nat} {x : Tw} {s s' : Sl} (h : Along k s s') : match stepT x s, stepT (renT k x) s' with
    | .error e, .error e' => e = e'
    | .ok s1, .ok s1' => Along k s1 s1'
    | _, _ => False := by
  unfold stepT
  rw [mkB_ren, usB_ren]
  by_cases hm : mkB x = true
  · rw [if_pos hm, if_pos hm, text_mk hm, h.seen, h.made, h.at_, h.out]
    by_cases h1 : (s.seen x.text).isSome
    · rw [if_pos h1, if_pos h1]
    · rw [if_neg h1, if_neg h1]
      by_cases h2 : s.made = 100
      · rw [if_pos h2, if_pos h2]
      · rw [if_neg h2, if_neg h2]
        exact ⟨rfl, rfl, rfl, h.seen⟩
  · rw [if_neg hm, if_neg hm]
    by_cases hu : usB x = true
    · rw [if_pos hu, if_pos hu, text_us hu, h.seen]
      cases s.seen x.text with
      | none => rfl
      | some v => exact ⟨by simp [h.at_], h.made, by simp [h.out], h.seen⟩
    · rw [if_neg hu, if_neg hu]
      exact ⟨by simp [h.at_], h.made, by simp [h.out], h.seen⟩
theorem bind_ren {k : Nat} (hk : k < 26) {x : Tw} {m : Nat} {s s' : Sl} (h : Along k s s') : Along k (bindS x m s) (bindS (renT k x) m s') := by
  unfold bindS
  rw [mkB_ren]
  by_cases hm : mkB x = true
  · rw [if_pos hm, if_pos hm, text_mk hm]
    refine ⟨h.at_, h.made, h.out, fun n => ?_⟩
    simp only [addS]
    by_cases e : n = x.text
    · subst e; simp
    · rw [if_neg e, if_neg (fun e2 => e (ren_inj hk e2))]; exact h.seen n
  · rw [if_neg hm, if_neg hm]; exact h
theorem goF_ren {k : Nat} (hk : k < 26) : ∀ (f : Fo) (s s' : Sl), Along k s s' → match goF f s, goF (f.ren k) s' with
    | .error e, .error e' => e = e'
    | .ok (s1, l), .ok (s1', l') => Along k s1 s1' ∧ l' = l.map (ren k)
    | _, _ => False := by
  intro f
  induction f with
  | nil => intro s s' h; exact ⟨h, rfl⟩
  | cons x f r ihf ihr =>
    intro s s' h
    simp only [Fo.ren, goF]
    have h1 := stepT_ren (x := x) h
    cases e1 : stepT x s with
    | error e =>
      cases e1' : stepT (renT k x) s' with
      | error e' => rw [e1, e1'] at h1; simp only at h1 ⊢; rw [h.at_, h1]
      | ok s1' => rw [e1, e1'] at h1; exact h1.elim
    | ok s1 =>
      cases e1' : stepT (renT k x) s' with
      | error e' => rw [e1, e1'] at h1; exact h1.elim
      | ok s1' =>
        rw [e1, e1'] at h1
        simp only at h1 ⊢
        have h2 := ihf s1 s1' h1
        cases e2 : goF f s1 with
        | error e =>
          cases e2' : goF (f.ren k) s1' with
          | error e' => rw [e2, e2'] at h2; exact h2
          | ok q => rw [e2, e2'] at h2; exact h2.elim
        | ok q =>
          obtain ⟨s2, l⟩ := q
          cases e2' : goF (f.ren k) s1' with
          | error e' => rw [e2, e2'] at h2; exact h2.elim
          | ok q' =>
            obtain ⟨s2', l'⟩ := q'
            rw [e2, e2'] at h2
            simp only at h2 ⊢
            obtain ⟨h2, rfl⟩ := h2
            have hb := bind_ren hk (x := x) (m := s.made) (h2.drop hk l)
            rw [h.made]
            have h3 := ihr _ _ hb
            cases e3 : goF r (bindS x s.made (dropS s2 l)) with
            | error e =>
              cases e3' : goF (r.ren k) (bindS (renT k x) s.made (dropS s2' (l.map (ren k)))) with
              | error e' => rw [e3, e3'] at h3; exact h3
              | ok q => rw [e3, e3'] at h3; exact h3.elim
            | ok q =>
              obtain ⟨s3, m⟩ := q
              cases e3' : goF (r.ren k) (bindS (renT k x) s.made (dropS s2' (l.map (ren k)))) with
              | error e' => rw [e3, e3'] at h3; exact h3.elim
              | ok q' =>
                obtain ⟨s3', m'⟩ := q'
                rw [e3, e3'] at h3
                simp only at h3 ⊢
                refine ⟨h3.1, ?_⟩
                unfold bindN
                rw [mkB_ren]
                by_cases hm : mkB x = true
                · rw [if_pos hm, if_pos hm, text_mk hm, h3.2]; rfl
                · rw [if_neg hm, if_neg hm]; exact h3.2
def eR : Except (Nat × Nat) (List Int) → Nat
  | .ok _ => 0
  | .error (_, e) => e
theorem slots_ck {t : List Tw} (h : ckTree t ≠ (0, 0)) : slots t = .error (ckTree t) := by unfold slots; rw [if_pos h]
theorem slots_ren {k : Nat} (hk : k < 26) (t : List Tw) (h1 : eR (slots t) ≠ 3) (h2 : eR (slots (t.map (renT k))) ≠ 3) : slots (t.map (renT k)) = slots t := by
  have key : ckTree (t.map (renT k)) = ckTree t ∧ (ckTree t = (0, 0) → forest (t.map (renT k)) = (forest t).ren k) := by
    have c1 : (ckTree t).2 ≠ 3 := by
      intro e
      refine h1 ?_
      rw [slots_ck (fun e2 => by rw [e2] at e; cases e)]
      exact e
    have c2 : (ckTree (t.map (renT k))).2 ≠ 3 := by
      intro e
      refine h2 ?_
      rw [slots_ck (fun e2 => by rw [e2] at e; cases e)]
      exact e
    unfold ckTree forest at *
    simp only [List.length_map] at *
    by_cases hl : 2048 < t.length
    · rw [if_pos hl, if_pos hl]
      exact ⟨rfl, fun e => by cases e⟩
    · rw [if_neg hl] at c1 c2 ⊢
      rw [if_neg hl]
      cases q1 : ckK t (t.length + 2) 0 1 .any 1 none with
      | error p => rw [q1] at c1; exact absurd rfl c1
      | ok q =>
        obtain ⟨g, a, d⟩ := q
        cases q2 : ckK (t.map (renT k)) (t.length + 2) 0 1 .any 1 none with
        | error p => rw [q2] at c2; exact absurd rfl c2
        | ok q =>
          obtain ⟨g', a', d'⟩ := q
          obtain ⟨rfl, rfl, rfl⟩ := ckK_ren k t _ _ _ _ _ _ _ _ _ _ _ _ q1 q2
          exact ⟨rfl, fun _ => rfl⟩
  by_cases hc : ckTree t = (0, 0)
  · have hc' := key.1.trans hc
    obtain ⟨x, f, hf, _⟩ := forest_of hc
    have hf' : forest (t.map (renT k)) = .cons (renT k x) (f.ren k) .nil := by rw [key.2 hc, hf]; rfl
    unfold slots
    rw [if_neg (by simpa using hc'), if_neg (by simpa using hc), hf, hf']
    simp only [(renT_op k x).1]
    by_cases ho : x.op ≠ 1
    · rw [if_pos ho, if_pos ho]
    · rw [if_neg ho, if_neg ho]
      have hg := goF_ren hk (.cons x f .nil) ⟨0, 0, fun _ => none, []⟩ ⟨0, 0, fun _ => none, []⟩ ⟨rfl, rfl, rfl, fun _ => rfl⟩
      simp only [Fo.ren] at hg
      cases e1 : goF (.cons x f .nil) ⟨0, 0, fun _ => none, []⟩ with
      | error e =>
        cases e2 : goF (.cons (renT k x) (f.ren k) .nil) ⟨0, 0, fun _ => none, []⟩ with
        | error e' => rw [e1, e2] at hg; simp only at hg ⊢; rw [hg]
        | ok q => rw [e1, e2] at hg; exact hg.elim
      | ok q =>
        obtain ⟨s, l⟩ := q
        cases e2 : goF (.cons (renT k x) (f.ren k) .nil) ⟨0, 0, fun _ => none, []⟩ with
        | error e' => rw [e1, e2] at hg; exact hg.elim
        | ok q' =>
          obtain ⟨s', l'⟩ := q'
          rw [e1, e2] at hg
          simp only at hg ⊢
          rw [hg.1.out]
  · rw [slots_ck hc, slots_ck (by rw [key.1]; exact hc), key.1]
end Go.Proofs.Ytmacmejpcpdnnaa
