/- check: the document's walk over names, in plain Lean: it tells what the program's tells. -/
import Derived.Test.YtmacmejpcpdnnaaCkRfMach
import Derived.Test.YtmacmejpcpdnnaaCkSlGo
namespace Go.Proofs.Ytmacmejpcpdnnaa

/-- variables that are seen: their names, their slots; the last one counts -/
abbrev Vrs := List (ByteArray × Int)
def findV (l : Vrs) (n : ByteArray) : Int := l.foldl (fun r q => if q.1 = n then q.2 else r) (-1)
theorem findV_snoc (l : Vrs) (q : ByteArray × Int) (n : ByteArray) : findV (l ++ [q]) n = if q.1 = n then q.2 else findV l n := by unfold findV; rw [List.foldl_append]; rfl
structure RS where
  made : Nat
  L : List Int
  fl : Option (Nat × Nat)
def wrongR (s : RS) (a e : Nat) : RS := if s.fl = none then ⟨s.made, s.L, some (a, e)⟩ else s
def useR (x : Tw) (a : Nat) (seen : Vrs) (s : RS) : RS :=
  if usB x then (if findV seen x.text < 0 then wrongR ⟨s.made, s.L.set a (findV seen x.text), s.fl⟩ a 110 else ⟨s.made, s.L.set a (findV seen x.text), s.fl⟩) else s
def mkR (x : Tw) (a : Nat) (seen : Vrs) (s : RS) : RS :=
  let s1 := if 0 ≤ findV seen x.text then wrongR s a 111 else s
  let s2 := if 100 ≤ s.made then wrongR s1 a 2 else s1
  ⟨s.made + 1, s2.L.set a (s.made : Int), s2.fl⟩
mutual
def dE : Fo → Nat → Vrs → RS → RS
  | .nil, _, _, s => s
  | .cons x k r, a, seen, s => dE r (a + (1 + k.size)) seen (if x.op = 3 then dB k (a + 1) seen (useR x a seen s) else dE k (a + 1) seen (useR x a seen s))
def dB : Fo → Nat → Vrs → RS → RS
  | .nil, _, _, s => s
  | .cons x k r, a, seen, s =>
    if x.op = 4 then dB r (a + (1 + k.size)) (seen ++ [(x.text, (s.made : Int))]) (dE k (a + 1) seen (mkR x a seen s))
    else dB r (a + (1 + k.size)) seen (if x.op = 3 then dB k (a + 1) seen (useR x a seen s) else dE k (a + 1) seen (useR x a seen s))
end
/-- a flow's parts: its parameters, then its block -/
def dP : Fo → Nat → Vrs → RS → RS
  | .nil, _, _, s => s
  | .cons x k .nil, a, seen, s => dE (.cons x k .nil) a seen s
  | .cons x k (.cons y ky r), a, seen, s => dP (.cons y ky r) (a + (1 + k.size)) (seen ++ [(x.text, (s.made : Int))]) (mkR x a seen s)
/-! ### a fault stays -/
theorem wrongR_fl {s : RS} {a e : Nat} {q : Nat × Nat} (h : s.fl = some q) : (wrongR s a e).fl = some q := by unfold wrongR; rw [if_neg (by rw [h]; simp)]; exact h
theorem useR_fl {x : Tw} {a : Nat} {seen : Vrs} {s : RS} {q : Nat × Nat} (h : s.fl = some q) : (useR x a seen s).fl = some q := by
  unfold useR
  split
  · split
    · exact wrongR_fl h
    · exact h
  · exact h
theorem mkR_fl {x : Tw} {a : Nat} {seen : Vrs} {s : RS} {q : Nat × Nat} (h : s.fl = some q) : (mkR x a seen s).fl = some q := by
  unfold mkR
  simp only
  have h1 : (if 0 ≤ findV seen x.text then wrongR s a 111 else s).fl = some q := by
    split
    · exact wrongR_fl h
    · exact h
  split
  · exact wrongR_fl h1
  · exact h1
theorem d_fl : ∀ (f : Fo) (a : Nat) (seen : Vrs) (s : RS) (q : Nat × Nat), s.fl = some q → (dE f a seen s).fl = some q ∧ (dB f a seen s).fl = some q := by
  intro f
  induction f with
  | nil => intro a seen s q h; exact ⟨by simpa [dE] using h, by simpa [dB] using h⟩
  | cons x k r ihk ihr =>
    intro a seen s q h
    have h1 : (if x.op = 3 then dB k (a + 1) seen (useR x a seen s) else dE k (a + 1) seen (useR x a seen s)).fl = some q := by
      split
      · exact (ihk _ _ _ _ (useR_fl h)).2
      · exact (ihk _ _ _ _ (useR_fl h)).1
    refine ⟨?_, ?_⟩
    · simp only [dE]; exact (ihr _ _ _ _ h1).1
    · simp only [dB]
      split
      · exact (ihr _ _ _ _ (ihk _ _ _ _ (mkR_fl h)).1).2
      · exact (ihr _ _ _ _ h1).2
theorem dP_fl : ∀ (f : Fo) (a : Nat) (seen : Vrs) (s : RS) (q : Nat × Nat), s.fl = some q → (dP f a seen s).fl = some q
  | .nil, a, seen, s, q, h => by simpa [dP] using h
  | .cons x k .nil, a, seen, s, q, h => by simp only [dP]; exact (d_fl _ _ _ _ _ h).1
  | .cons x k (.cons y ky r), a, seen, s, q, h => by simp only [dP]; exact dP_fl (.cons y ky r) _ _ _ _ (mkR_fl h)
/-! ### the program's walk leaves what is seen as it was -/
theorem fold_del (a : ByteArray) : ∀ (l : List ByteArray) (m : Seen), l.foldl delS (delS m a) = delS (l.foldl delS m) a := by
  intro l
  induction l with
  | nil => intro m; rfl
  | cons b l ih =>
    intro m
    simp only [List.foldl_cons]
    rw [← ih]
    congr 1
    funext n
    unfold delS
    by_cases h1 : n = a <;> by_cases h2 : n = b <;> simp [h1, h2]
theorem goF_drop : ∀ (f : Fo) (s s' : Sl) (l : List ByteArray), goF f s = .ok (s', l) → l.foldl delS s'.seen = s.seen := by
  intro f
  induction f with
  | nil => intro s s' l h; simp only [goF] at h; injection h with h; injection h with h1 h2; subst h1 h2; rfl
  | cons x k r ihk ihr =>
    intro s s' l h
    simp only [goF] at h
    cases h1 : stepT x s with
    | error e => rw [h1] at h; cases h
    | ok s1 =>
      rw [h1] at h
      simp only at h
      cases h2 : goF k s1 with
      | error e => rw [h2] at h; cases h
      | ok q =>
        obtain ⟨s2, l2⟩ := q
        rw [h2] at h
        simp only at h
        cases h3 : goF r (bindS x s.made (dropS s2 l2)) with
        | error e => rw [h3] at h; cases h
        | ok q =>
          obtain ⟨s3, l3⟩ := q
          rw [h3] at h
          simp only at h
          injection h with h
          injection h with e1 e2
          subst e1 e2
          have a1 := (stepT_at h1).2.2
          have a2 := ihk _ _ _ h2
          have a3 := ihr _ _ _ h3
          have hd : (dropS s2 l2).seen = s.seen := a2.trans a1
          unfold bindN
          unfold bindS at a3
          by_cases hm : mkB x = true
          · rw [if_pos hm] at a3
            rw [if_pos hm]
            simp only [List.foldl_cons]
            rw [fold_del, a3]
            simp only
            rw [hd]
            have hn : s.seen x.text = none := by
              unfold stepT at h1
              rw [if_pos hm] at h1
              split at h1
              · cases h1
              · rename_i hh
                simpa using hh
            funext n
            unfold delS addS
            by_cases e : n = x.text
            · rw [if_pos e, e, hn]
            · rw [if_neg e, if_neg e]
          · rw [if_neg hm] at a3
            rw [if_neg hm, a3, hd]
/-! ### side by side -/
def Lof (N : Nat) (o : List Int) : List Int := o ++ List.replicate (N - o.length) (-1)
theorem Lof_set {N : Nat} {o : List Int} (h : o.length < N) (v : Int) : (Lof N o).set o.length v = Lof N (o ++ [v]) := by
  unfold Lof
  rw [List.set_append_right _ _ (Nat.le_refl _), Nat.sub_self, List.length_append, List.length_singleton]
  obtain ⟨m, hm⟩ : ∃ m, N - o.length = m + 1 := ⟨N - o.length - 1, by omega⟩
  rw [hm, show N - (o.length + 1) = m from by omega, List.replicate_succ, List.set_cons_zero, List.append_assoc]
  rfl
theorem Lof_skip {N : Nat} {o : List Int} (h : o.length < N) : Lof N o = Lof N (o ++ [-1]) := by
  rw [← Lof_set h]
  unfold Lof
  rw [List.set_append_right _ _ (Nat.le_refl _), Nat.sub_self]
  obtain ⟨m, hm⟩ : ∃ m, N - o.length = m + 1 := ⟨N - o.length - 1, by omega⟩
  rw [hm, List.replicate_succ, List.set_cons_zero]
structure Al (N : Nat) (s : Sl) (r : RS) : Prop where
  fl : r.fl = none
  made : r.made = s.made
  L : r.L = Lof N s.out
  out : s.out.length = s.at_
  le : s.made ≤ 100
def Sees (l : Vrs) (m : Seen) : Prop := ∀ n, m n = if findV l n < 0 then none else some (findV l n)
theorem Sees.add {l : Vrs} {m : Seen} (h : Sees l m) (n : ByteArray) (v : Nat) : Sees (l ++ [(n, (v : Int))]) (addS m n (v : Int)) := by
  intro k
  rw [findV_snoc]
  unfold addS
  by_cases e : n = k
  · rw [if_pos e.symm, if_pos e, if_neg (by simp only; omega)]
  · rw [if_neg e, if_neg (fun q => e q.symm)]
    exact h k
/-- a twig that makes nothing -/
theorem use_al {N : Nat} {x : Tw} {s : Sl} {r : RS} {seen : Vrs} (h : Al N s r) (hs : Sees seen s.seen) (hm : mkB x = false) (hN : s.at_ < N) :
    match stepT x s with
    | .error e => (useR x s.at_ seen r).fl = some (s.at_, e)
    | .ok s1 => Al N s1 (useR x s.at_ seen r) ∧ s1.at_ = s.at_ + 1 ∧ s1.seen = s.seen := by
  have hN' : s.out.length < N := by rw [h.out]; exact hN
  unfold stepT useR
  rw [if_neg (by rw [hm]; simp)]
  by_cases hu : usB x = true
  · rw [if_pos hu, if_pos hu, hs x.text]
    by_cases hf : findV seen x.text < 0
    · rw [if_pos hf, if_pos hf]
      unfold wrongR
      rw [if_pos h.fl]
    · rw [if_neg hf, if_neg hf]
      refine ⟨⟨h.fl, h.made, ?_, by simp [h.out], h.le⟩, rfl, rfl⟩
      simp only
      rw [h.L, ← h.out, Lof_set hN']
  · rw [if_neg hu, if_neg hu]
    refine ⟨⟨h.fl, h.made, ?_, by simp [h.out], h.le⟩, rfl, rfl⟩
    rw [h.L, Lof_skip hN']
theorem mk_al {N : Nat} {x : Tw} {s : Sl} {r : RS} {seen : Vrs} (h : Al N s r) (hs : Sees seen s.seen) (hm : mkB x = true) (hN : s.at_ < N) :
    match stepT x s with
    | .error e => (mkR x s.at_ seen r).fl = some (s.at_, e)
    | .ok s1 => Al N s1 (mkR x s.at_ seen r) ∧ s1.at_ = s.at_ + 1 ∧ s1.seen = s.seen := by
  have hN' : s.out.length < N := by rw [h.out]; exact hN
  unfold stepT mkR
  rw [if_pos hm, hs x.text, h.made]
  simp only
  by_cases hf : findV seen x.text < 0
  · have hf0 : ¬ 0 ≤ findV seen x.text := by omega
    rw [if_pos hf, if_neg hf0]
    rw [if_neg (by simp)]
    by_cases h1 : s.made = 100
    · rw [if_pos h1, if_pos (by omega)]
      unfold wrongR
      rw [if_pos h.fl]
    · have hle := h.le
      rw [if_neg h1, if_neg (by omega)]
      refine ⟨⟨h.fl, rfl, ?_, by simp [h.out], by simp only; omega⟩, rfl, rfl⟩
      simp only
      rw [h.L, ← h.out, Lof_set hN']
  · have hf0 : 0 ≤ findV seen x.text := by omega
    rw [if_neg hf, if_pos hf0]
    rw [if_pos (by simp)]
    have hw : (wrongR r s.at_ 111).fl = some (s.at_, 111) := by unfold wrongR; rw [if_pos h.fl]
    simp only
    by_cases h9 : 100 ≤ s.made
    · rw [if_pos h9]; exact wrongR_fl hw
    · rw [if_neg h9]; exact hw
/-! ### which parts may come -/
theorem part_E {up : Nat} {i n : Int} {op : Nat} (h1 : up ≠ 1) (h3 : up ≠ 3) (h : (May.of up i n).ok op = true) : op ≠ 1 ∧ op ≠ 2 ∧ op ≠ 4 := by
  have hp := prt_any2 up
  unfold prtB2 at hp
  simp only [May.ok] at h
  cases hf : formT up with
  | none => rw [hf] at h; cases h
  | some f =>
    rw [hf] at h hp
    simp only at h hp
    cases hpr : f.prt with
    | params => rw [hpr] at hp; simp only [beq_iff_eq] at hp; exact absurd hp h1
    | nothing => rw [hpr] at h; simp [prtB] at h
    | stmt => rw [hpr] at hp; simp only [beq_iff_eq] at hp; exact absurd hp h3
    | headed => rw [hpr] at h; simp [prtB, isExpr] at h; omega
    | expr => rw [hpr] at h; simp [prtB, isExpr] at h; omega
    | block => rw [hpr] at h; simp [prtB] at h; omega
theorem part_B {i n : Int} {op : Nat} (h : (May.of 3 i n).ok op = true) : op ≠ 1 ∧ op ≠ 2 ∧ op ≠ 3 := by
  have h2 : isStmt op = true := h
  simp [isStmt] at h2
  omega
theorem good_ok {m : May} {x : Tw} (h : goodB m x = true) : m.ok x.op = true := by
  rw [goodB_fine] at h
  simp only [Bool.and_eq_true] at h
  exact h.2
theorem mk_no {x : Tw} (h2 : x.op ≠ 2) (h4 : x.op ≠ 4) : mkB x = false := by simp [mkB, h2, h4]
theorem d_al : ∀ (f : Fo),
    (∀ (up : Nat) (i n : Int), up ≠ 1 → up ≠ 3 → f.rt (.of up i n) → ∀ (N : Nat) (s : Sl) (r : RS) (seen : Vrs), Al N s r → Sees seen s.seen → s.at_ + f.size ≤ N →
      match goF f s with
      | .error q => (dE f s.at_ seen r).fl = some q
      | .ok (s', l) => l = [] ∧ Al N s' (dE f s.at_ seen r)) ∧
    (∀ (i n : Int), f.rt (.of 3 i n) → ∀ (N : Nat) (s : Sl) (r : RS) (seen : Vrs), Al N s r → Sees seen s.seen → s.at_ + f.size ≤ N →
      match goF f s with
      | .error q => (dB f s.at_ seen r).fl = some q
      | .ok (s', l) => Al N s' (dB f s.at_ seen r)) := by
  intro f
  induction f with
  | nil =>
    refine ⟨fun up i n _ _ _ N s r seen h _ _ => ?_, fun i n _ N s r seen h _ _ => ?_⟩
    · simp only [goF, dE]; exact ⟨trivial, h⟩
    · simp only [goF, dB]; exact h
  | cons x k r ihk ihr =>
    -- a tree that makes nothing
    have one : ∀ (N : Nat) (s : Sl) (rs : RS) (seen : Vrs), mkB x = false → x.op ≠ 1 → k.rt (.of x.op 0 x.kids) → Al N s rs → Sees seen s.seen → s.at_ + (1 + k.size) ≤ N →
        match go1 x k s with
        | .error q => (if x.op = 3 then dB k (s.at_ + 1) seen (useR x s.at_ seen rs) else dE k (s.at_ + 1) seen (useR x s.at_ seen rs)).fl = some q
        | .ok s3 => Al N s3 (if x.op = 3 then dB k (s.at_ + 1) seen (useR x s.at_ seen rs) else dE k (s.at_ + 1) seen (useR x s.at_ seen rs)) ∧ s3.at_ = s.at_ + (1 + k.size) ∧ s3.seen = s.seen := by
      intro N s rs seen hm h1 hrt hal hse hN
      have hu := use_al hal hse hm (show s.at_ < N by omega)
      cases hst : stepT x s with
      | error e =>
        rw [hst] at hu
        have hg : go1 x k s = .error (s.at_, e) := by unfold go1; rw [hst]
        rw [hg]
        simp only at hu ⊢
        split
        · exact (d_fl _ _ _ _ _ hu).2
        · exact (d_fl _ _ _ _ _ hu).1
      | ok s1 =>
        rw [hst] at hu
        simp only at hu
        obtain ⟨ha1, hat, hsn⟩ := hu
        have hse1 : Sees seen s1.seen := by rw [hsn]; exact hse
        by_cases h3 : x.op = 3
        · rw [if_pos h3]
          rw [h3] at hrt
          have hk := ihk.2 _ _ hrt N s1 _ seen ha1 hse1 (by omega)
          rw [hat] at hk
          cases hgk : goF k s1 with
          | error q =>
            rw [hgk] at hk
            have hg : go1 x k s = .error q := by unfold go1; rw [hst]; simp only [hgk]
            rw [hg]
            exact hk
          | ok q =>
            obtain ⟨s2, l⟩ := q
            rw [hgk] at hk
            have hg : go1 x k s = .ok (dropS s2 l) := by unfold go1; rw [hst]; simp only [hgk]
            rw [hg]
            have hd := goF_drop _ _ _ _ hgk
            refine ⟨⟨hk.fl, hk.made, hk.L, hk.out, hk.le⟩, (go1_at hg).1, hd.trans hsn⟩
        · rw [if_neg h3]
          have hk := ihk.1 _ _ _ h1 h3 hrt N s1 _ seen ha1 hse1 (by omega)
          rw [hat] at hk
          cases hgk : goF k s1 with
          | error q =>
            rw [hgk] at hk
            have hg : go1 x k s = .error q := by unfold go1; rw [hst]; simp only [hgk]
            rw [hg]
            exact hk
          | ok q =>
            obtain ⟨s2, l⟩ := q
            rw [hgk] at hk
            have hg : go1 x k s = .ok (dropS s2 l) := by unfold go1; rw [hst]; simp only [hgk]
            rw [hg]
            have hd := goF_drop _ _ _ _ hgk
            refine ⟨⟨hk.2.fl, hk.2.made, hk.2.L, hk.2.out, hk.2.le⟩, (go1_at hg).1, hd.trans hsn⟩
    refine ⟨fun up i n h1 h3 hrt N s rs seen hal hse hN => ?_, fun i n hrt N s rs seen hal hse hN => ?_⟩
    · obtain ⟨hgd, hrk, hrr⟩ := hrt
      obtain ⟨o1, o2, o4⟩ := part_E h1 h3 (good_ok hgd)
      have hm := mk_no o2 o4
      have h := one N s rs seen hm o1 hrk hal hse (by simp only [Fo.size] at hN; omega)
      rw [goF_cons]
      simp only [dE]
      cases hg : go1 x k s with
      | error q =>
        rw [hg] at h
        simp only at h ⊢
        exact (d_fl _ _ _ _ _ h).1
      | ok s3 =>
        rw [hg] at h
        simp only at h ⊢
        obtain ⟨h4, h5, h6⟩ := h
        have hb : bindS x s.made s3 = s3 := by unfold bindS; rw [if_neg (by rw [hm]; simp)]
        rw [hb]
        have hr := ihr.1 up (i + 1) n h1 h3 hrr N s3 _ seen h4 (by rw [h6]; exact hse) (by simp only [Fo.size] at hN; omega)
        rw [h5] at hr
        cases hgr : goF r s3 with
        | error q => rw [hgr] at hr; exact hr
        | ok q =>
          obtain ⟨s4, l⟩ := q
          rw [hgr] at hr
          obtain ⟨rfl, hr⟩ := hr
          simp only
          refine ⟨by unfold bindN; rw [if_neg (by rw [hm]; simp)], hr⟩
    · obtain ⟨hgd, hrk, hrr⟩ := hrt
      obtain ⟨o1, o2, o3⟩ := part_B (good_ok hgd)
      rw [goF_cons]
      simp only [dB]
      by_cases o4 : x.op = 4
      · rw [if_pos o4]
        have hm : mkB x = true := by simp [mkB, o4]
        have hu := mk_al hal hse hm (show s.at_ < N by simp only [Fo.size] at hN; omega)
        cases hst : stepT x s with
        | error e =>
          rw [hst] at hu
          have hg : go1 x k s = .error (s.at_, e) := by unfold go1; rw [hst]
          rw [hg]
          simp only at hu ⊢
          exact (d_fl _ _ _ _ _ (d_fl _ _ _ _ _ hu).1).2
        | ok s1 =>
          rw [hst] at hu
          simp only at hu
          obtain ⟨ha1, hat, hsn⟩ := hu
          have hse1 : Sees seen s1.seen := by rw [hsn]; exact hse
          rw [o4] at hrk
          have hk := ihk.1 4 _ _ (by decide) (by decide) hrk N s1 _ seen ha1 hse1 (by simp only [Fo.size] at hN; omega)
          rw [hat] at hk
          cases hgk : goF k s1 with
          | error q =>
            rw [hgk] at hk
            have hg : go1 x k s = .error q := by unfold go1; rw [hst]; simp only [hgk]
            rw [hg]
            simp only at hk ⊢
            exact (d_fl _ _ _ _ _ hk).2
          | ok q =>
            obtain ⟨s2, l⟩ := q
            rw [hgk] at hk
            obtain ⟨rfl, hk⟩ := hk
            have hg : go1 x k s = .ok (dropS s2 []) := by unfold go1; rw [hst]; simp only [hgk]
            rw [hg]
            have hd := goF_drop _ _ _ _ hgk
            have hsa := (go1_at hg).1
            simp only
            have hb : bindS x s.made (dropS s2 []) = ⟨s2.at_, s2.made, addS s2.seen x.text s.made, s2.out⟩ := by unfold bindS; rw [if_pos hm]; rfl
            rw [hb]
            have hse2 : Sees (seen ++ [(x.text, (rs.made : Int))]) (addS s2.seen x.text s.made) := by
              rw [hal.made]
              refine Sees.add ?_ _ _
              have : s2.seen = s.seen := (show s2.seen = s1.seen from hd).trans hsn
              rw [this]
              exact hse
            have hr := ihr.2 (i + 1) n hrr N ⟨s2.at_, s2.made, addS s2.seen x.text s.made, s2.out⟩ _ (seen ++ [(x.text, (rs.made : Int))]) ⟨hk.fl, hk.made, hk.L, hk.out, hk.le⟩ hse2 (by simp only [Fo.size] at hN; simp only [dropS] at hsa; simp only; omega)
            simp only [dropS] at hsa
            simp only [hsa] at hr ⊢
            cases hgr : goF r ⟨s.at_ + (1 + k.size), s2.made, addS s2.seen x.text s.made, s2.out⟩ with
            | error q => rw [hgr] at hr; exact hr
            | ok q =>
              obtain ⟨s4, l⟩ := q
              rw [hgr] at hr
              exact hr
      · rw [if_neg o4]
        have hm := mk_no o2 o4
        have h := one N s rs seen hm o1 hrk hal hse (by simp only [Fo.size] at hN; omega)
        cases hg : go1 x k s with
        | error q =>
          rw [hg] at h
          simp only at h ⊢
          exact (d_fl _ _ _ _ _ h).2
        | ok s3 =>
          rw [hg] at h
          simp only at h ⊢
          obtain ⟨h4, h5, h6⟩ := h
          have hb : bindS x s.made s3 = s3 := by unfold bindS; rw [if_neg (by rw [hm]; simp)]
          rw [hb]
          have hr := ihr.2 (i + 1) n hrr N s3 _ seen h4 (by rw [h6]; exact hse) (by simp only [Fo.size] at hN; omega)
          rw [h5] at hr
          cases hgr : goF r s3 with
          | error q => rw [hgr] at hr; exact hr
          | ok q =>
            obtain ⟨s4, l⟩ := q
            rw [hgr] at hr
            exact hr
theorem part_1 {i n : Int} {op : Nat} (h : (May.of 1 i n).ok op = true) : (i < n - 1 ∧ op = 2) ∨ (i = n - 1 ∧ op = 3) := by
  have h2 : ((decide (i < n - 1) && op == 2) || (i == n - 1 && op == 3)) = true := h
  simpa using h2
theorem kids_2 {m : May} {x : Tw} (h : goodB m x = true) (h2 : x.op = 2) : x.kids = 0 := by
  obtain ⟨f, hf, hk⟩ := goodB_form h
  have h0 := (goodB_kids h).1
  rw [h2] at hf
  have : f.most = 0 := by
    have e : formT 2 = some ⟨.own, 0, 0, .nothing⟩ := rfl
    rw [e] at hf
    injection hf with hf
    rw [← hf]
  omega
theorem p_al : ∀ (f : Fo) (i n : Int), f.rt (.of 1 i n) → f.ok → i + (f.cnt : Int) = n → 0 < f.cnt → ∀ (N : Nat) (s : Sl) (rs : RS) (seen : Vrs), Al N s rs → Sees seen s.seen → s.at_ + f.size ≤ N →
    match goF f s with
    | .error q => (dP f s.at_ seen rs).fl = some q
    | .ok (s', l) => Al N s' (dP f s.at_ seen rs)
  | .nil, i, n, _, _, _, h0, _, _, _, _, _, _, _ => by simp [Fo.cnt] at h0
  | .cons x k .nil, i, n, hrt, hok, hin, _, N, s, rs, seen, hal, hse, hN => by
    obtain ⟨hgd, hrk, _⟩ := hrt
    simp only [Fo.cnt] at hin
    rcases part_1 (good_ok hgd) with ⟨h1, _⟩ | ⟨_, h3⟩
    · omega
    · have hg2 : goodB (.of 53 0 1) x = true := by
        rw [goodB_fine] at hgd ⊢
        simp only [Bool.and_eq_true] at hgd ⊢
        refine ⟨hgd.1, ?_⟩
        show (x.op == 3) = true
        rw [h3]
        rfl
      have hr2 : (Fo.cons x k .nil).rt (.of 53 0 1) := ⟨hg2, hrk, trivial⟩
      have h := (d_al (.cons x k .nil)).1 53 0 1 (by decide) (by decide) hr2 N s rs seen hal hse hN
      simp only [dP]
      cases hgf : goF (.cons x k .nil) s with
      | error q => rw [hgf] at h; exact h
      | ok q => obtain ⟨s', l⟩ := q; rw [hgf] at h; exact h.2
  | .cons x k (.cons y ky r), i, n, hrt, hok, hin, _, N, s, rs, seen, hal, hse, hN => by
    obtain ⟨hgd, hrk, hrr⟩ := hrt
    obtain ⟨hkc, hk1, hr1⟩ := hok
    simp only [Fo.cnt] at hin
    rcases part_1 (good_ok hgd) with ⟨_, h2⟩ | ⟨h1, _⟩
    · have hk0 := kids_2 hgd h2
      have hkn : k = .nil := by
        cases k with
        | nil => rfl
        | cons => simp only [Fo.cnt] at hkc; omega
      subst hkn
      have hm : mkB x = true := by simp [mkB, h2]
      have hu := mk_al hal hse hm (show s.at_ < N by simp only [Fo.size] at hN; omega)
      rw [goF_cons]
      simp only [dP]
      cases hst : stepT x s with
      | error e =>
        rw [hst] at hu
        have hg : go1 x .nil s = .error (s.at_, e) := by unfold go1; rw [hst]
        rw [hg]
        simp only at hu ⊢
        exact dP_fl _ _ _ _ _ hu
      | ok s1 =>
        rw [hst] at hu
        simp only at hu
        obtain ⟨ha1, hat, hsn⟩ := hu
        have hg : go1 x .nil s = .ok (dropS s1 []) := by unfold go1; rw [hst]; rfl
        rw [hg]
        simp only
        have hb : bindS x s.made (dropS s1 []) = ⟨s1.at_, s1.made, addS s1.seen x.text s.made, s1.out⟩ := by unfold bindS; rw [if_pos hm]; rfl
        rw [hb]
        have hse2 : Sees (seen ++ [(x.text, (rs.made : Int))]) (addS s1.seen x.text s.made) := by
          rw [hal.made, hsn]
          exact Sees.add hse _ _
        have h := p_al (.cons y ky r) (i + 1) n hrr hr1 (by simp only [Fo.cnt]; omega) (by simp [Fo.cnt]) N ⟨s1.at_, s1.made, addS s1.seen x.text s.made, s1.out⟩ _ (seen ++ [(x.text, (rs.made : Int))]) ⟨ha1.fl, ha1.made, ha1.L, ha1.out, ha1.le⟩ hse2 (by simp only [Fo.size] at hN ⊢; omega)
        simp only [hat] at h
        simp only [Fo.size, Nat.add_zero, hat]
        cases hgr : goF (.cons y ky r) ⟨s.at_ + 1, s1.made, addS s1.seen x.text s.made, s1.out⟩ with
        | error q => rw [hgr] at h; exact h
        | ok q => obtain ⟨s4, l⟩ := q; rw [hgr] at h; exact h
    · omega
/-- what the document's Slots says -/
def docSlots (t : List Tw) : Except (Nat × Nat) (List Int) :=
  if ckTree t ≠ (0, 0) then .error (ckTree t) else
  match forest t with
  | .nil => .error (0, 3)
  | .cons x k _ => if x.op ≠ 1 then .error (0, 3) else
    match (dP k 1 [] ⟨0, List.replicate t.length (-1), none⟩).fl with
    | some q => .error q
    | none => .ok (dP k 1 [] ⟨0, List.replicate t.length (-1), none⟩).L
theorem docSlots_eq (t : List Tw) : docSlots t = slots t := by
  unfold docSlots slots
  by_cases hc : ckTree t = (0, 0)
  · rw [if_neg (by simpa using hc), if_neg (by simpa using hc)]
    obtain ⟨x, k, hf, hfl, hok, hrt, h0, hl, hx0⟩ := forest_of hc
    rw [hf] at hfl hok hrt ⊢
    simp only
    by_cases h1 : x.op ≠ 1
    · rw [if_pos h1, if_pos h1]
    · rw [if_neg h1, if_neg h1]
      have h1' : x.op = 1 := by simpa using h1
      obtain ⟨hgd, hrk, _⟩ := hrt
      obtain ⟨hkc, hk1, _⟩ := hok
      have hfm := goodB_form hgd
      have hkl : 1 ≤ x.kids := by
        unfold goodB at hgd
        have e : formT 1 = some ⟨.own, 1, 2048, .params⟩ := rfl
        rw [h1', e] at hgd
        simp only [Bool.and_eq_true, Bool.not_eq_true', decide_eq_false_iff_not] at hgd
        have := hgd.1.1.1.2
        omega
      have hm : mkB x = false := by simp [mkB, h1']
      have hu : usB x = false := by simp [usB, h1']
      have hsz : 1 + k.size = t.length := by
        rw [← hfl, Fo.flat_len]
        simp [Fo.size]
      have hst : stepT x ⟨0, 0, fun _ => none, []⟩ = .ok ⟨1, 0, fun _ => none, [-1]⟩ := by
        unfold stepT
        rw [if_neg (by rw [hm]; simp), if_neg (by rw [hu]; simp)]
        rfl
      have hal : Al t.length ⟨1, 0, fun _ => none, [-1]⟩ ⟨0, List.replicate t.length (-1), none⟩ := by
        refine ⟨rfl, rfl, ?_, rfl, by simp⟩
        show List.replicate t.length (-1) = Lof t.length [-1]
        have := Lof_skip (N := t.length) (o := []) (by simpa using h0)
        simpa [Lof] using this
      rw [h1'] at hrk
      have hp := p_al k 0 x.kids hrk hk1 (by omega) (by omega) t.length ⟨1, 0, fun _ => none, [-1]⟩ _ [] hal (fun n => by simp [findV]) (by simp only; omega)
      simp only at hp
      rw [goF_cons]
      cases hgk : goF k ⟨1, 0, fun _ => none, [-1]⟩ with
      | error q =>
        rw [hgk] at hp
        have hg : go1 x k ⟨0, 0, fun _ => none, []⟩ = .error q := by unfold go1; rw [hst]; simp only [hgk]
        rw [hg, hp]
      | ok q =>
        obtain ⟨s', l⟩ := q
        rw [hgk] at hp
        have hg : go1 x k ⟨0, 0, fun _ => none, []⟩ = .ok (dropS s' l) := by unfold go1; rw [hst]; simp only [hgk]
        rw [hg]
        simp only at hp ⊢
        have hsa := (go1_at hg)
        have hb : bindS x 0 (dropS s' l) = dropS s' l := by unfold bindS; rw [if_neg (by rw [hm]; simp)]
        rw [hb, hp.fl, hp.L]
        simp only [goF]
        have hlen : s'.out.length = t.length := by
          have := hsa.2
          simp only [dropS, List.length_nil] at this
          omega
        unfold Lof
        rw [hlen, Nat.sub_self]
        simp [dropS]
  · rw [if_pos (by simpa using hc), if_pos (by simpa using hc)]
end Go.Proofs.Ytmacmejpcpdnnaa
