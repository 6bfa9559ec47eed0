/- check: what the walk of check.Slots says of one tree. -/
import Derived.Test.YtmacmejpcpdnnaaCkEnter
namespace Go.Proofs.Ytmacmejpcpdnnaa
open Go.RowKit

/-- a twig by itself: the state behind it, the next place not gone on yet; what is wrong -/
def stepS (x : Tw) (s : Sl) : Sl × Nat :=
  if mkB x then (⟨s.at_, s.made + 1, s.seen, s.out ++ [(s.made : Int)]⟩, enterF s x.text)
  else if usB x then (⟨s.at_, s.made, s.seen, s.out ++ [(s.seen x.text).getD 0]⟩, if (s.seen x.text).isSome then 0 else 110)
  else (⟨s.at_, s.made, s.seen, s.out ++ [-1]⟩, 0)
theorem stepT_S (x : Tw) (s : Sl) : stepT x s = if (stepS x s).2 = 0 then .ok ⟨s.at_ + 1, (stepS x s).1.made, (stepS x s).1.seen, (stepS x s).1.out⟩ else .error (stepS x s).2 := by
  unfold stepT stepS enterF
  by_cases h1 : mkB x
  · simp only [h1, if_true]
    by_cases h2 : (s.seen x.text).isSome
    · simp [h2]
    · by_cases h3 : s.made = 100
      · simp [h2, h3]
      · simp [h2, h3]
  · by_cases h2 : usB x
    · simp only [h1, h2]
      cases h3 : s.seen x.text <;> simp
    · simp [h1, h2]
theorem stepS_at (x : Tw) (s : Sl) : (stepS x s).1.at_ = s.at_ ∧ (stepS x s).1.seen = s.seen ∧ (stepS x s).1.out.length = s.out.length + 1 := by
  unfold stepS
  split
  · simp
  · split <;> simp
/-- a state is fine -/
def Sl.Ok (s : Sl) : Prop := s.out.length = s.at_ ∧ s.made ≤ 100
theorem stepT_ok {x : Tw} {s s1 : Sl} (h : stepT x s = .ok s1) (hs : s.Ok) : s1.Ok := by
  obtain ⟨a1, a2, _⟩ := stepT_at h
  refine ⟨by have := hs.1; omega, ?_⟩
  have hm := hs.2
  unfold stepT at h
  split at h
  · split at h
    · cases h
    · split at h
      · cases h
      · injection h with h; subst h; simp only; omega
  · split at h
    · split at h
      · cases h
      · injection h with h; subst h; exact hm
    · injection h with h; subst h; exact hm
theorem goF_ok : ∀ (f : Fo) (s s' : Sl) (l : List ByteArray), goF f s = .ok (s', l) → s.Ok → s'.Ok := by
  intro f
  induction f with
  | nil => intro s s' l h hs; simp only [goF] at h; injection h with h; injection h with h _; subst h; exact hs
  | cons x k r ihk ihr =>
    intro s s' l h hs
    simp only [goF] at h
    cases h1 : stepT x s with
    | error e => rw [h1] at h; cases h
    | ok s1 =>
      rw [h1] at h
      simp only at h
      cases h2 : goF k s1 with
      | error e => rw [h2] at h; cases h
      | ok q =>
        obtain ⟨s2, l2⟩ := q
        rw [h2] at h
        simp only at h
        have h2o := ihk _ _ _ h2 (stepT_ok h1 hs)
        cases h3 : goF r (bindS x s.made (dropS s2 l2)) with
        | error e => rw [h3] at h; cases h
        | ok q =>
          obtain ⟨s3, l3⟩ := q
          rw [h3] at h
          simp only at h
          injection h with h
          injection h with h _
          subst h
          refine ihr _ _ _ h3 ?_
          unfold bindS dropS
          split <;> exact h2o
theorem go1_ok {x : Tw} {k : Fo} {s s' : Sl} (h : go1 x k s = .ok s') (hs : s.Ok) : (bindS x s.made s').Ok := by
  have := goF_ok (.cons x k .nil) s (bindS x s.made s') (bindN x []) (by rw [goF_cons, h]; rfl) hs
  exact this
def nmS (x : Tw) : ByteArray := if mkB x then x.text else ⟨#[]⟩
def slS (x : Tw) (s : Sl) : Int := if mkB x then (s.made : Int) else -1
/-- what the walk's call for one tree says -/
def SlY (w : World) (K : SK) (t : List Tw) (v : Value) (x : Tw) (s : Sl) (r : Except (Nat × Nat) Sl) (e : Ending) (w' : World) : Prop :=
  ∃ v', Turns (K.S v) w w' ∧ Next w v v' ∧ match r with
    | .ok s' => e = .returned (.tuple #[.string (nmS x), .int .i64 (slS x s)]) ∧ SEnv w' K t v' s' 0
    | .error (p, er) => ∃ (nm : ByteArray) (sl : Int) (s' : Sl), e = .returned (.tuple #[.string nm, .int .i64 sl]) ∧ er ≠ 0 ∧ s'.at_ = p ∧ SEnv w' K t v' s' er
/-- where a forest stands in the twigs -/
def Stands (t : List Tw) (a : Nat) (f : Fo) : Prop := a + f.size ≤ t.length ∧ ∀ i (h : i < f.size), t[a + i]? = f.flat[i]?
theorem Stands.head {t : List Tw} {a : Nat} {x : Tw} {k r : Fo} (h : Stands t a (.cons x k r)) : ∃ (h : a < t.length), t[a] = x := by
  have h0 := h.2 0 (by simp [Fo.size]; omega)
  simp only [Nat.add_zero, Fo.flat, List.getElem?_cons_zero] at h0
  obtain ⟨h1, h2⟩ := List.getElem?_eq_some_iff.1 h0
  exact ⟨h1, h2⟩
theorem Stands.kids {t : List Tw} {a : Nat} {x : Tw} {k r : Fo} (h : Stands t a (.cons x k r)) : Stands t (a + 1) k := by
  have hs := h.1
  simp only [Fo.size] at hs
  refine ⟨by omega, fun i hi => ?_⟩
  have := h.2 (i + 1) (by simp [Fo.size]; omega)
  rw [show a + (i + 1) = a + 1 + i from by omega] at this
  rw [this]
  simp only [Fo.flat, List.getElem?_cons_succ]
  rw [List.getElem?_append_left (by rw [Fo.flat_len]; exact hi)]
theorem Stands.rest {t : List Tw} {a : Nat} {x : Tw} {k r : Fo} (h : Stands t a (.cons x k r)) : Stands t (a + (1 + k.size)) r := by
  have hs := h.1
  simp only [Fo.size] at hs
  refine ⟨by omega, fun i hi => ?_⟩
  have := h.2 (1 + k.size + i) (by simp [Fo.size]; omega)
  rw [show a + (1 + k.size + i) = a + (1 + k.size) + i from by omega] at this
  rw [this, show 1 + k.size + i = (k.size + i) + 1 from by omega]
  simp only [Fo.flat, List.getElem?_cons_succ]
  rw [List.getElem?_append_right (by rw [Fo.flat_len]; omega), Fo.flat_len]
  congr 1
  omega
/-- the first one of them alone -/
theorem Stands.one {t : List Tw} {a : Nat} {x : Tw} {k r : Fo} (h : Stands t a (.cons x k r)) : Stands t a (.cons x k .nil) := by
  have hs := h.1
  simp only [Fo.size] at hs
  refine ⟨by simp only [Fo.size]; omega, fun i hi => ?_⟩
  simp only [Fo.size] at hi
  have := h.2 i (by simp [Fo.size]; omega)
  rw [this]
  simp only [Fo.flat, List.append_nil]
  cases i with
  | zero => rfl
  | succ i => simp only [List.getElem?_cons_succ]; rw [List.getElem?_append_left (by rw [Fo.flat_len]; omega)]
theorem own_ne_own {w : World} {b1 b2 n1 n2 : Nat} {e1 e2 : TypeId} {s1 s2 g : Nat} {v1 v2 : Value} {xs1 xs2 : List Value} (h : w.ownsRow b1 e1 s1 v1 n1 xs1) (hv : v1.ownBlock = some g) (k : w.ownsRow b2 e2 s2 v2 n2 xs2) (hne : e1 ≠ e2) : v2.ownBlock ≠ some g := by
  intro kv
  rcases h.2 with ⟨rfl, _⟩ | ⟨g1, cap1, cur1, rfl, _, h4, _⟩
  · simp [Value.ownBlock] at hv
  · rcases k.2 with ⟨rfl, _⟩ | ⟨g2, cap2, cur2, rfl, _, k4, _⟩
    · simp [Value.ownBlock] at kv
    · simp [Value.ownBlock] at hv kv
      subst hv kv
      rw [h4] at k4
      injection k4 with k4
      injection k4 with _ k4 _
      exact hne k4
/-- a row of texts is none of those that change -/
theorem SEnv.farRow {w : World} {K : SK} {t : List Tw} {v : Value} {s : Sl} {fl : Nat} (h : SEnv w K t v s fl) {base n g : Nat} {mv : Value} {xs : List Value} (hr : w.ownsRow base 9 1 mv n xs) (hg : mv.ownBlock = some g) : ¬ K.S v g := by
  obtain ⟨k, hk⟩ := h.map
  rintro (e | e | e | e | e | e)
  · exact own_ne_blk hr hg h.bn (by decide) e
  · exact own_ne_blk hr hg h.bm (by decide) e
  · exact own_ne_blk hr hg h.bf (by decide) e
  · exact own_ne_blk hr hg h.bo (by decide) e
  · exact own_ne_map hr hg hk e
  · exact own_ne_own hr hg h.row (by decide) e
/-- a row of texts grew -/
theorem SEnv.grewRow {w w' : World} {K : SK} {t : List Tw} {v : Value} {s : Sl} {fl : Nat} (h : SEnv w K t v s fl) {base n : Nat} {mv : Value} {xs : List Value} (hr : w.ownsRow base 9 1 mv n xs) (hb : K.B ≤ base) (hg : w.grownBy w' mv.ownBlock) : SEnv w' K t v s fl := by
  have k : Turns (fun i => mv.ownBlock = some i) w w' := .of_grown hg (fun r e => e)
  obtain ⟨n', hm⟩ := h.map
  exact ⟨h.bt.turns k (fun e => own_ne_blk hr e h.bt (by decide) rfl), h.bn.turns k (fun e => own_ne_blk hr e h.bn (by decide) rfl), h.bm.turns k (fun e => own_ne_blk hr e h.bm (by decide) rfl), h.be.turns k (fun e => own_ne_blk hr e h.be (by decide) rfl),
    h.bs.turns k (fun e => own_ne_blk hr e h.bs (by decide) rfl), h.bf.turns k (fun e => own_ne_blk hr e h.bf (by decide) rfl), h.bo.turns k (fun e => own_ne_blk hr e h.bo (by decide) rfl), h.bw.turns k (fun e => own_ne_blk hr e h.bw (by decide) rfl),
    own_turns h.row k (fun g hg e => own_ne_own hr e h.row (by decide) hg), ⟨n', hm.turns k (fun e => own_ne_map hr e hm rfl)⟩, h.tw.turns k (fun i e => by have := row_lo hr e; omega), h.nm, h.nr, h.lo, h.cap, h.most⟩
/-- what the deletes' loop keeps -/
structure Dels (w : World) (K : SK) (t : List Tw) (v : Value) (base : Nat) (wr : World) (j : Nat) (mv : Value) (ml : List ByteArray) (v' : Value) (s : Sl) (fl : Nat) : Prop where
  env : SEnv wr K t v' (dropS s (ml.take j)) fl
  tr : Turns (K.S v) w wr
  nx : Next w v v'
  row : wr.ownsRow base 9 1 mv ml.length (ml.map kStr)
/-- what the parts' loop keeps -/
structure Parts (w : World) (K : SK) (t : List Tw) (v : Value) (x : Tw) (tot : Except (Nat × Nat) (Sl × List ByteArray)) (kc : Nat) (ks : Nat) (X : Nat) (base : Nat) (wr : World) (i : Nat) (mv : Value) (ml : List ByteArray) (v' : Value) (s : Sl) (fl : Nat) : Prop where
  env : SEnv wr K t v' s fl
  bX : Blk wr X 34 (twC x)
  tr : Turns (K.S v) w wr
  nx : Next w v v'
  row : wr.ownsRow base 9 1 mv ml.length (ml.map kStr)
  le : i ≤ kc
  mle : ml.length ≤ i
  st : (fl = 0 ∧ ∃ f : Fo, f.cnt + i = kc ∧ f.size ≤ ks ∧ Stands t s.at_ f ∧ f.ok ∧ f.named ∧ s.Ok ∧ tot = match goF f s with | .error e => .error e | .ok (s', l) => .ok (s', ml ++ l)) ∨ (fl ≠ 0 ∧ tot = .error (s.at_, fl))
end Go.Proofs.Ytmacmejpcpdnnaa
