/- queue: what bytes say as a queue, in plain Lean. -/
import Derived.Test.YtpbheicfplpemaaGreatQuWaiting
namespace Go.Proofs.YtpbheicfplpemaaGreat
open Go.RowKit

/-- what is read as a task that is out, and where and how the reader then is -/
def ot5 (l : List UInt8) (s : Nat × Nat) : Ot × (Nat × Nat) :=
  let p1 := aft [] (Cd.rdText l) s
  let p2 := aft 0 (rdNum l) p1.2
  let p3 := aft [] (Cd.rdText l) p2.2
  let p4 := aft 0 (Cd.rdInt l) p3.2
  let p5 := aft 0 (rdNum l) p4.2
  (⟨⟨⟨p1.1.toArray⟩, ⟨#[]⟩, 0, (p5.1 : Int)⟩, (p2.1 : Int), ⟨p3.1.toArray⟩, p4.1⟩, p5.2)
def rdTk (l : List UInt8) (a : Nat) : Except (Nat × Nat) (Tk × Nat) :=
  if (tk4 l (a, 0)).2.2 = 0 then .ok ((tk4 l (a, 0)).1, (tk4 l (a, 0)).2.1) else .error (tk4 l (a, 0)).2
def rdOt (l : List UInt8) (a : Nat) : Except (Nat × Nat) (Ot × Nat) :=
  if (ot5 l (a, 0)).2.2 = 0 then .ok ((ot5 l (a, 0)).1, (ot5 l (a, 0)).2.1) else .error (ot5 l (a, 0)).2
def keyT (ts : List Tk) (k : ByteArray) : Bool := ts.any fun t => decide (t.key = k)
def keyO (zs : List Ot) (k : ByteArray) : Bool := zs.any fun x => decide (x.tk.key = k)
theorem keyT_is {ts : List Tk} {k : ByteArray} : keyT ts k = true ↔ ∃ t ∈ ts, t.key = k := by unfold keyT; simp [List.any_eq_true]
theorem keyO_is {zs : List Ot} {k : ByteArray} : keyO zs k = true ↔ ∃ x ∈ zs, x.tk.key = k := by unfold keyO; simp [List.any_eq_true]
def rdWs (l : List UInt8) : Nat → Nat → List Tk → Except (Nat × Nat) (List Tk × Nat)
  | 0, a, ts => .ok (ts, a)
  | n + 1, a, ts =>
    match rdTk l a with
    | .error e => .error e
    | .ok (t, tz) => if keyT ts t.key = true then .error (a, 6) else rdWs l n tz (ts ++ [t])
/-- what may not be out -/
def badO (next last : Int) (x : Ot) : Bool := decide (x.token ≤ last) || decide (next ≤ x.token) || decide (x.tk.att = 0)
def rdOs (l : List UInt8) (next : Int) (ts : List Tk) : Nat → Nat → Int → List Ot → Except (Nat × Nat) (List Ot × Nat)
  | 0, a, _, zs => .ok (zs, a)
  | n + 1, a, last, zs =>
    match rdOt l a with
    | .error e => .error e
    | .ok (x, tz) => if (keyT ts x.tk.key || keyO zs x.tk.key) = true then .error (a, 6) else if badO next last x = true then .error (a, 3) else rdOs l next ts n tz x.token (zs ++ [x])
def rdHd (l : List UInt8) : Except (Nat × Nat) ((Nat × Int × Nat) × Nat) :=
  match rdNum l 0 with
  | .error e => .error e
  | .ok (m, t1) =>
    if m < 1 ∨ 4096 < m then .error (0, 1) else
    match Cd.rdInt l t1 with
    | .error e => .error e
    | .ok (g, t2) =>
      if g < 0 then .error (t1, 1) else
      match rdNum l t2 with
      | .error e => .error e
      | .ok (x, t3) => if x = 0 then .error (t2, 1) else .ok ((m, g, x), t3)
structure Qp where
  most : Nat
  grace : Int
  next : Nat
  ts : List Tk
  zs : List Ot
/-- what stands behind a queue's tasks -/
def rdEnd (l : List UInt8) (h : Nat × Int × Nat) (ts : List Tk) (p : List Ot × Nat) : Except (Nat × Nat) (Qp × Nat) :=
  if p.2 < l.length then .error (p.2, 3) else .ok (⟨h.1, h.2.1, h.2.2, ts, p.1⟩, p.2)
def rdQo (l : List UInt8) (h : Nat × Int × Nat) (p : List Tk × Nat) : Except (Nat × Nat) (Qp × Nat) :=
  match rdCnt l p.2 with
  | .error e => .error e
  | .ok (k, t6) =>
    match rdOs l h.2.2 p.1 k t6 0 [] with
    | .error e => .error e
    | .ok r => rdEnd l h p.1 r
def rdQw (l : List UInt8) (h : Nat × Int × Nat) (t : Nat) : Except (Nat × Nat) (Qp × Nat) :=
  match rdCnt l t with
  | .error e => .error e
  | .ok (n, t4) =>
    match rdWs l n t4 [] with
    | .error e => .error e
    | .ok r => rdQo l h r
def rdQ (l : List UInt8) : Except (Nat × Nat) (Qp × Nat) :=
  match rdHd l with
  | .error e => .error e
  | .ok (h, t) => rdQw l h t

theorem rdInt_in {l : List UInt8} {a n : Nat} {x : Int} (h : Cd.rdInt l a = .ok (x, n)) : -9223372036854775808 ≤ x ∧ x ≤ 9223372036854775807 := by
  unfold Cd.rdInt at h
  cases e : Cd.rdUint l a with
  | error q => rw [e] at h; cases h
  | ok q =>
    obtain ⟨m, tz⟩ := q
    rw [e] at h
    have := (Cd.rdUint_lt e).1
    injection h with h
    injection h with h1 h2
    subst h1
    unfold Cd.unzig
    split <;> omega
theorem rdNum_er0 {l : List UInt8} {a p en : Nat} (ha : a ≤ l.length) (h : rdNum l a = .error (p, en)) : p ≤ l.length ∧ en ≠ 0 := rdNum_er ha h
theorem rdCnt_er {l : List UInt8} {a p en : Nat} (ha : a ≤ l.length) (h : rdCnt l a = .error (p, en)) : p ≤ l.length ∧ en ≠ 0 := by
  unfold rdCnt at h
  cases e : rdNum l a with
  | error q => rw [e] at h; injection h with h; subst h; exact rdNum_er ha e
  | ok q =>
    obtain ⟨m, tz⟩ := q
    rw [e] at h
    simp only at h
    split at h
    · injection h with h; injection h with h1 h2; omega
    · cases h
theorem rdCnt_le {l : List UInt8} {a x n : Nat} (h : rdCnt l a = .ok (x, n)) : n ≤ l.length ∧ x ≤ 65536 := by
  unfold rdCnt at h
  cases e : rdNum l a with
  | error q => rw [e] at h; cases h
  | ok q =>
    obtain ⟨m, tz⟩ := q
    rw [e] at h
    simp only at h
    split at h
    · cases h
    · injection h with h; injection h with h1 h2; subst h1 h2; exact ⟨(rdNum_le e).1, by omega⟩
/-- a read that goes on right, or stays where something was wrong -/
theorem aft_le {α : Type} {z : α} {rd : Nat → Except (Nat × Nat) (α × Nat)} {N : Nat} (hk : ∀ a x n, a ≤ N → rd a = .ok (x, n) → n ≤ N) (he : ∀ a p en, a ≤ N → rd a = .error (p, en) → p ≤ N ∧ en ≠ 0) (s : Nat × Nat) (hs : s.1 ≤ N) : (aft z rd s).2.1 ≤ N ∧ ((aft z rd s).2.2 = 0 ↔ s.2 = 0 ∧ ∃ x n, rd s.1 = .ok (x, n) ∧ aft z rd s = (x, (n, 0))) := by
  obtain ⟨a, en⟩ := s
  by_cases h0 : en = 0
  · subst h0
    cases hr : rd a with
    | ok p => obtain ⟨x, n⟩ := p; rw [aft_ok hr]; exact ⟨hk a x n hs hr, by simp⟩
    | error p =>
      obtain ⟨p, q⟩ := p
      rw [aft_er hr]
      have := he a p q hs hr
      exact ⟨this.1, by simp; omega⟩
  · rw [aft_idle h0]
    exact ⟨hs, by simp [h0]⟩
section
variable {l : List UInt8}
theorem aT (s : Nat × Nat) (hs : s.1 ≤ l.length) : (aft [] (Cd.rdText l) s).2.1 ≤ l.length ∧ ((aft [] (Cd.rdText l) s).2.2 = 0 ↔ s.2 = 0 ∧ ∃ x n, Cd.rdText l s.1 = .ok (x, n) ∧ aft [] (Cd.rdText l) s = (x, (n, 0))) :=
  aft_le (N := l.length) (fun _ _ _ _ h => (rdText_le h).1) (fun _ _ _ ha h => by have := rdText_er ha h; omega) s hs
theorem aI (s : Nat × Nat) (hs : s.1 ≤ l.length) : (aft 0 (Cd.rdInt l) s).2.1 ≤ l.length ∧ ((aft 0 (Cd.rdInt l) s).2.2 = 0 ↔ s.2 = 0 ∧ ∃ x n, Cd.rdInt l s.1 = .ok (x, n) ∧ aft 0 (Cd.rdInt l) s = (x, (n, 0))) :=
  aft_le (N := l.length) (fun _ _ _ _ h => rdInt_le h) (fun _ _ _ ha h => by have := rdInt_er ha h; omega) s hs
theorem aN (s : Nat × Nat) (hs : s.1 ≤ l.length) : (aft 0 (rdNum l) s).2.1 ≤ l.length ∧ ((aft 0 (rdNum l) s).2.2 = 0 ↔ s.2 = 0 ∧ ∃ x n, rdNum l s.1 = .ok (x, n) ∧ aft 0 (rdNum l) s = (x, (n, 0))) :=
  aft_le (N := l.length) (fun _ _ _ _ h => (rdNum_le h).1) (fun _ _ _ ha h => rdNum_er ha h) s hs
end
theorem tk4_le {l : List UInt8} {a : Nat} (ha : a ≤ l.length) : (tk4 l (a, 0)).2.1 ≤ l.length := by
  unfold tk4
  have h1 := (aT (l := l) (a, 0) ha).1
  have h2 := (aT _ h1).1
  have h3 := (aI _ h2).1
  exact (aN _ h3).1
theorem ot5_le {l : List UInt8} {a : Nat} (ha : a ≤ l.length) : (ot5 l (a, 0)).2.1 ≤ l.length := by
  unfold ot5
  have h1 := (aT (l := l) (a, 0) ha).1
  have h2 := (aN _ h1).1
  have h3 := (aT _ h2).1
  have h4 := (aI _ h3).1
  exact (aN _ h4).1
theorem rdTk_le {l : List UInt8} {a tz : Nat} {t : Tk} (ha : a ≤ l.length) (h : rdTk l a = .ok (t, tz)) : tz ≤ l.length := by
  unfold rdTk at h
  split at h
  · injection h with h; injection h with _ h; have := tk4_le ha; omega
  · cases h
theorem rdOt_le {l : List UInt8} {a tz : Nat} {t : Ot} (ha : a ≤ l.length) (h : rdOt l a = .ok (t, tz)) : tz ≤ l.length := by
  unfold rdOt at h
  split at h
  · injection h with h; injection h with _ h; have := ot5_le ha; omega
  · cases h
end Go.Proofs.YtpbheicfplpemaaGreat
