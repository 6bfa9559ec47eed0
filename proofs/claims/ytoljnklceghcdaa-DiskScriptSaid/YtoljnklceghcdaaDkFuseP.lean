/- DiskFuse: the plain part: changes, what is behind a crash without anything kept. -/
import Derived.Test.YtoljnklceghcdaaDkSteps
namespace Go.Proofs.Ytoljnklceghcdaa
open Go.RowKit Go.Maps Go.Sort Go.Shelf
variable {Xs : Nat → Prop}

/-- a change by its number -/
def opS (s : Dk) (op : Nat) (k k2 : ByteArray) (lb : List UInt8) : Dk := match op with
  | 0 => apS s k lb
  | 1 => syS s k
  | 2 => mvS s k k2
  | _ => rmS s k
def opC (s : Dk) (op : Nat) (k : ByteArray) : Int := match op with
  | 0 => apC s
  | _ => chC s k
theorem DS.wf {w : World} {d F N : Nat} {off : Bool} {fuse : Int} {p : Fs} (h : DS Xs w d F off fuse p N) (k : ByteArray) : (pl p k).2 ≤ (pl p k).1.length := by
  obtain ⟨v, _, h2, _⟩ := h.look k
  exact h2
theorem pl_wip (p : Fs) (k y : ByteArray) : pl (wip p k) y = if y = k then ([], 0) else pl p y := by
  unfold pl wip
  split <;> rfl
theorem short_upd {p : Fs} {L M : Nat} (h : Short p L) (k : ByteArray) (x : Fd) (hx : x.1.length ≤ M) (hL : L ≤ M) : Short (upd p k x) M := fun y => by
  rw [pl_upd]
  split
  · exact hx
  · have := h y; omega
theorem short_wip {p : Fs} {L : Nat} (h : Short p L) (k : ByteArray) : Short (wip p k) L := fun y => by
  rw [pl_wip]
  split
  · simp
  · exact h y
theorem short_op {s : Dk} {L : Nat} (h : Short s.p L) (op : Nat) (k k2 : ByteArray) (lb : List UInt8) (M : Nat) (hM : L + lb.length ≤ M) : Short (opS s op k k2 lb).p M := by
  have hw : Short s.p M := fun y => by have := h y; omega
  have ha : Short (upd s.p k ((pl s.p k).1 ++ lb, (pl s.p k).2)) M := short_upd h k _ (by rw [List.length_append]; have := h k; omega) (by omega)
  unfold opS
  split
  · unfold apS
    split
    · exact hw
    · split <;> exact ha
  · unfold syS chS
    split
    · exact hw
    · split
      · split
        · exact hw
        · exact short_upd h k _ (by have := h k; simp only; omega) (by omega)
      · exact hw
  · unfold mvS chS
    split
    · exact hw
    · split
      · split
        · exact hw
        · exact short_upd (short_wip h k) k2 _ (by have := h k; omega) (by omega)
      · exact hw
  · unfold rmS chS
    split
    · exact hw
    · split
      · split
        · exact hw
        · have := short_wip h k; exact fun y => by have := this y; simp only; omega
      · exact hw
/-- one disk with a fuse, one without: they do the same -/
theorem op_same (f : Int) (hf : 0 ≤ f) (p : Fs) (op : Nat) (k k2 : ByteArray) (lb : List UInt8) :
    (0 < f ∧ opC ⟨false, f, p⟩ op k = 0 ∧ opC ⟨false, -1, p⟩ op k = 0 ∧ ∃ q, opS ⟨false, f, p⟩ op k k2 lb = ⟨false, f - 1, q⟩ ∧ opS ⟨false, -1, p⟩ op k k2 lb = ⟨false, -1, q⟩) ∨
    (opC ⟨false, f, p⟩ op k = 5 ∧ opS ⟨false, f, p⟩ op k k2 lb = ⟨false, f, p⟩) ∨
    (f = 0 ∧ opC ⟨false, f, p⟩ op k = 250 ∧ ∃ q, opS ⟨false, f, p⟩ op k k2 lb = ⟨true, -1, q⟩ ∧ (q = p ∨ q = upd p k ((pl p k).1 ++ lb, (pl p k).2))) := by
  have hg : ∀ q, (0 < f ∧ chC ⟨false, f, p⟩ k = 0 ∧ chC ⟨false, -1, p⟩ k = 0 ∧ ∃ q', chS ⟨false, f, p⟩ k q = ⟨false, f - 1, q'⟩ ∧ chS ⟨false, -1, p⟩ k q = ⟨false, -1, q'⟩) ∨
      (chC ⟨false, f, p⟩ k = 5 ∧ chS ⟨false, f, p⟩ k q = ⟨false, f, p⟩) ∨
      (f = 0 ∧ chC ⟨false, f, p⟩ k = 250 ∧ ∃ q', chS ⟨false, f, p⟩ k q = ⟨true, -1, q'⟩ ∧ (q' = p ∨ q' = upd p k ((pl p k).1 ++ lb, (pl p k).2))) := fun q => by
    cases hk : (p k).isSome
    · exact .inr (.inl ⟨by simp [chC, hk], by simp [chS, hk]⟩)
    · by_cases h0 : f = 0
      · exact .inr (.inr ⟨h0, by simp [chC, hk, h0], p, by simp [chS, hk, h0], .inl rfl⟩)
      · have h1 : 0 < f := by omega
        exact .inl ⟨h1, by simp [chC, hk, h0], by simp [chC, hk], q, by simp [chS, hk, h0, lessF, h1], by simp [chS, hk, lessF]⟩
  cases op with
  | zero =>
    by_cases h0 : f = 0
    · exact .inr (.inr ⟨h0, by simp [opC, apC, h0], upd p k ((pl p k).1 ++ lb, (pl p k).2), by simp [opS, apS, h0], .inr rfl⟩)
    · have h1 : 0 < f := by omega
      exact .inl ⟨h1, by simp [opC, apC, h0], by simp [opC, apC], upd p k ((pl p k).1 ++ lb, (pl p k).2), by simp [opS, apS, h0, lessF, h1], by simp [opS, apS, lessF]⟩
  | succ op =>
    cases op with
    | zero => exact hg _
    | succ op =>
      cases op with
      | zero => exact hg _
      | succ op => exact hg _
theorem op_off (f : Int) (p : Fs) (op : Nat) (k k2 : ByteArray) (lb : List UInt8) : opC ⟨true, f, p⟩ op k = 250 ∧ opS ⟨true, f, p⟩ op k k2 lb = ⟨true, f, p⟩ := by
  unfold opC opS
  constructor
  · split <;> simp [apC, chC]
  · split <;> simp [apS, syS, mvS, rmS, chS]

/-- what lasts -/
def lastF (p : Fs) : Fs := fun k => (p k).map fun x => (x.1.take x.2, x.2)
theorem lastF_is (p : Fs) (k : ByteArray) : (lastF p k).isSome = (p k).isSome := by unfold lastF; cases p k <;> rfl
theorem lastF_keys {p : Fs} {ks : List (List UInt8)} : KeysOf (lastF p) ks ↔ KeysOf p ks := by
  unfold KeysOf
  have : ∀ k, lastF p k ≠ none ↔ p k ≠ none := fun k => by unfold lastF; cases p k <;> simp
  constructor
  · rintro ⟨h1, h2⟩
    exact ⟨h1, fun k => by rw [h2, this]⟩
  · rintro ⟨h1, h2⟩
    exact ⟨h1, fun k => by rw [h2, this]⟩
/-- a crash without anything kept -/
theorem crash_last (z : Nat → Int) : ∀ (ks : List (List UInt8)) (i : Nat) (p : Fs), ks.Nodup → (∀ x ∈ ks, (p (keyB x)).isSome = true) →
    ∀ k, crashF 0 z ks i p k = if k.data.toList ∈ ks then lastF p k else p k
  | [], i, p, _, _, k => by simp [crashF]
  | x :: xs, i, p, hn, hs, k => by
    have hx := hs x (List.mem_cons_self ..)
    obtain ⟨⟨l, m⟩, hp⟩ := Option.isSome_iff_exists.1 hx
    have hpl : pl p (keyB x) = (l, m) := by simp [pl, hp]
    have hn2 := List.nodup_cons.1 hn
    have hm0 : ∀ i r, more 0 z i r = 0 := fun i r => if_neg (Nat.not_lt_zero _)
    have hkx : ∀ k : ByteArray, k.data.toList = x ↔ k = keyB x := fun k => ⟨fun e => key_inj e, fun e => by rw [e]; rfl⟩
    unfold crashF
    rw [hpl]
    simp only [hm0, Nat.add_zero]
    by_cases hml : m = l.length
    · rw [if_pos hml, crash_last z xs i p hn2.2 (fun y hy => hs y (List.mem_cons_of_mem _ hy)) k]
      by_cases hk : k.data.toList ∈ xs
      · rw [if_pos hk, if_pos (List.mem_cons_of_mem _ hk)]
      · rw [if_neg hk]
        by_cases hk2 : k = keyB x
        · rw [if_pos (by rw [hk2]; exact List.mem_cons_self ..), hk2, lastF, hp]
          simp [hml]
        · rw [if_neg (by
            rw [List.mem_cons]
            rintro (e | e)
            · exact hk2 ((hkx k).1 e)
            · exact hk e)]
    · rw [if_neg hml, crash_last z xs (i + 1) _ hn2.2 (fun y hy => upd_some (hs y (List.mem_cons_of_mem _ hy))) k]
      by_cases hk2 : k = keyB x
      · have hkn : k.data.toList ∉ xs := by rw [hk2]; exact hn2.1
        rw [if_neg hkn, if_pos (by rw [hk2]; exact List.mem_cons_self ..), hk2]
        simp [upd, lastF, hp]
      · by_cases hk : k.data.toList ∈ xs
        · rw [if_pos hk, if_pos (List.mem_cons_of_mem _ hk)]
          simp [lastF, upd, hk2]
        · rw [if_neg hk, if_neg (by
            rw [List.mem_cons]
            rintro (e | e)
            · exact hk2 ((hkx k).1 e)
            · exact hk e)]
          simp [upd, hk2]
theorem crash_lastF (z : Nat → Int) (ks : List (List UInt8)) (p : Fs) (h : KeysOf p ks) : crashF 0 z ks 0 p = lastF p := by
  funext k
  rw [crash_last z ks 0 p h.nodup (fun x hx => by
    have := (h.2 (keyB x)).1 (by simpa [keyB] using hx)
    cases e : p (keyB x) <;> simp_all) k]
  by_cases hk : k.data.toList ∈ ks
  · rw [if_pos hk]
  · rw [if_neg hk]
    have : p k = none := by
      cases e : p k with
      | none => rfl
      | some v => exact absurd ((h.2 k).2 (by rw [e]; simp)) hk
    simp [lastF, this]
/-- the disk with the fuse has the other's files, and one more perhaps -/
def Near (q p : Fs) : Prop := q = p ∨ ∃ k lb, q = upd p k ((pl p k).1 ++ lb, (pl p k).2)
theorem near_last {q p : Fs} (h : Near q p) (hw : ∀ k, (pl p k).2 ≤ (pl p k).1.length) (k : ByteArray) (hk : p k ≠ none) : lastF q k = lastF p k := by
  rcases h with rfl | ⟨k2, lb, rfl⟩
  · rfl
  · by_cases e : k = k2
    · subst e
      cases hp : p k with
      | none => exact absurd hp hk
      | some x =>
        have := hw k
        simp only [pl, hp, Option.getD_some] at this
        simp [lastF, upd, pl, hp, List.take_append_of_le_length this]
    · simp [lastF, upd, e]
theorem near_keys {q p : Fs} (h : Near q p) {a b : List (List UInt8)} (ha : KeysOf q a) (hb : KeysOf p b) : (∀ x ∈ b, x ∈ a) ∧ b.length ≤ a.length ∧ a.length ≤ b.length + 1 := by
  rcases h with rfl | ⟨k2, lb, rfl⟩
  · rw [ha.one hb]
    exact ⟨fun _ h => h, Nat.le_refl _, Nat.le_succ _⟩
  · have hbx : ∀ x : List UInt8, (keyB x).data.toList = x := fun x => rfl
    by_cases hp : p k2 = none
    · have hnm : k2.data.toList ∉ b := fun e => (hb.2 k2).1 e hp
      have hperm : a.Perm (k2.data.toList :: b) := (List.perm_ext_iff_of_nodup ha.nodup (List.nodup_cons.2 ⟨hnm, hb.nodup⟩)).2 fun x => by
        rw [← hbx x, ha.2 (keyB x), List.mem_cons, hb.2 (keyB x)]
        by_cases e : keyB x = k2
        · subst e
          simp [upd]
        · have e2 : ¬ (keyB x).data.toList = k2.data.toList := fun h => e (key_inj h)
          simp [upd, e, e2]
      have hl := hperm.length_eq
      rw [List.length_cons] at hl
      exact ⟨fun x hx => hperm.mem_iff.2 (List.mem_cons_of_mem _ hx), by omega, by omega⟩
    · have h2 : KeysOf p a := ⟨ha.1, fun k => by
        rw [ha.2 k]
        by_cases e : k = k2
        · subst e
          simp [upd, hp]
        · simp [upd, e]⟩
      rw [h2.one hb]
      exact ⟨fun _ h => h, Nat.le_refl _, Nat.le_succ _⟩
end Go.Proofs.Ytoljnklceghcdaa
