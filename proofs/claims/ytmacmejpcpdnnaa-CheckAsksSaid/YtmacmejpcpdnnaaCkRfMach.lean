/- check: the document's stack says what the program's walk says. -/
import Derived.Test.YtmacmejpcpdnnaaCkRfCheckP
namespace Go.Proofs.Ytmacmejpcpdnnaa

/-- a twig whose parts are going by: its Op, how many came, how many there are; the last one first -/
abbrev Stk := List (Nat × Nat × Nat)
/-- one more part came -/
def popInc : Stk → Stk
  | [] => []
  | (u, c, n) :: st => if c + 1 = n then popInc st else (u, c + 1, n) :: st
def pushS (x : Tw) (st : Stk) : Stk := if x.kids.toNat = 0 then popInc st else (x.op, 0, x.kids.toNat) :: st
def partS (st : Stk) (op : Nat) : Bool :=
  match st with
  | [] => true
  | (u, c, n) :: _ => partB u (c : Int) (n : Int) op
def deepS (i : Nat) (st : Stk) (d : Option Nat) : Option Nat := if d = none ∧ 40 ≤ st.length then some i else d
def runM : List Tw → Nat → Stk → Option Nat → Except Nat (Stk × Option Nat)
  | [], _, st, d => .ok (st, d)
  | x :: t, i, st, d => if (decide (0 < i) && st.isEmpty) || !fineB x || !partS st x.op then .error i else runM t (i + 1) (pushS x st) (deepS i st d)
/-- what the document's Check says -/
def finM (L : Nat) : Except Nat (Stk × Option Nat) → Nat × Nat
  | .error p => (p, 3)
  | .ok (st, d) => if L = 0 ∨ st ≠ [] then (L, 3) else match d with | some p => (p, 2) | none => (0, 0)
def docTree (t : List Tw) : Nat × Nat := if 2048 < t.length then (0, 2) else finM t.length (runM t 0 [] none)
def finC (L : Nat) : Except Nat (Nat × Option Nat) → Nat × Nat
  | .error p => (p, 3)
  | .ok (e, d) => if e < L then (e, 3) else match d with | some p => (p, 2) | none => (0, 0)
/-- what is still to come -/
def contR (t : List Tw) : Stk → Nat → Option Nat → Except Nat (Nat × Option Nat)
  | [], at_, d => .ok (at_, d)
  | (u, c, n) :: st, at_, d => match ckr t at_ (st.length + 2) (.of u ((c : Int) + 1) (n : Int)) (n - (c + 1)) d with
    | .error e => .error e
    | .ok (a, d') => contR t st a d'
def contS (t : List Tw) : Stk → Nat → Option Nat → Except Nat (Nat × Option Nat)
  | [], at_, d => .ok (at_, d)
  | (u, c, n) :: st, at_, d => match ckr t at_ (st.length + 2) (.of u (c : Int) (n : Int)) (n - c) d with
    | .error e => .error e
    | .ok (a, d') => contR t st a d'
/-- a stack as it comes about -/
def Stands2 : Stk → Prop
  | [] => True
  | (u, c, n) :: st => c < n ∧ (∃ f, formT u = some f ∧ (n : Int) ≤ f.most) ∧ Stands2 st
theorem popInc_ok : ∀ st, Stands2 st → Stands2 (popInc st) := by
  intro st
  induction st with
  | nil => intro _; trivial
  | cons q st ih =>
    obtain ⟨u, c, n⟩ := q
    intro h
    simp only [popInc]
    split
    · exact ih h.2.2
    · exact ⟨by have := h.1; omega, h.2⟩
theorem contR_pop (t : List Tw) : ∀ st at_ d, Stands2 st → contR t st at_ d = contS t (popInc st) at_ d := by
  intro st
  induction st with
  | nil => intro at_ d _; rfl
  | cons q st ih =>
    obtain ⟨u, c, n⟩ := q
    intro at_ d h
    simp only [popInc, contR]
    by_cases e : c + 1 = n
    · rw [if_pos e, show n - (c + 1) = 0 from by omega, ckr_zero]
      exact ih at_ d h.2.2
    · rw [if_neg e]
      simp only [contS]
      rfl
theorem goodB_form {m : May} {x : Tw} (h : goodB m x = true) : ∃ f, formT x.op = some f ∧ x.kids ≤ f.most := by
  unfold goodB at h
  cases hf : formT x.op with
  | none => rw [hf] at h; cases h
  | some f =>
    rw [hf] at h
    simp only [Bool.and_eq_true, Bool.not_eq_true', decide_eq_false_iff_not] at h
    exact ⟨f, rfl, by have := h.1.1.2; omega⟩
theorem deep_eq (at_ : Nat) (st : Stk) (d : Option Nat) : deepS at_ st d = deepAt at_ (st.length + 1) d := by
  unfold deepS deepAt
  by_cases h : d = none <;> by_cases h2 : 40 ≤ st.length
  · rw [if_pos ⟨h, h2⟩, if_pos ⟨by omega, h⟩]
  · rw [if_neg (fun q => h2 q.2), if_neg (fun q => h2 (by omega))]
  · rw [if_neg (fun q => h q.1), if_neg (fun q => h q.2)]
  · rw [if_neg (fun q => h q.1), if_neg (fun q => h q.2)]
theorem push_cont {t : List Tw} {at_ : Nat} {x : Tw} {st : Stk} {d : Option Nat} (hk : 0 ≤ x.kids) (hst : Stands2 st) :
    contS t (pushS x st) (at_ + 1) d = match ckr t (at_ + 1) (st.length + 2) (.of x.op 0 x.kids) x.kids.toNat d with | .error e => .error e | .ok (a, d') => contR t st a d' := by
  unfold pushS
  by_cases h0 : x.kids.toNat = 0
  · rw [if_pos h0, h0, ckr_zero]
    exact (contR_pop t st (at_ + 1) d hst).symm
  · rw [if_neg h0]
    simp only [contS, Nat.sub_zero]
    rw [show ((x.kids.toNat : Nat) : Int) = x.kids from by omega]
    rfl
theorem run_end {t : List Tw} {at_ : Nat} {d : Option Nat} (h0 : 0 < at_) (hle : at_ ≤ t.length) : finM t.length (runM (t.drop at_) at_ [] d) = finC t.length (.ok (at_, d)) := by
  by_cases h : at_ < t.length
  · rw [List.drop_eq_getElem_cons h]
    simp only [runM, finC]
    rw [if_pos (by simp [h0]), if_pos h]
    rfl
  · rw [List.drop_eq_nil_of_le (by omega)]
    simp only [runM, finM, finC]
    rw [if_neg h, if_neg (by intro q; rcases q with q | q; omega; exact q rfl)]
theorem run_cont (t : List Tw) : ∀ (r at_ : Nat) (st : Stk) (d : Option Nat), t.length - at_ ≤ r → 0 < at_ → at_ ≤ t.length → Stands2 st → finM t.length (runM (t.drop at_) at_ st d) = finC t.length (contS t st at_ d) := by
  intro r
  induction r with
  | zero =>
    intro at_ st d hr h0 hle hst
    cases st with
    | nil => exact run_end h0 hle
    | cons q st =>
      obtain ⟨u, c, n⟩ := q
      have he : at_ = t.length := by omega
      rw [List.drop_eq_nil_of_le (by omega)]
      simp only [runM, contS]
      obtain ⟨m, hm⟩ : ∃ m, n - c = m + 1 := ⟨n - c - 1, by have := hst.1; omega⟩
      rw [hm, ckr_out (by omega)]
      simp only [finM, finC]
      rw [if_pos (.inr (by simp))]
  | succ r ih =>
    intro at_ st d hr h0 hle hst
    cases st with
    | nil => exact run_end h0 hle
    | cons q st =>
      obtain ⟨u, c, n⟩ := q
      obtain ⟨m, hm⟩ : ∃ m, n - c = m + 1 := ⟨n - c - 1, by have := hst.1; omega⟩
      by_cases hlt : at_ < t.length
      · rw [List.drop_eq_getElem_cons hlt]
        simp only [runM, contS]
        obtain ⟨f, hf, hfn⟩ := hst.2.1
        have hg : goodB (.of u (c : Int) (n : Int)) t[at_] = (fineB t[at_] && partS ((u, c, n) :: st) t[at_].op) := by
          rw [goodB_fine, ok_part hf hst.1 hfn]
          rfl
        rw [hm]
        by_cases hgd : goodB (.of u (c : Int) (n : Int)) t[at_] = true
        · rw [ckr_good hlt hgd]
          rw [hgd] at hg
          have hg2 : fineB t[at_] = true ∧ partS ((u, c, n) :: st) t[at_].op = true := by simpa using hg.symm
          rw [if_neg (by rw [hg2.1, hg2.2]; simp)]
          have hk := (goodB_kids hgd).1
          have hstp : Stands2 (pushS t[at_] ((u, c, n) :: st)) := by
            unfold pushS
            split
            · exact popInc_ok _ hst
            · obtain ⟨f2, hf2, hk2⟩ := goodB_form hgd
              exact ⟨by omega, ⟨f2, hf2, by omega⟩, hst⟩
          rw [ih (at_ + 1) _ _ (by omega) (by omega) hlt hstp, push_cont hk hst, deep_eq]
          simp only [List.length_cons]
          cases ckr t (at_ + 1) (st.length + 2 + 1) (.of t[at_].op 0 t[at_].kids) t[at_].kids.toNat (deepAt at_ (st.length + 1 + 1) d) with
          | error e => rfl
          | ok q =>
            obtain ⟨a1, d1⟩ := q
            simp only [contR]
            rw [show n - (c + 1) = m from by omega]
            rfl
        · have hgf : goodB (.of u (c : Int) (n : Int)) t[at_] = false := by simpa using hgd
          rw [ckr_bad hlt hgf]
          rw [hgf] at hg
          rw [if_pos (by
            cases h1 : fineB t[at_] <;> cases h2 : partS ((u, c, n) :: st) t[at_].op <;> simp_all)]
          rfl
      · rw [List.drop_eq_nil_of_le (by omega)]
        simp only [runM, contS]
        rw [hm, ckr_out hlt]
        simp only [finM, finC]
        rw [if_pos (.inr (by simp))]
/-- the document's Check says what the program's says -/
theorem docTree_eq (t : List Tw) : docTree t = ckTree t := by
  rw [ckTree_ckr]
  unfold docTree
  by_cases hl : 2048 < t.length
  · rw [if_pos hl, if_pos hl]
  · rw [if_neg hl, if_neg hl]
    show finM t.length (runM t 0 [] none) = finC t.length (ckr t 0 1 .any 1 none)
    cases t with
    | nil =>
      rw [ckr_out (n := 0) (by simp)]
      simp only [runM, finM, finC, List.length_nil]
      rw [if_pos (.inl trivial)]
    | cons x t' =>
      have hlt : 0 < (x :: t').length := by simp
      have hx : (x :: t')[0] = x := rfl
      have hg : goodB .any x = fineB x := by rw [goodB_fine]; simp [May.ok]
      simp only [runM]
      by_cases hgd : fineB x = true
      · rw [if_neg (by rw [hgd]; simp [partS]), ckr_good (n := 0) hlt (by rw [hx, hg]; exact hgd), hx]
        have hgx : goodB .any x = true := by rw [hg]; exact hgd
        have hk := (goodB_kids hgx).1
        have hstp : Stands2 (pushS x []) := by
          unfold pushS
          split
          · trivial
          · obtain ⟨f2, hf2, hk2⟩ := goodB_form hgx
            exact ⟨by omega, ⟨f2, hf2, by omega⟩, trivial⟩
        have := run_cont (x :: t') (x :: t').length 1 (pushS x []) (deepS 0 [] none) (by simp) (by omega) (by simp) hstp
        rw [show (x :: t').drop 1 = t' from rfl] at this
        rw [this, push_cont (at_ := 0) (st := []) hk (show Stands2 [] from trivial), deep_eq]
        simp only [List.length_nil]
        cases ckr (x :: t') (0 + 1) (0 + 2) (.of x.op 0 x.kids) x.kids.toNat (deepAt 0 (0 + 1) none) with
        | error e => rfl
        | ok q => obtain ⟨a1, d1⟩ := q; simp only [ckr_zero, contR]
      · have hgf : fineB x = false := by simpa using hgd
        rw [if_pos (by rw [hgf]; simp), ckr_bad (n := 0) hlt (by rw [hx, hg]; exact hgf)]
        rfl
end Go.Proofs.Ytmacmejpcpdnnaa
