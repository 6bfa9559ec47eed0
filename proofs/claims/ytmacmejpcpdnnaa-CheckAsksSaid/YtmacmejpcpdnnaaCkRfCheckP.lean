/- check: the document's Check of a tree (a stack), in plain Lean: it says what the program's says. -/
import Derived.Test.YtmacmejpcpdnnaaCkRfFine
import Derived.Test.YtmacmejpcpdnnaaCkGo
namespace Go.Proofs.Ytmacmejpcpdnnaa

def ownTxt : Txt → Bool
  | .own => true
  | _ => false
def shortTxt : Txt → Bool
  | .short => true
  | _ => false
/-- the forms' table is the document's -/
def specB (op : Nat) : Bool :=
  match formT op with
  | none => !(isExpr op || isStmt op || decide (1 ≤ op ∧ op ≤ 3))
  | some f => (isExpr op || isStmt op || decide (1 ≤ op ∧ op ≤ 3)) && (ownTxt f.txt == namedB op) && (shortTxt f.txt == (!namedB op && op == 24)) && f.least == leastI op && ((decide (mostI op < 0) && f.most == 2048) || (!decide (mostI op < 0) && f.most == mostI op))
theorem spec_all : ∀ op, op < 58 → specB op = true := by decide
theorem form_far {op : Nat} (h : 58 ≤ op) : formT op = none := by unfold formT; repeat (rw [if_neg (by omega)])
theorem spec_any (op : Nat) : specB op = true := by
  by_cases h : op < 58
  · exact spec_all op h
  · unfold specB
    rw [form_far (by omega)]
    simp [isExpr, isStmt]
    omega
def prtB2 (op : Nat) : Bool :=
  match formT op with
  | none => true
  | some f => match f.prt with
    | .params => op == 1
    | .nothing => f.most == 0
    | .stmt => op == 3
    | .headed => op == 6 || op == 7
    | .block => op == 53
    | .expr => !(op == 1 || op == 3 || op == 6 || op == 7 || op == 53)
theorem prt_all : ∀ op, op < 58 → prtB2 op = true := by decide
theorem prt_any2 (op : Nat) : prtB2 op = true := by
  by_cases h : op < 58
  · exact prt_all op h
  · unfold prtB2; rw [form_far (by omega)]
theorem goodB_fine (m : May) (x : Tw) : goodB m x = (fineB x && m.ok x.op) := by
  have hs := spec_any x.op
  unfold specB at hs
  unfold goodB fineB fineO fineT fineI fineK
  cases hf : formT x.op with
  | none =>
    rw [hf] at hs
    simp only [Bool.not_eq_true'] at hs
    rw [hs]
    simp
  | some f =>
    rw [hf] at hs
    simp only [Bool.and_eq_true, beq_iff_eq] at hs
    obtain ⟨⟨⟨⟨h1, h2⟩, h3⟩, h4⟩, h5⟩ := hs
    have hlm := formT_lm hf
    simp only [h1, Bool.true_and]
    have hT : (if namedB x.op = true then txtB .own x.text else if x.op = 24 then decide (x.text.size ≤ 4095) else decide (x.text.size = 0)) = txtB f.txt x.text := by
      cases hx : f.txt with
      | own => rw [hx] at h2; simp only [ownTxt] at h2; rw [if_pos h2.symm]
      | empty =>
        rw [hx] at h2 h3; simp only [ownTxt, shortTxt] at h2 h3
        rw [← h2] at h3
        rw [if_neg (by rw [← h2]; simp), if_neg (by simpa using h3)]
        rfl
      | short =>
        rw [hx] at h2 h3; simp only [ownTxt, shortTxt] at h2 h3
        rw [← h2] at h3
        rw [if_neg (by rw [← h2]; simp), if_pos (by simpa using h3.symm)]
        rfl
    rw [hT]
    have hI : (!(!(x.op == 23) && !decide (x.int = 0)) && !decide (x.int < 0)) = (!decide (x.int < 0) && !(decide (0 < x.int) && x.op != 23)) := by
      rw [Bool.eq_iff_iff]
      simp
      omega
    have hK : (!decide (x.kids < f.least) && !decide (f.most < x.kids)) = (decide (leastI x.op ≤ x.kids) && ((decide (mostI x.op < 0) && decide (x.kids ≤ 2048)) || decide (x.kids ≤ mostI x.op))) := by
      rw [← h4]
      simp only [Bool.or_eq_true, Bool.and_eq_true, decide_eq_true_eq, Bool.not_eq_true', decide_eq_false_iff_not, beq_iff_eq] at h5
      rw [Bool.eq_iff_iff]
      simp
      omega
    generalize ha : m.ok x.op = a
    generalize hb : txtB f.txt x.text = b
    rw [Bool.and_assoc (a && b), hK, Bool.and_assoc (a && b), Bool.and_assoc (a && b), ← hI]
    generalize (decide (leastI x.op ≤ x.kids) && ((decide (mostI x.op < 0) && decide (x.kids ≤ 2048)) || decide (x.kids ≤ mostI x.op))) = p
    generalize (!(!(x.op == 23) && !decide (x.int = 0))) = q
    generalize (!decide (x.int < 0)) = r
    cases a <;> cases b <;> cases p <;> cases q <;> cases r <;> rfl
/-- a part of a right twig -/
theorem ok_part {up : Nat} {f : Form} {i n : Nat} {op : Nat} (hf : formT up = some f) (hi : i < n) (hn : (n : Int) ≤ f.most) : (May.of up (i : Int) (n : Int)).ok op = partB up (i : Int) (n : Int) op := by
  have hp := prt_any2 up
  unfold prtB2 at hp
  simp only [May.ok]
  rw [hf] at hp ⊢
  simp only at hp ⊢
  unfold partB
  cases hpr : f.prt with
  | params =>
    rw [hpr] at hp
    simp only [beq_iff_eq] at hp
    subst hp
    rw [if_pos rfl]
    by_cases h : (i : Int) = (n : Int) - 1
    · rw [if_pos h]; simp [prtB, h]
    · rw [if_neg h]
      have h2 : (i : Int) < (n : Int) - 1 := by omega
      simp [prtB, h2]
      omega
  | nothing =>
    rw [hpr] at hp
    simp only [beq_iff_eq] at hp
    omega
  | stmt =>
    rw [hpr] at hp
    simp only [beq_iff_eq] at hp
    subst hp
    rfl
  | headed =>
    rw [hpr] at hp
    simp only [Bool.or_eq_true, beq_iff_eq] at hp
    rw [if_neg (by omega), if_neg (by omega)]
    by_cases h : (0 : Int) < (i : Int)
    · rw [if_pos ⟨hp, h⟩]
      have h2 : ((i : Int) == 0) = false := by simp; omega
      have h3 : decide ((0 : Int) < (i : Int)) = true := decide_eq_true h
      simp only [prtB, h2, h3, Bool.false_and, Bool.true_and, Bool.false_or]
    · rw [if_neg (fun q => h q.2), if_neg (by omega)]
      have h2 : (i : Int) = 0 := by omega
      simp [prtB, h2]
  | expr =>
    rw [hpr] at hp
    simp only [Bool.not_eq_true', Bool.or_eq_false_iff, beq_eq_false_iff_ne, ne_eq] at hp
    rw [if_neg (by omega), if_neg (by omega), if_neg (by omega), if_neg (by omega)]
    rfl
  | block =>
    rw [hpr] at hp
    simp only [beq_iff_eq] at hp
    subst hp
    rfl
end Go.Proofs.Ytmacmejpcpdnnaa
