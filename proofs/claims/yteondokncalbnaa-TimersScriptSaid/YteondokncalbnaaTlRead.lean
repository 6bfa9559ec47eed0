/- timers: what bytes say as a table, in plain Lean. -/
import Derived.Test.YteondokncalbnaaTlPlain
import Derived.Test.YteondokncalbnaaCodeLaws
namespace Go.Proofs.Yteondokncalbnaa
open Go.RowKit

/-- what is read of what stands behind a place, told from the beginning -/
def shft {α : Type} (t : Nat) : Except (Nat × Nat) (α × Nat) → Except (Nat × Nat) (α × Nat)
  | .ok (x, n) => .ok (x, t + n)
  | .error (p, e) => .error (t + p, e)
theorem drop_get {l : List UInt8} {t b : Nat} (h : b < (l.drop t).length) : (l.drop t)[b] = l[t + b]'(by simp at h; omega) := by simp
theorem rdU_shft (l : List UInt8) (t : Nat) (ht : t ≤ l.length) : ∀ (f b i n : Nat), shft t (Cd.rdU (l.drop t) f b i n) = Cd.rdU l f (t + b) i n := by
  intro f
  induction f with
  | zero => intro b i n; rfl
  | succ f ih =>
    intro b i n
    by_cases hb : b < (l.drop t).length
    · have hb2 : t + b < l.length := by simp at hb; omega
      have hg := drop_get hb
      by_cases h1 : (l[t + b].toNat = 0 ∧ 0 < i) ∨ (i = 9 ∧ l[t + b].toNat ≠ 1)
      · rw [Cd.rdU_bad hb (by rw [hg]; exact h1), Cd.rdU_bad hb2 h1]; rfl
      · by_cases h2 : l[t + b].toNat < 128
        · rw [Cd.rdU_end hb (by rw [hg]; exact h1) (by rw [hg]; exact h2), Cd.rdU_end hb2 h1 h2, hg]; rfl
        · rw [Cd.rdU_more hb (by rw [hg]; exact h1) (by rw [hg]; exact h2), Cd.rdU_more hb2 h1 h2, hg, ih]; rfl
    · have hb2 : ¬ t + b < l.length := by simp at hb; omega
      rw [Cd.rdU_short hb, Cd.rdU_short hb2]
      simp only [shft, List.length_drop]
      congr 2
      omega
theorem rdUint_shft {l : List UInt8} {t : Nat} (ht : t ≤ l.length) : shft t (Cd.rdUint (l.drop t) 0) = Cd.rdUint l t := rdU_shft l t ht 10 0 0 0
theorem rdInt_shft {l : List UInt8} {t : Nat} (ht : t ≤ l.length) : shft t (Cd.rdInt (l.drop t) 0) = Cd.rdInt l t := by
  unfold Cd.rdInt
  rw [← rdUint_shft ht]
  cases Cd.rdUint (l.drop t) 0 with
  | error e => rfl
  | ok p => rfl
theorem rdText_shft {l : List UInt8} {t : Nat} (ht : t ≤ l.length) : shft t (Cd.rdText (l.drop t) 0) = Cd.rdText l t := by
  unfold Cd.rdText
  rw [← rdUint_shft ht]
  cases Cd.rdUint (l.drop t) 0 with
  | error e => rfl
  | ok p =>
    obtain ⟨n, m⟩ := p
    show shft t (Cd.rdBytes (l.drop t) n m) = Cd.rdBytes l n (t + m)
    unfold Cd.rdBytes
    have e : (l.drop t).length - m = l.length - (t + m) := by simp; omega
    rw [e]
    by_cases hb : n ≤ l.length - (t + m)
    · rw [if_pos hb, if_pos hb, List.drop_drop]; simp [shft, Nat.add_assoc]
    · rw [if_neg hb, if_neg hb]; simp only [shft, List.length_drop]; congr 2; omega

/-- a timer from a place on -/
def rdTm (l : List UInt8) (a : Nat) : Except (Nat × Nat) (Lt × Nat) :=
  match Cd.rdInt l a with
  | .error e => .error e
  | .ok (due, t1) =>
    match Cd.rdText l t1 with
    | .error e => .error e
    | .ok (s, t2) =>
      match Cd.rdUint l t2 with
      | .error e => .error e
      | .ok (n, t3) => if 9223372036854775807 < n then .error (t2, 1) else .ok ((due, ⟨s.toArray⟩, (n : Int)), t3)
def namedB (L : List Lt) (o : ByteArray) (k : Int) : Bool := L.any (fun x => !otherN o k x)
where otherN (o : ByteArray) (k : Int) (x : Lt) : Bool := !(decide (x.2.1 = o) && decide (x.2.2 = k))
theorem namedB_is {L : List Lt} {o : ByteArray} {k : Int} : namedB L o k = true ↔ ∃ x ∈ L, x.2.1 = o ∧ x.2.2 = k := by
  unfold namedB namedB.otherN
  simp [List.any_eq_true]
/-- so many timers -/
def rdTms (l : List UInt8) : Nat → Nat → Int → List Lt → Except (Nat × Nat) (List Lt × Nat)
  | 0, a, _, L => if a < l.length then .error (a, 3) else .ok (L, a)
  | n + 1, a, last, L =>
    match rdTm l a with
    | .error e => .error e
    | .ok (x, t) => if x.1 < last then .error (a, 3) else if namedB L x.2.1 x.2.2 = true then .error (a, 6) else rdTms l n t x.1 (L ++ [x])
def rdTab (l : List UInt8) : Except (Nat × Nat) (List Lt × Nat) :=
  match Cd.rdUint l 0 with
  | .error e => .error e
  | .ok (n, t) => if 4096 < n then .error (0, 2) else rdTms l n t (-9223372036854775808) []
/-- a table's bytes -/
def tmB (x : Lt) : List UInt8 := Cd.uB (Cd.zig x.1) ++ Cd.textB x.2.1.data.toList ++ Cd.uB x.2.2.toNat
def tabB (L : List Lt) : List UInt8 := Cd.uB L.length ++ L.flatMap tmB
/-- a timer that can be written -/
def FitL (x : Lt) : Prop := (-9223372036854775808 ≤ x.1 ∧ x.1 ≤ 9223372036854775807) ∧ x.2.1.size ≤ 1000000 ∧ 0 ≤ x.2.2 ∧ x.2.2 ≤ 9223372036854775807
theorem zig_fit {i : Int} (h : -9223372036854775808 ≤ i ∧ i ≤ 9223372036854775807) : Cd.zig i < 18446744073709551616 := by
  unfold Cd.zig; split <;> omega
theorem size_toL' (a : ByteArray) : a.data.toList.length = a.size := by simp
theorem rdTm_wrote (x : Lt) (h : FitL x) (pre rest : List UInt8) : rdTm (pre ++ tmB x ++ rest) pre.length = .ok (x, (pre ++ tmB x).length) := by
  obtain ⟨due, o, k⟩ := x
  obtain ⟨h1, h2, h3, h4⟩ := h
  simp only at h1 h2 h3 h4
  have e1 : Cd.rdInt (pre ++ tmB (due, o, k) ++ rest) pre.length = .ok (due, pre.length + (Cd.uB (Cd.zig due)).length) := by
    rw [← rdInt_shft (by simp <;> omega)]
    have : (pre ++ tmB (due, o, k) ++ rest).drop pre.length = Cd.uB (Cd.zig due) ++ (Cd.textB o.data.toList ++ Cd.uB k.toNat ++ rest) := by
      rw [List.append_assoc, List.drop_left]; simp [tmB]
    rw [this, Cd.rdInt_wrote due (zig_fit h1)]
    rfl
  have e2 : Cd.rdText (pre ++ tmB (due, o, k) ++ rest) (pre.length + (Cd.uB (Cd.zig due)).length) = .ok (o.data.toList, pre.length + (Cd.uB (Cd.zig due)).length + (Cd.textB o.data.toList).length) := by
    rw [← rdText_shft (by simp [tmB] <;> omega)]
    have : (pre ++ tmB (due, o, k) ++ rest).drop (pre.length + (Cd.uB (Cd.zig due)).length) = Cd.textB o.data.toList ++ (Cd.uB k.toNat ++ rest) := by
      have e : pre ++ tmB (due, o, k) ++ rest = (pre ++ Cd.uB (Cd.zig due)) ++ (Cd.textB o.data.toList ++ (Cd.uB k.toNat ++ rest)) := by simp [tmB]
      rw [e, ← List.length_append, List.drop_left]
    rw [this, Cd.rdText_wrote _ (by rw [size_toL']; omega)]
    rfl
  have e3 : Cd.rdUint (pre ++ tmB (due, o, k) ++ rest) (pre.length + (Cd.uB (Cd.zig due)).length + (Cd.textB o.data.toList).length) = .ok (k.toNat, pre.length + (Cd.uB (Cd.zig due)).length + (Cd.textB o.data.toList).length + (Cd.uB k.toNat).length) := by
    rw [← rdUint_shft (by simp [tmB] <;> omega)]
    have : (pre ++ tmB (due, o, k) ++ rest).drop (pre.length + (Cd.uB (Cd.zig due)).length + (Cd.textB o.data.toList).length) = Cd.uB k.toNat ++ rest := by
      have e : pre ++ tmB (due, o, k) ++ rest = (pre ++ Cd.uB (Cd.zig due) ++ Cd.textB o.data.toList) ++ (Cd.uB k.toNat ++ rest) := by simp [tmB]
      rw [e, ← List.length_append, ← List.length_append, List.drop_left]
    rw [this, Cd.rdUint_wrote _ (by omega)]
    rfl
  unfold rdTm
  rw [e1]
  simp only
  rw [e2]
  simp only
  rw [e3]
  simp only
  rw [if_neg (by omega)]
  have e4 : ((k.toNat : Nat) : Int) = k := by omega
  rw [e4]
  simp [tmB, Nat.add_assoc]
theorem rdTms_wrote : ∀ (R : List Lt) (P : List Lt) (pre : List UInt8) (last : Int), (∀ x ∈ R, FitL x) → R.Pairwise (fun a b => a.1 ≤ b.1) → (∀ x ∈ R, last ≤ x.1) → ((P ++ R).map (·.2)).Nodup →
    rdTms (pre ++ R.flatMap tmB) R.length pre.length last P = .ok (P ++ R, (pre ++ R.flatMap tmB).length)
  | [], P, pre, last, _, _, _, _ => by simp [rdTms]
  | x :: R, P, pre, last, hf, hs, hl, hn => by
    have hx := hf x List.mem_cons_self
    have h1 := rdTm_wrote x hx pre (R.flatMap tmB)
    have e : pre ++ (x :: R).flatMap tmB = pre ++ tmB x ++ R.flatMap tmB := by simp
    rw [e]
    show rdTms _ (R.length + 1) _ _ _ = _
    unfold rdTms
    rw [h1]
    simp only
    rw [if_neg (by have := hl x List.mem_cons_self; omega)]
    have hnb : ¬ namedB P x.2.1 x.2.2 = true := by
      rw [namedB_is]
      rintro ⟨y, hy, e1, e2⟩
      rw [List.map_append, List.nodup_append] at hn
      exact hn.2.2 y.2 (List.mem_map.2 ⟨y, hy, rfl⟩) x.2 (List.mem_map.2 ⟨x, List.mem_cons_self, rfl⟩) (Prod.ext e1 e2)
    rw [if_neg hnb]
    have := rdTms_wrote R (P ++ [x]) (pre ++ tmB x) x.1 (fun y hy => hf y (List.mem_cons_of_mem _ hy)) (List.pairwise_cons.1 hs).2 (fun y hy => (List.pairwise_cons.1 hs).1 y hy) (by simpa using hn)
    rw [this]
    simp
theorem rdTab_wrote (L : List Lt) (hf : ∀ x ∈ L, FitL x) (hs : SrtL L) (hn : (L.map (·.2)).Nodup) (hl : L.length ≤ 4096) : rdTab (tabB L) = .ok (L, (tabB L).length) := by
  unfold rdTab tabB
  rw [Cd.rdUint_wrote _ (by omega)]
  simp only
  rw [if_neg (by omega)]
  have := rdTms_wrote L [] (Cd.uB L.length) (-9223372036854775808) hf hs (fun x hx => (hf x hx).1.1) (by simpa using hn)
  simpa using this
end Go.Proofs.Yteondokncalbnaa
