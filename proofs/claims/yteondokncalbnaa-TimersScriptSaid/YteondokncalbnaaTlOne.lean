/- timers: one timer read of bytes. -/
import Derived.Test.YteondokncalbnaaTlRead
import Derived.Test.YteondokncalbnaaTlOps
import Derived.Test.YteondokncalbnaaCodeIn
namespace Go.Proofs.Yteondokncalbnaa
open Go.RowKit

theorem in_drop {w : World} {A : Option Addr} {len cap a : Nat} {l : List UInt8} (h : In w A len cap l) (hk : a ≤ l.length) : In w (if cap = a then A else Option.map (fun x => x.add a) A) (l.length - a) (cap - a) (l.drop a) := by
  have hc := h.cap_le
  refine ⟨?_, ?_, ?_⟩
  · have := h.bs.cut (A' := if cap = a then A else Option.map (fun x => x.add a) A) a l.length hk (Nat.le_refl _) (fun ad hlt e => by rw [if_neg (by omega), e]; rfl)
    rw [List.take_of_length_le (by simp)] at this
    exact this
  · intro ad e h0
    simp at h0
    rw [if_neg (by omega)] at e
    cases A with
    | none => simp at e
    | some ad' =>
      simp at e
      subst e
      rw [add_block]
      exact h.lt ad' rfl (by omega)
  · simp; omega
theorem rdUint_le {l : List UInt8} {a x n : Nat} (h : Cd.rdUint l a = .ok (x, n)) : n ≤ l.length := (Cd.rdUint_lt h).2.2
theorem rdInt_le {l : List UInt8} {a n : Nat} {x : Int} (h : Cd.rdInt l a = .ok (x, n)) : n ≤ l.length := by
  unfold Cd.rdInt at h
  cases e : Cd.rdUint l a with
  | error q => rw [e] at h; cases h
  | ok q =>
    obtain ⟨m, to⟩ := q
    rw [e] at h
    injection h with h
    injection h with h1 h2
    subst h2
    exact (Cd.rdUint_lt e).2.2
theorem rdText_le {l : List UInt8} {a n : Nat} {x : List UInt8} (h : Cd.rdText l a = .ok (x, n)) : n ≤ l.length ∧ x.length ≤ l.length := by
  unfold Cd.rdText at h
  cases e : Cd.rdUint l a with
  | error q => rw [e] at h; cases h
  | ok q =>
    obtain ⟨m, to⟩ := q
    rw [e] at h
    have := rdUint_le e
    change Cd.rdBytes l m to = _ at h
    unfold Cd.rdBytes at h
    split at h
    · injection h with h; injection h with h1 h2; subst h1 h2; simp; omega
    · cases h
theorem rdU_er {l : List UInt8} {p en : Nat} : ∀ (f a i n : Nat), a ≤ l.length → Cd.rdU l f a i n = .error (p, en) → p ≤ l.length ∧ (en = 3 ∨ en = 4) := by
  intro f
  induction f with
  | zero => intro a i n ha h; simp [Cd.rdU] at h; omega
  | succ f ih =>
    intro a i n ha h
    by_cases h0 : a < l.length
    · by_cases h1 : (l[a].toNat = 0 ∧ 0 < i) ∨ (i = 9 ∧ l[a].toNat ≠ 1)
      · rw [Cd.rdU_bad h0 h1] at h; injection h with h; injection h with h2 h3; omega
      · by_cases h2 : l[a].toNat < 128
        · rw [Cd.rdU_end h0 h1 h2] at h; cases h
        · rw [Cd.rdU_more h0 h1 h2] at h; exact ih _ _ _ (by omega) h
    · rw [Cd.rdU_short h0] at h; injection h with h; injection h with h2 h3; omega
theorem rdUint_er {l : List UInt8} {a p en : Nat} (ha : a ≤ l.length) (h : Cd.rdUint l a = .error (p, en)) : p ≤ l.length ∧ (en = 3 ∨ en = 4) := rdU_er 10 a 0 0 ha h
theorem rdInt_er {l : List UInt8} {a p en : Nat} (ha : a ≤ l.length) (h : Cd.rdInt l a = .error (p, en)) : p ≤ l.length ∧ (en = 3 ∨ en = 4) := by
  unfold Cd.rdInt at h
  cases e : Cd.rdUint l a with
  | error q => rw [e] at h; injection h with h; subst h; exact rdUint_er ha e
  | ok q => rw [e] at h; cases h
theorem rdText_er {l : List UInt8} {a p en : Nat} (ha : a ≤ l.length) (h : Cd.rdText l a = .error (p, en)) : p ≤ l.length ∧ (en = 3 ∨ en = 4) := by
  unfold Cd.rdText at h
  cases e : Cd.rdUint l a with
  | error q => rw [e] at h; injection h with h; subst h; exact rdUint_er ha e
  | ok q =>
    obtain ⟨m, to⟩ := q
    rw [e] at h
    change Cd.rdBytes l m to = _ at h
    unfold Cd.rdBytes at h
    split at h
    · cases h
    · injection h with h; injection h with h1 h2; omega
theorem results_T3 {P : Program} {fn : Func} {p u v : Tmp} {ty : TypeId} (h : fn.results = #[.cell p ty, .tmp u, .tmp v]) (tmps : Array Value) (w : World) (g : Nat) (t : TypeId) (cs : Array Value) (fr : Nat × Nat) (d : TypeDesc)
    (hp : tmps.getD p undef = .pointer (some ⟨g, 0, none⟩)) (hg : w.heap[g]? = some (.cells cs t fr))
    (hu : P.underlying ty = some d) (hd : (match d with | .struct _ | .array _ _ => true | _ => false) = true) (hi : (P.info? ty).map (·.size) = some cs.size) :
    (results fn tmps).run P w = .ok (.tuple #[.agg cs, tmps.getD u undef, tmps.getD v undef]) w := by
  have hp' : tmps[p]?.getD undef = .pointer (some ⟨g, 0, none⟩) := by simpa using hp
  simp [results, h, hp', asAddr, run_loadVar_row w g t ty cs fr d hg hu hd hi]
def maxI : Nat := 9223372036854775807
theorem and_max (n : Nat) (h : n < 18446744073709551616) : bits .and .u64 (n : Int) 9223372036854775807 = ((n % 9223372036854775808 : Nat) : Int) := by
  have h1 := u64_and_nat n 9223372036854775807 h (by omega)
  have h2 : n &&& 9223372036854775807 = n % 9223372036854775808 := Nat.and_two_pow_sub_one_eq_mod n 63
  rw [h2] at h1
  exact h1
/-- what 'one' hands back -/
def OneY (w : World) (l : List UInt8) (a : Nat) (e : Ending) (w' : World) : Prop :=
  (∃ d o k to en, e = .returned (.tuple #[.agg #[.int .i64 d, .string o, .int .i64 k], .int .i64 ((to : Nat) : Int), .int .i64 ((en : Nat) : Int)]) ∧
    ((en = 0 ∧ rdTm l a = .ok ((d, o, k), to) ∧ to ≤ l.length ∧ o.size ≤ l.length ∧ (-9223372036854775808 ≤ d ∧ d ≤ 9223372036854775807) ∧ 0 ≤ k) ∨ ((((en : Nat) : Int) == 0) = false ∧ rdTm l a = .error (to, en)))) ∧ Below w.heap.size w w'
theorem rdInt_in {l : List UInt8} {a n : Nat} {x : Int} (h : Cd.rdInt l a = .ok (x, n)) : -9223372036854775808 ≤ x ∧ x ≤ 9223372036854775807 := by
  unfold Cd.rdInt at h
  cases e : Cd.rdUint l a with
  | error q => rw [e] at h; cases h
  | ok q =>
    obtain ⟨m, to⟩ := q
    rw [e] at h
    have := (Cd.rdUint_lt e).1
    injection h with h
    injection h with h1 h2
    subst h1
    unfold Cd.unzig
    split <;> omega
theorem one_er1 {l : List UInt8} {a p en : Nat} (ha : a ≤ l.length) (h : Cd.rdInt (l.drop a) 0 = .error (p, en)) : rdTm l a = .error (a + p, en) ∧ p ≤ l.length - a ∧ (en = 3 ∨ en = 4) := by
  have h1 := rdInt_shft ha
  rw [h] at h1
  have h2 := rdInt_er (Nat.zero_le _) h
  rw [List.length_drop] at h2
  refine ⟨?_, h2⟩
  unfold rdTm
  rw [← h1]
  rfl
theorem one_er2 {l : List UInt8} {a n1 p en : Nat} {d : Int} (ha : a ≤ l.length) (h1 : Cd.rdInt (l.drop a) 0 = .ok (d, n1)) (h : Cd.rdText (l.drop (a + n1)) 0 = .error (p, en)) : a + n1 ≤ l.length ∧ rdTm l a = .error (a + n1 + p, en) ∧ p ≤ l.length - (a + n1) ∧ (en = 3 ∨ en = 4) := by
  have k1 := rdInt_shft ha
  rw [h1] at k1
  have g1 := rdInt_le h1
  rw [List.length_drop] at g1
  have hb : a + n1 ≤ l.length := by omega
  have k2 := rdText_shft hb
  rw [h] at k2
  have h2 := rdText_er (Nat.zero_le _) h
  rw [List.length_drop] at h2
  refine ⟨hb, ?_, h2⟩
  unfold rdTm
  rw [← k1]
  simp only [shft]
  rw [← k2]
  rfl
theorem one_er3 {l : List UInt8} {a n1 n2 p en : Nat} {d : Int} {s : List UInt8} (ha : a ≤ l.length) (h1 : Cd.rdInt (l.drop a) 0 = .ok (d, n1)) (h2 : Cd.rdText (l.drop (a + n1)) 0 = .ok (s, n2)) (h : Cd.rdUint (l.drop (a + n1 + n2)) 0 = .error (p, en)) : rdTm l a = .error (a + n1 + n2 + p, en) ∧ p ≤ l.length - (a + n1 + n2) ∧ (en = 3 ∨ en = 4) := by
  have k1 := rdInt_shft ha
  rw [h1] at k1
  have g1 := rdInt_le h1
  rw [List.length_drop] at g1
  have hb : a + n1 ≤ l.length := by omega
  have k2 := rdText_shft hb
  rw [h2] at k2
  have g2 := (rdText_le h2).1
  rw [List.length_drop] at g2
  have hc : a + n1 + n2 ≤ l.length := by omega
  have k3 := rdUint_shft hc
  rw [h] at k3
  have e3 := rdUint_er (Nat.zero_le _) h
  rw [List.length_drop] at e3
  refine ⟨?_, e3⟩
  unfold rdTm
  rw [← k1]
  simp only [shft]
  rw [← k2]
  simp only [shft]
  rw [← k3]
  rfl
theorem one_ok {l : List UInt8} {a n1 n2 n3 n : Nat} {d : Int} {s : List UInt8} (ha : a ≤ l.length) (h1 : Cd.rdInt (l.drop a) 0 = .ok (d, n1)) (h2 : Cd.rdText (l.drop (a + n1)) 0 = .ok (s, n2)) (h : Cd.rdUint (l.drop (a + n1 + n2)) 0 = .ok (n, n3)) : (a + n1 ≤ l.length ∧ a + n1 + n2 ≤ l.length ∧ a + n1 + n2 + n3 ≤ l.length ∧ s.length ≤ l.length ∧ n < 18446744073709551616 ∧ (-9223372036854775808 ≤ d ∧ d ≤ 9223372036854775807)) ∧ rdTm l a = if 9223372036854775807 < n then .error (a + n1 + n2, 1) else .ok ((d, ⟨s.toArray⟩, (n : Int)), a + n1 + n2 + n3) := by
  have k1 := rdInt_shft ha
  rw [h1] at k1
  have g1 := rdInt_le h1
  rw [List.length_drop] at g1
  have hb : a + n1 ≤ l.length := by omega
  have k2 := rdText_shft hb
  rw [h2] at k2
  have g2 := rdText_le h2
  rw [List.length_drop] at g2
  have hc : a + n1 + n2 ≤ l.length := by omega
  have k3 := rdUint_shft hc
  rw [h] at k3
  have g3 := Cd.rdUint_lt h
  rw [List.length_drop] at g3
  refine ⟨⟨hb, hc, by omega, by omega, g3.1, rdInt_in h1⟩, ?_⟩
  unfold rdTm
  rw [← k1]
  simp only [shft]
  rw [← k2]
  simp only [shft]
  rw [← k3]
  rfl
end Go.Proofs.Yteondokncalbnaa
