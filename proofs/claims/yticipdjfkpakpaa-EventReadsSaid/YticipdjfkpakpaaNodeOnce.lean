/- Plain laws: what is read as a value is a value, and its bytes are those that were taken. -/
import Derived.Test.YticipdjfkpakpaaNodePutV
namespace Go.Proofs.Yticipdjfkpakpaa
open Go.RowKit

/-- the bytes from a place up to another -/
def sub (l : List UInt8) (a b : Nat) : List UInt8 := (l.drop a).take (b - a)
theorem sub_cons {l : List UInt8} {a b : Nat} (h : a < l.length) (hb : a + 1 ≤ b) : sub l a b = l[a] :: sub l (a + 1) b := by
  unfold sub
  rw [List.drop_eq_getElem_cons h, show b - a = (b - (a + 1)) + 1 from by omega, List.take_succ_cons]
theorem sub_self (l : List UInt8) (a : Nat) : sub l a a = [] := by simp [sub]
theorem sub_append {l : List UInt8} {a b c : Nat} (h1 : a ≤ b) (h2 : b ≤ c) : sub l a b ++ sub l b c = sub l a c := by
  unfold sub
  rw [show c - a = (b - a) + (c - b) from by omega, List.take_add, List.drop_drop, show a + (b - a) = b from by omega]
theorem sub_length {l : List UInt8} {a b : Nat} (h1 : a ≤ b) (h2 : b ≤ l.length) : (sub l a b).length = b - a := by simp [sub]; omega

theorem rdU_canon {l : List UInt8} : ∀ (f a i n x tn : Nat), Cd.rdU l f a i n = .ok (x, tn) → ∃ m, x = n + m * 2 ^ (7 * i) ∧ Cd.uB m = sub l a tn ∧ (0 < i → m ≠ 0) ∧ a < tn ∧ tn ≤ l.length := by
  intro f
  induction f with
  | zero => intro a i n x tn h; simp [Cd.rdU] at h
  | succ f ih =>
    intro a i n x tn h
    by_cases ha : a < l.length
    · by_cases hb : (l[a].toNat = 0 ∧ 0 < i) ∨ (i = 9 ∧ l[a].toNat ≠ 1)
      · rw [Cd.rdU_bad ha hb] at h; cases h
      · by_cases hc : l[a].toNat < 128
        · rw [Cd.rdU_end ha hb hc] at h
          injection h with h
          injection h with h1 h2
          subst h1 h2
          refine ⟨l[a].toNat, by rw [Nat.mod_eq_of_lt hc], ?_, by omega, by omega, by omega⟩
          rw [sub_cons ha (Nat.le_refl _), sub_self, Cd.uB_lt hc, UInt8.ofNat_toNat]
        · rw [Cd.rdU_more ha hb hc] at h
          obtain ⟨m, h1, h2, h3, h4, h5⟩ := ih _ _ _ _ _ h
          have hm := h3 (by omega)
          have hlt := l[a].toNat_lt
          refine ⟨l[a].toNat % 128 + 128 * m, ?_, ?_, by omega, by omega, h5⟩
          · rw [h1, Nat.add_mul, Nat.add_assoc]
            congr 2
            rw [show 7 * (i + 1) = 7 * i + 7 from by omega, Nat.pow_add]
            have e : (2 : Nat) ^ 7 = 128 := by decide
            rw [e, Nat.mul_comm 128 m, Nat.mul_assoc, Nat.mul_comm 128]
          · rw [sub_cons ha (by omega), Cd.uB_ge (by omega), ← h2]
            have e1 : (l[a].toNat % 128 + 128 * m) % 128 + 128 = l[a].toNat := by omega
            have e2 : (l[a].toNat % 128 + 128 * m) / 128 = m := by omega
            rw [e1, e2, UInt8.ofNat_toNat]
    · rw [Cd.rdU_short ha] at h; cases h
theorem rdUint_canon {l : List UInt8} {a x tn : Nat} (h : Cd.rdUint l a = .ok (x, tn)) : Cd.uB x = sub l a tn := by
  obtain ⟨m, h1, h2, _⟩ := rdU_canon 10 a 0 0 x tn h
  simp at h1
  subst h1
  exact h2
theorem zig_unzig (n : Nat) : Cd.zig (Cd.unzig n) = n := by
  unfold Cd.zig Cd.unzig
  split
  · split <;> omega
  · split <;> omega
theorem unzig_i64 {n : Nat} (h : n < 18446744073709551616) : I64 (Cd.unzig n) := by
  unfold I64 Cd.unzig
  split <;> omega

theorem be8_be (s : List UInt8) (h : s.length = 8) : be8 (be s) = s := by
  match s, h with
  | [a, b, c, d, e, f, g, i], _ =>
    have ha := a.toNat_lt
    have hb := b.toNat_lt
    have hc := c.toNat_lt
    have hd := d.toNat_lt
    have he := e.toNat_lt
    have hf := f.toNat_lt
    have hg := g.toNat_lt
    have hi := i.toNat_lt
    have hn : be [a, b, c, d, e, f, g, i] = 72057594037927936 * a.toNat + 281474976710656 * b.toNat + 1099511627776 * c.toNat + 4294967296 * d.toNat + 16777216 * e.toNat + 65536 * f.toNat + 256 * g.toNat + i.toNat := by
      simp only [be, List.foldl_cons, List.foldl_nil]; omega
    generalize be [a, b, c, d, e, f, g, i] = n at hn
    have e0 : n / 72057594037927936 % 256 = a.toNat := by omega
    have e1 : n / 281474976710656 % 256 = b.toNat := by omega
    have e2 : n / 1099511627776 % 256 = c.toNat := by omega
    have e3 : n / 4294967296 % 256 = d.toNat := by omega
    have e4 : n / 16777216 % 256 = e.toNat := by omega
    have e5 : n / 65536 % 256 = f.toNat := by omega
    have e6 : n / 256 % 256 = g.toNat := by omega
    have e7 : n / 1 % 256 = i.toNat := by omega
    have hr : List.range 8 = [0, 1, 2, 3, 4, 5, 6, 7] := by decide
    simp only [be8, be8To, hr, List.map_cons, List.map_nil, Nat.reduceMul, Nat.reduceSub, Nat.reducePow, e0, e1, e2, e3, e4, e5, e6, e7, UInt8.ofNat_toNat]

theorem nd0_ok (k : Nat) (h : k ≤ 5) : (nd0 k).ok := by
  have z : fine64 0 = true := by decide
  exact ⟨h, fun _ => rfl, by simp [nd0], fun _ _ => rfl, fun _ => .inl rfl, fun _ => rfl, fun _ => ⟨rfl, rfl⟩, ⟨z, z⟩, by simp [nd0], by simp [nd0]⟩

/-- what one node's reading says -/
structure RdSays (l : List UInt8) (a tn : Nat) (x : Nd) : Prop where
  ok : x.ok
  i64 : I64 x.int
  bytes : ndB x = sub l a tn

theorem head_byte {l : List UInt8} {a k : Nat} (ha : a < l.length) (h : l[a].toNat = k) : UInt8.ofNat k = l[a] := by rw [← h, UInt8.ofNat_toNat]
theorem i64_0 : I64 0 := by unfold I64; omega

theorem rdNode_says {l : List UInt8} {a size tn : Nat} {x : Nd} (h : rdNode l a size = .ok (x, tn)) : RdSays l a tn x := by
  have hlt := rdNode_lt h
  have hfi := rdNode_fine h
  have z : fine64 0 = true := by decide
  unfold rdNode at h
  by_cases ha : a < l.length
  · rw [dif_pos ha] at h
    split at h
    · rename_i hk
      injection h with h; injection h with h1 h2; subst h1 h2
      refine ⟨nd0_ok 0 (by omega), i64_0, ?_⟩
      rw [sub_cons ha (by omega), sub_self, ← head_byte ha hk]; rfl
    · split at h
      · rename_i hk
        split at h
        · rename_i ha1
          split at h
          · cases h
          · rename_i hb
            injection h with h; injection h with h1 h2; subst h1 h2
            refine ⟨⟨by simp [nd0], fun _ => rfl, by simp [nd0], fun h => by simp [nd0] at h, fun _ => by simp only; omega, fun _ => rfl, fun _ => ⟨rfl, rfl⟩, ⟨z, z⟩, by simp [nd0], by simp [nd0]⟩, by unfold I64; simp only; omega, ?_⟩
            rw [sub_cons ha (by omega), sub_cons ha1 (by omega), sub_self, ← head_byte ha hk]
            simp [ndB, tailB, nd0]
        · cases h
      · split at h
        · rename_i hk
          cases hr : Cd.rdInt l (a + 1) with
          | error e => rw [hr] at h; cases h
          | ok p =>
            obtain ⟨y, t⟩ := p
            rw [hr] at h
            injection h with h; injection h with h1 h2; subst h1 h2
            unfold Cd.rdInt at hr
            cases hu : Cd.rdUint l (a + 1) with
            | error e => rw [hu] at hr; cases hr
            | ok q =>
              obtain ⟨n, t2⟩ := q
              rw [hu] at hr
              injection hr with hr; injection hr with h1 h2; subst h1 h2
              have hn := Cd.rdUint_lt hu
              refine ⟨⟨by simp [nd0], fun _ => rfl, by simp [nd0], fun _ h => by simp [nd0] at h, fun h => by simp [nd0] at h, fun _ => rfl, fun _ => ⟨rfl, rfl⟩, ⟨z, z⟩, by simp [nd0], by simp [nd0]⟩, unzig_i64 hn.1, ?_⟩
              rw [sub_cons ha (by omega), ← head_byte ha hk, ← rdUint_canon hu]
              simp [ndB, tailB, nd0, zig_unzig]
        · split at h
          · rename_i hk
            cases hu : Cd.rdUint l (a + 1) with
            | error e => rw [hu] at h; cases h
            | ok q =>
              obtain ⟨n, t2⟩ := q
              rw [hu] at h
              have hn := Cd.rdUint_lt hu
              simp only [] at h
              split at h
              · cases h
              · unfold Cd.rdBytes at h
                by_cases hb : n ≤ l.length - t2
                · rw [if_pos hb] at h
                  injection h with h; injection h with h1 h2; subst h1 h2
                  refine ⟨⟨by simp [nd0], fun _ => rfl, by simp [nd0], fun _ _ => rfl, fun _ => .inl rfl, fun h => by simp [nd0] at h, fun _ => ⟨rfl, rfl⟩, ⟨z, z⟩, by simp [nd0], by simp [nd0]⟩, i64_0, ?_⟩
                  rw [sub_cons ha (by omega), ← head_byte ha hk, ← sub_append (b := t2) (by omega) (by omega), ← rdUint_canon hu]
                  have e1 : sub l t2 (t2 + n) = (l.drop t2).take n := by unfold sub; rw [show t2 + n - t2 = n from by omega]
                  have e2 : ((l.drop t2).take n).length = n := by simp; omega
                  rw [e1]
                  simp only [ndB, tailB, nd0, Cd.textB, e2]
                  rfl
                · rw [if_neg hb] at h; cases h
          · split at h
            · rename_i hk
              unfold rdNum at h
              by_cases hb : 16 ≤ l.length - (a + 1)
              · rw [if_pos hb] at h
                split at h
                · rename_i hq
                  split at hq
                  · injection hq with hq; injection hq with h1 h2; injection h with h; injection h with h3 h4; subst h1 h2 h3 h4
                    refine ⟨⟨by simp [nd0], fun _ => rfl, by simp [nd0], fun _ _ => rfl, fun _ => .inl rfl, fun _ => rfl, fun h => by simp [nd0] at h, hfi, be_lt8 _ (by simp; omega), be_lt8 _ (by simp; omega)⟩, i64_0, ?_⟩
                    rw [sub_cons ha (by omega), ← head_byte ha hk, ← sub_append (a := a + 1) (b := a + 1 + 8) (by omega) (by omega)]
                    have e1 : sub l (a + 1) (a + 1 + 8) = (l.drop (a + 1)).take 8 := by unfold sub; rw [show a + 1 + 8 - (a + 1) = 8 from by omega]
                    have e2 : sub l (a + 1 + 8) (a + 1 + 16) = (l.drop (a + 1 + 8)).take 8 := by unfold sub; rw [show a + 1 + 16 - (a + 1 + 8) = 8 from by omega]
                    rw [e1, e2]
                    have e3 := be8_be ((l.drop (a + 1)).take 8) (by simp; omega)
                    have e4 := be8_be ((l.drop (a + 1 + 8)).take 8) (by simp; omega)
                    simp only [ndB, tailB, nd0, numB, e3, e4]
                    rfl
                  · cases hq
                · cases h
              · rw [if_neg hb] at h; cases h
            · split at h
              · rename_i hk
                cases hu : Cd.rdUint l (a + 1) with
                | error e => rw [hu] at h; cases h
                | ok q =>
                  obtain ⟨n, t2⟩ := q
                  rw [hu] at h
                  have hn := Cd.rdUint_lt hu
                  simp only [] at h
                  split at h
                  · cases h
                  · rename_i hle
                    injection h with h; injection h with h1 h2; subst h1 h2
                    refine ⟨⟨by simp [nd0], fun h => by simp [nd0] at h, by simp only; omega, fun _ _ => rfl, fun _ => .inl rfl, fun _ => rfl, fun _ => ⟨rfl, rfl⟩, ⟨z, z⟩, by simp [nd0], by simp [nd0]⟩, i64_0, ?_⟩
                    rw [sub_cons ha (by omega), ← head_byte ha hk, ← rdUint_canon hu]
                    simp [ndB, tailB, nd0]
              · cases h
  · rw [dif_neg ha] at h; cases h
end Go.Proofs.Yticipdjfkpakpaa
