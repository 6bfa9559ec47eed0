/- Plain laws: what is read as an event, as a history, has just the bytes that were taken. -/
import Derived.Test.YticipdjfkpakpaaEvReads
import Derived.Test.YticipdjfkpakpaaEvPack
namespace Go.Proofs.Yticipdjfkpakpaa
open Go.RowKit

theorem sub_drop (l : List UInt8) (t a b : Nat) : sub (l.drop t) a b = sub l (t + a) (t + b) := by
  unfold sub
  rw [List.drop_drop, show t + b - (t + a) = b - a from by omega]
theorem rdText_canon {l : List UInt8} {a tn : Nat} {s : List UInt8} (h : Cd.rdText l a = .ok (s, tn)) : Cd.textB s = sub l a tn := by
  unfold Cd.rdText at h
  cases hu : Cd.rdUint l a with
  | error q => rw [hu] at h; cases h
  | ok q =>
    obtain ⟨n, m⟩ := q
    rw [hu] at h
    have hc := rdUint_canon hu
    have hl := Cd.rdUint_lt hu
    simp only [Cd.rdBytes] at h
    by_cases hb : n ≤ l.length - m
    · rw [if_pos hb] at h
      injection h with h
      injection h with h1 h2
      subst h1 h2
      have hn : ((l.drop m).take n).length = n := by simp; omega
      unfold Cd.textB
      rw [hn, hc, ← sub_append (by omega : a ≤ m) (by omega : m ≤ m + n)]
      congr 1
      unfold sub
      rw [show m + n - m = n from by omega]
    · rw [if_neg hb] at h; cases h
theorem rdInt_canon {l : List UInt8} {a tn : Nat} {i : Int} (h : Cd.rdInt l a = .ok (i, tn)) : Cd.uB (Cd.zig i) = sub l a tn := by
  unfold Cd.rdInt at h
  cases hu : Cd.rdUint l a with
  | error q => rw [hu] at h; cases h
  | ok q =>
    obtain ⟨n, m⟩ := q
    rw [hu] at h
    injection h with h
    injection h with h1 h2
    subst h1 h2
    rw [zig_unzig]
    exact rdUint_canon hu
theorem rdValue_canon {l : List UInt8} {tn : Nat} {xs : List Nd} (h : rdValue l = .ok (xs, tn)) : flatB xs = sub l 0 tn := by
  obtain ⟨sz, hI⟩ := rdValue_inv h
  exact hI.bytes

theorem stp_bytes {α : Type} {is : Bool} {zero : α} {f : List UInt8 → Except (Nat × Nat) (α × Nat)} {l : List UInt8} {a en : Nat} (hf : ∀ m p e, f m = .error (p, e) → e ≠ 0) (B : α → List UInt8)
    (hb : ∀ m x n, f m = .ok (x, n) → B x = sub m 0 n ∧ n ≤ m.length) (ht : a ≤ l.length) (h : (stp is zero f l a en).2.2 = 0) :
    (if is = true then B (stp is zero f l a en).1 else []) = sub l a (stp is zero f l a en).2.1 ∧ a ≤ (stp is zero f l a en).2.1 ∧ (stp is zero f l a en).2.1 ≤ l.length := by
  have he := stp_en h
  subst he
  cases is with
  | false => exact ⟨(sub_self l a).symm, Nat.le_refl _, ht⟩
  | true =>
    obtain ⟨n, h1, h2⟩ := stp_ok hf rfl h
    obtain ⟨h3, h4⟩ := hb _ _ _ h1
    rw [h2]
    simp at h4
    refine ⟨?_, by omega, by omega⟩
    rw [if_pos rfl, h3, sub_drop, Nat.add_zero]

theorem evStp_bytes {l : List UInt8} {a k : Nat} (ha : a < l.length) (hk : UInt8.ofNat k = l[a]) (h : (evStp l a k).2.2 = 0) (hid : (evStp l a k).1.id ≤ 499) :
    evB (evStp l a k).1 = sub l a (evStp l a k).2.1 ∧ a < (evStp l a k).2.1 ∧ (evStp l a k).2.1 ≤ l.length := by
  generalize hs1 : stp (hasId k) 0 (fun m => Cd.rdUint m 0) l (a + 1) 0 = s1
  generalize hs2 : stp (hasName k) [] (fun m => Cd.rdText m 0) l s1.2.1 s1.2.2 = s2
  generalize hs3 : stp (hasValue k) [] rdValue l s2.2.1 s2.2.2 = s3
  generalize hs4 : stp (hasInt k) 0 (fun m => Cd.rdInt m 0) l s3.2.1 s3.2.2 = s4
  have E := evStp_is l a k hs1 hs2 hs3 hs4
  rw [E] at h hid ⊢
  simp only at h hid ⊢
  have g4 : (stp (hasInt k) 0 (fun m => Cd.rdInt m 0) l s3.2.1 s3.2.2).2.2 = 0 := by rw [hs4]; exact h
  have g3 : (stp (hasValue k) [] rdValue l s2.2.1 s2.2.2).2.2 = 0 := by rw [hs3]; exact stp_en g4
  have g2 : (stp (hasName k) [] (fun m => Cd.rdText m 0) l s1.2.1 s1.2.2).2.2 = 0 := by rw [hs2]; exact stp_en g3
  have g1 : (stp (hasId k) 0 (fun m => Cd.rdUint m 0) l (a + 1) 0).2.2 = 0 := by rw [hs1]; exact stp_en g2
  have b1 := stp_bytes (fun m p e => rdUint_errno') Cd.uB (fun m x n hx => ⟨rdUint_canon hx, (Cd.rdUint_lt hx).2.2⟩) (by omega) g1
  rw [hs1] at b1
  have b2 := stp_bytes (fun m p e => rdText_errno) Cd.textB (fun m x n hx => ⟨rdText_canon hx, rdText_le hx⟩) b1.2.2 g2
  rw [hs2] at b2
  have b3 := stp_bytes (fun m p e => rdValue_errno) flatB (fun m x n hx => ⟨rdValue_canon hx, rdValue_le hx⟩) b2.2.2 g3
  rw [hs3] at b3
  have b4 := stp_bytes (fun m p e => rdInt_errno) (fun i => Cd.uB (Cd.zig i)) (fun m x n hx => ⟨rdInt_canon hx, rdInt_le hx⟩) b3.2.2 g4
  rw [hs4] at b4
  refine ⟨?_, by omega, b4.2.2⟩
  have hm : min s1.1 500 = s1.1 := by omega
  unfold evB
  simp only [hm]
  rw [b1.1, b2.1, b3.1, b4.1, hk, show [l[a]] = sub l a (a + 1) from by rw [sub_cons ha (Nat.le_refl _), sub_self], sub_append (by omega) b1.2.1, sub_append (by omega) b2.2.1, sub_append (by omega) b3.2.1, sub_append (by omega) b4.2.1]

theorem rdEv_ok {l : List UInt8} {a t : Nat} {x : Ev} (hl : l.length ≤ 1000000) (h : rdEv l a = .ok (x, t)) : EvRaw x ∧ evOk x = true ∧ evB x = sub l a t ∧ a < t ∧ t ≤ l.length := by
  by_cases ha : a < l.length
  · by_cases hk : 1 ≤ l[a].toNat ∧ l[a].toNat ≤ 12
    · rw [rdEv_good ha hk] at h
      unfold evRes at h
      by_cases h0 : (evStp l a l[a].toNat).2.2 = 0
      · rw [if_pos h0] at h
        by_cases hok : evOk (evStp l a l[a].toNat).1 = true
        · rw [if_pos hok] at h
          injection h with h
          injection h with h1 h2
          subst h1 h2
          have hid : (evStp l a l[a].toNat).1.id ≤ 499 := by
            have := hok
            simp only [evOk, Bool.and_eq_true, decide_eq_true_eq] at this
            exact this.1.1.1.1.1
          have hb := evStp_bytes ha (UInt8.ofNat_toNat) h0 hid
          exact ⟨evStp_raw hk hl h0, hok, hb⟩
        · rw [if_neg hok] at h; cases h
      · rw [if_neg h0] at h; cases h
    · unfold rdEv at h; rw [dif_pos ha, if_pos (by omega)] at h; cases h
  · unfold rdEv at h; rw [dif_neg ha] at h; cases h

theorem rdEvs_ok {l : List UInt8} (hl : l.length ≤ 1000000) : ∀ (n a : Nat) (acc es : List Ev) (t : Nat), a ≤ l.length → rdEvs l n a acc = .ok (es, t) →
    ∃ es', es = acc ++ es' ∧ es'.length = n ∧ es'.flatMap evB = sub l a l.length ∧ t = l.length ∧ ∀ x ∈ es', EvRaw x ∧ evOk x = true := by
  intro n
  induction n with
  | zero =>
    intro a acc es t ha h
    unfold rdEvs at h
    by_cases hlt : a < l.length
    · rw [if_pos hlt] at h; cases h
    · rw [if_neg hlt] at h
      injection h with h
      injection h with h1 h2
      subst h1 h2
      obtain rfl : a = l.length := by omega
      exact ⟨[], by simp, rfl, by rw [sub_self]; rfl, rfl, by simp⟩
  | succ n ih =>
    intro a acc es t ha h
    unfold rdEvs at h
    cases hr : rdEv l a with
    | error q => rw [hr] at h; cases h
    | ok q =>
      obtain ⟨x, t1⟩ := q
      rw [hr] at h
      obtain ⟨r1, r2, r3, r4, r5⟩ := rdEv_ok hl hr
      obtain ⟨es', e1, e2, e3, e4, e5⟩ := ih t1 (acc ++ [x]) es t r5 h
      refine ⟨x :: es', by rw [e1]; simp, by simp [e2], ?_, e4, ?_⟩
      · rw [List.flatMap_cons, r3, e3, sub_append (by omega) (by omega)]
      · intro y hy
        rcases List.mem_cons.1 hy with rfl | hy
        · exact ⟨r1, r2⟩
        · exact e5 y hy
theorem rdHist_ok {l : List UInt8} {es : List Ev} {t : Nat} (hl : l.length ≤ 1000000) (h : rdHist l = .ok (es, t)) : t = l.length ∧ packB es = l ∧ es.length ≤ 4096 ∧ ∀ x ∈ es, EvRaw x ∧ evOk x = true := by
  unfold rdHist at h
  cases hu : Cd.rdUint l 0 with
  | error q => rw [hu] at h; cases h
  | ok q =>
    obtain ⟨n, m⟩ := q
    rw [hu] at h
    simp only at h
    by_cases hn : 4096 < n
    · rw [if_pos hn] at h; cases h
    · rw [if_neg hn] at h
      have hlt := Cd.rdUint_lt hu
      obtain ⟨es', e1, e2, e3, e4, e5⟩ := rdEvs_ok hl n m [] es t hlt.2.2 h
      rw [List.nil_append] at e1
      subst e1
      refine ⟨e4, ?_, by omega, e5⟩
      unfold packB
      rw [e2, e3, rdUint_canon hu, sub_append (by omega) hlt.2.2]
      unfold sub
      simp
end Go.Proofs.Yticipdjfkpakpaa
