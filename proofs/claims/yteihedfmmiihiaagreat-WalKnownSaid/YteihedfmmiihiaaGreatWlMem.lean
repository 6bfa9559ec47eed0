/- wal: what is saved, in memory: entries that can be read. -/
import Derived.Test.YteihedfmmiihiaaGreatBlk
import Derived.Test.YteihedfmmiihiaaGreatWmA
import Derived.Test.YteihedfmmiihiaaGreatProg
namespace Go.Proofs.YteihedfmmiihiaaGreat
open Go.RowKit

def enC (x : En) : List Value := [.int .i64 x.term, .string x.data]
theorem enC_len (x : En) : (enC x).length = 2 := rfl
/-- entries that can be read, at whatever place -/
def Ens (w : World) (A : Option Addr) (L : List En) : Prop :=
  ∀ k (hk : k < L.length), ∃ g o cs, A = some ⟨g, o, none⟩ ∧ w.heap[g]? = some (.cells cs 29 (0, 0)) ∧ w.cell? ⟨g, o + k * 2, none⟩ = some (.int .i64 L[k].term) ∧ w.cell? ⟨g, o + k * 2 + 1, none⟩ = some (.string L[k].data)
section
variable {w w' : World} {A : Option Addr} {L : List En} {S : Nat → Prop}
theorem Ens.nil (w : World) (A : Option Addr) : Ens w A [] := fun k hk => absurd hk (Nat.not_lt_zero _)
theorem Ens.keep (h : Ens w A L) (k : Turns S w w') (hS : ∀ g cs, w.heap[g]? = some (.cells cs 29 (0, 0)) → A.map Addr.block = some g → ¬ S g) : Ens w' A L := fun i hi => by
  obtain ⟨g, o, cs, rfl, hb, h0, h1⟩ := h i hi
  have hlt := (Array.getElem?_eq_some_iff.1 hb).1
  have hn := hS g cs hb rfl
  exact ⟨g, o, cs, rfl, (k.block g hlt hn).trans hb, (k.cell (p := ⟨g, o + i * 2, none⟩) hlt hn).trans h0, (k.cell (p := ⟨g, o + i * 2 + 1, none⟩) hlt hn).trans h1⟩
theorem Ens.bel (h : Ens w A L) (k : Below w.heap.size w w') : Ens w' A L := h.keep (.of_below (S := fun _ => False) k) (fun _ _ _ _ => id)
theorem Ens.of_own {B n c : Nat} (h : w.ownsRow B 29 2 (.slice A n c) n (L.flatMap enC)) (hn : n = L.length) : Ens w A L := fun k hk => by
  subst hn
  obtain ⟨g, cap', e, _, hg, _⟩ := own_at h (by omega)
  injection e with eA _ ec
  subst eA ec
  have hc : ∀ j, j < 2 → w.cell? ⟨g, k * 2 + j, none⟩ = (enC L[k])[j]? := fun j hj => by
    rw [h.cellAt _ (by omega), flat_get enC 2 enC_len L k j hj, List.getElem?_eq_getElem hk]
    rfl
  have hb : ∃ cs, w.heap[g]? = some (.cells cs 29 (0, 0)) := by
    rcases h.2 with ⟨e, e2⟩ | ⟨g', cap2, cur, e, _, hh, _⟩
    · cases e
    · injection e with e1 _ _
      injection e1 with e1
      injection e1 with e1 _ _
      subst e1
      exact ⟨cur, hh⟩
  obtain ⟨cs, hb⟩ := hb
  refine ⟨g, 0, cs, rfl, hb, ?_, ?_⟩
  · have := hc 0 (by omega)
    rw [Nat.zero_add]
    rw [Nat.add_zero] at this
    exact this
  · have := hc 1 (by omega)
    rw [Nat.zero_add]
    exact this
theorem Ens.take (h : Ens w A L) (n : Nat) : Ens w A (L.take n) := fun k hk => by
  rw [List.length_take] at hk
  obtain ⟨g, o, cs, e, hb, h0, h1⟩ := h k (by omega)
  exact ⟨g, o, cs, e, hb, by rw [h0, List.getElem_take], by rw [h1, List.getElem_take]⟩
theorem Ens.drop {g o : Nat} (h : Ens w (some ⟨g, o, none⟩) L) (n : Nat) : Ens w (some ⟨g, o + n * 2, none⟩) (L.drop n) := fun k hk => by
  rw [List.length_drop] at hk
  obtain ⟨g', o', cs, e, hb, h0, h1⟩ := h (n + k) (by omega)
  have e1 := congrArg Addr.block (Option.some.inj e)
  have e2 := congrArg Addr.off (Option.some.inj e)
  simp only at e1 e2
  subst e1 e2
  refine ⟨_, _, cs, rfl, hb, ?_, ?_⟩
  · rw [show o + n * 2 + k * 2 = o + (n + k) * 2 from by omega, h0, List.getElem_drop]
  · rw [show o + n * 2 + k * 2 + 1 = o + (n + k) * 2 + 1 from by omega, h1, List.getElem_drop]
/-- cell by cell, for an append -/
theorem Ens.adds {g o : Nat} (h : Ens w (some ⟨g, o, none⟩) L) : ∀ j u, (L.flatMap enC)[j]? = some u → w.cell? ((⟨g, o, none⟩ : Addr).add j) = some u := fun j u hj => by
  have ha : (⟨g, o, none⟩ : Addr).add j = ⟨g, o + j, none⟩ := by unfold Addr.add; split <;> simp_all
  rw [ha]
  have hj2 : j = j / 2 * 2 + j % 2 := by omega
  have hf := flat_get enC 2 enC_len L (j / 2) (j % 2) (by omega)
  rw [← hj2, hj] at hf
  have hk : j / 2 < L.length := by
    have := (List.getElem?_eq_some_iff.1 hj).1
    rw [flat_len enC 2 enC_len] at this
    omega
  rw [List.getElem?_eq_getElem hk] at hf
  obtain ⟨g', o', cs, e, hb, h0, h1⟩ := h (j / 2) hk
  have e1 := congrArg Addr.block (Option.some.inj e)
  have e2 := congrArg Addr.off (Option.some.inj e)
  simp only at e1 e2
  subst e1 e2
  rcases Nat.mod_two_eq_zero_or_one j with hm | hm
  · rw [hm] at hf hj2
    rw [show o + j = o + j / 2 * 2 from by omega, h0]
    simpa [enC] using hf.symm
  · rw [hm] at hf hj2
    rw [show o + j = o + j / 2 * 2 + 1 from by omega, h1]
    simpa [enC] using hf.symm
end
/-- a slice of entries -/
structure Lg (w : World) (A : Option Addr) (n c : Nat) (L : List En) : Prop where
  len : n = L.length
  cap : n ≤ c ∧ c ≤ maxLen
  nil : A = none → n = 0 ∧ c = 0
  ens : Ens w A L
section
variable {w w' : World} {A : Option Addr} {n c : Nat} {L : List En} {S : Nat → Prop}
theorem Lg.keep (h : Lg w A n c L) (k : Turns S w w') (hS : ∀ g cs, w.heap[g]? = some (.cells cs 29 (0, 0)) → A.map Addr.block = some g → ¬ S g) : Lg w' A n c L := ⟨h.len, h.cap, h.nil, h.ens.keep k hS⟩
theorem Lg.bel (h : Lg w A n c L) (k : Below w.heap.size w w') : Lg w' A n c L := ⟨h.len, h.cap, h.nil, h.ens.bel k⟩
theorem Lg.none (w : World) : Lg w none 0 0 [] := ⟨rfl, ⟨Nat.le_refl _, Nat.zero_le _⟩, fun _ => ⟨rfl, rfl⟩, .nil _ _⟩
theorem Lg.of_own {B : Nat} (h : w.ownsRow B 29 2 (.slice A n c) n (L.flatMap enC)) (hn : n = L.length) : Lg w A n c L := by
  refine ⟨hn, ?_, ?_, .of_own h hn⟩
  · rcases h.2 with ⟨e, e2⟩ | ⟨g, cap', cur, e, _, _, h5, h6, _⟩
    · injection e with _ e2 e3
      subst e2 e3
      exact ⟨Nat.le_refl _, Nat.zero_le _⟩
    · injection e with _ e2 e3
      subst e3
      exact ⟨h5, h6⟩
  · intro e0
    rcases h.2 with ⟨e, e2⟩ | ⟨g, cap', cur, e, _⟩
    · injection e with _ e2 e3
      exact ⟨e2, e3⟩
    · injection e with e1
      rw [e0] at e1
      cases e1
end
/-- what is saved, as a value -/
def svV (term vote : Int) (A : Option Addr) (n c : Nat) : Value := .agg #[.int .i64 term, .int .i64 vote, .slice A n c]
end Go.Proofs.YteihedfmmiihiaaGreat
