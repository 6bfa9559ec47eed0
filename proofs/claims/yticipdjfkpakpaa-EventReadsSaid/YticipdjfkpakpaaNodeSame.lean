/- Two rows of the same nodes are the same. -/
import Derived.Test.YticipdjfkpakpaaNodeRefs
import Derived.Laws.OwnMore
import Derived.Laws.StructEq
namespace Go.Proofs.Yticipdjfkpakpaa
open Go.RowKit

def Nd.fine (x : Nd) : Prop := fine64 x.re = true ∧ fine64 x.im = true

theorem float_same {x : Nat} (h : fine64 x = true) : Op.floatEq .f64 x x = true := by
  have hf : fin64 x = true := by unfold fine64 at h; simp at h; exact h.1
  show (Ieee.double.order x x == some .eq) = true
  obtain ⟨s, m, i, e, _⟩ := read_fin hf
  unfold Ieee.Format.order
  rw [e]
  simp [Ieee.Datum.order]

theorem eq_text (t : List UInt8) (w : World) : (Op.equalIn 9999 9 (strV t) (strV t)).run Try.prog w = .ok true w := by
  unfold strV
  rw [show (9999 : Nat) = 9998 + 1 from rfl, run_equalIn_string w 9998 _ _ _ Try.underlying9]
  simp
theorem eq_cx {P : Program} (w : World) (d : Nat) (t : TypeId) (k k' : FloatKind) (p q a b : Nat) (h : P.underlying t = some (.complex k')) : (Op.equalIn (d + 1) t (.complex k p q) (.complex k a b)).run P w = .ok (Op.floatEq k p a && Op.floatEq k q b) w := by
  simp [Op.equalIn, run_underlying h]
theorem eq_num (p q : Nat) (hp : fine64 p = true) (hq : fine64 q = true) (w : World) : (Op.equalIn 9999 38 (.complex .f64 p q) (.complex .f64 p q)).run Try.prog w = .ok true w := by
  rw [show (9999 : Nat) = 9998 + 1 from rfl, eq_cx w 9998 _ _ _ _ _ _ _ Try.underlying38, float_same hp, float_same hq]
  rfl
theorem eq_node (x : Nd) (hf : x.fine) (w : World) : (Op.equalIn 10000 40 (ndV x) (ndV x)).run Try.prog w = .ok true w := by
  have hS : Try.prog.underlying 40 = some (.struct (Try.prog.fieldsOf 40)) := by kernel_rfl
  have hp : Try.prog.stoodInHeld 40 = false := by kernel_rfl
  unfold ndV
  rw [show (10000 : Nat) = 9999 + 1 from rfl, run_equalIn_agg w 9999 40 _ _ hS hp]
  simp only [Program.fieldsOf, Try.underlying40]
  go_simp
  simp [eq_text, eq_num _ _ hf.1 hf.2]

theorem ndsV_at : ∀ (xs : List Nd) (k j : Nat) (hk : k < xs.length), j < 5 → (ndsV xs)[k * 5 + j]? = (xs[k]).cells[j]? := by
  intro xs
  induction xs with
  | nil => intro k j hk; simp at hk
  | cons x xs ih =>
    intro k j hk hj
    show (x.cells ++ ndsV xs)[k * 5 + j]? = _
    cases k with
    | zero => rw [Nat.zero_mul, Nat.zero_add, List.getElem?_append_left (by simp [Nd.cells]; omega)]; rfl
    | succ k =>
      rw [List.getElem?_append_right (by simp [Nd.cells]; omega)]
      have := ih k j (by simpa using hk) hj
      rw [show (k + 1) * 5 + j - x.cells.length = k * 5 + j from by simp [Nd.cells]; omega, this]
      rfl

set_option maxRecDepth 20000 in
set_option maxHeartbeats 1600000 in
theorem equal_any (w : World) (b1 b2 : Nat) (v1 v2 : Value) (xs : List Nd) (h1 : w.ownsRow b1 40 5 v1 xs.length (ndsV xs)) (h2 : w.ownsRow b2 40 5 v2 xs.length (ndsV xs)) (hf : ∀ x ∈ xs, x.fine) (hn : xs.length ≤ 1024) :
    Calls Try.prog 29 #[v1, v2] w fun e w' => e = .returned (.bool true) ∧ w.grownBy w' none := by
  obtain ⟨A1, c1, rfl⟩ := own_slice h1
  obtain ⟨A2, c2, rfl⟩ := own_slice h2
  go_enter Try.func29, Try.ntmps29
  go_wp2_with fail
  go_loopw [5] (fun i wr => ∃ (k m : Nat), i = .int .i64 k ∧ k ≤ xs.length ∧ wr = w.drewN m) (fun i _ => 1025 - (intOf i).toNat)
  case atStart => exact ⟨0, 0, rfl, by omega, rfl⟩
  case round =>
    obtain ⟨k, m, rfl, hk, rfl⟩ := hrel
    have hk1 : (k : Int) ≤ 1024 := by omega
    by_cases hlt : k < xs.length
    · have hlt1 : (k : Int) < (xs.length : Int) := by omega
      have n0 : ¬ ((k : Int) < 0) := by omega
      obtain ⟨g1, d1, e1⟩ : ∃ g cap, (Value.slice A1 xs.length c1) = .slice (some ⟨g, 0, none⟩) xs.length cap := by
        rcases h1.2 with ⟨_, h0⟩ | ⟨g, cap, cur, hv, _⟩
        · omega
        · exact ⟨g, cap, hv⟩
      obtain ⟨g2, d2, e2⟩ : ∃ g cap, (Value.slice A2 xs.length c2) = .slice (some ⟨g, 0, none⟩) xs.length cap := by
        rcases h2.2 with ⟨_, h0⟩ | ⟨g, cap, cur, hv, _⟩
        · omega
        · exact ⟨g, cap, hv⟩
      injection e1 with e1 _ e1'
      injection e2 with e2 _ e2'
      subst e1 e1' e2 e2'
      go_wp2_with fail
      have hm1 : ∀ j, j < 5 → w.cell? ⟨g1, k * 5 + j, none⟩ = (xs[k]).cells[j]? := fun j hj => (h1.cellAt (k * 5 + j) (by omega)).trans (ndsV_at xs k j hlt hj)
      have hm2 : ∀ j, j < 5 → w.cell? ⟨g2, k * 5 + j, none⟩ = (xs[k]).cells[j]? := fun j hj => (h2.cellAt (k * 5 + j) (by omega)).trans (ndsV_at xs k j hlt hj)
      have p0 := hm1 0 (by omega)
      have p1 := hm1 1 (by omega)
      have p2 := hm1 2 (by omega)
      have p3 := hm1 3 (by omega)
      have p4 := hm1 4 (by omega)
      have r0 := hm2 0 (by omega)
      have r1 := hm2 1 (by omega)
      have r2 := hm2 2 (by omega)
      have r3 := hm2 3 (by omega)
      have r4 := hm2 4 (by omega)
      rw [Nat.add_zero] at p0 r0
      simp only [Nd.cells, List.getElem?_cons_succ, List.getElem?_cons_zero] at p0 p1 p2 p3 p4 r0 r1 r2 r3 r4
      clear hm1 hm2
      have hq := eq_node xs[k] (hf _ (List.getElem_mem hlt))
      unfold ndV at hq
      go_quiet (fail)
      go_wp2_with fail
      refine ⟨⟨k + 1, m + nq, rfl, by omega, rfl⟩, ?_⟩
      show 1025 - ((k : Int) + 1).toNat < 1025 - (k : Int).toNat
      omega
    · have hlt1 : ¬ (k : Int) < (xs.length : Int) := by omega
      go_wp2_with fail
      go_ret
      exact ⟨rfl, grown_drewN (World.grownBy.refl _ _) _⟩

/-- what was read is fine, and few -/
theorem rdNode_fine {l : List UInt8} {a size tn : Nat} {x : Nd} (h : rdNode l a size = .ok (x, tn)) : x.fine := by
  have z : fine64 0 = true := by decide
  unfold rdNode at h
  by_cases ha : a < l.length
  · rw [dif_pos ha] at h
    split at h
    · injection h with h; injection h with h1 h2; subst h1; exact ⟨z, z⟩
    · split at h
      · split at h
        · split at h
          · cases h
          · injection h with h; injection h with h1 h2; subst h1; exact ⟨z, z⟩
        · cases h
      · split at h
        · cases hr : Cd.rdInt l (a + 1) with
          | error q => rw [hr] at h; cases h
          | ok q => obtain ⟨y, t⟩ := q; rw [hr] at h; injection h with h; injection h with h1 h2; subst h1; exact ⟨z, z⟩
        · split at h
          · cases hu : Cd.rdUint l (a + 1) with
            | error q => rw [hu] at h; cases h
            | ok q =>
              obtain ⟨n, t2⟩ := q
              rw [hu] at h
              simp only [] at h
              split at h
              · cases h
              · cases hb : Cd.rdBytes l n t2 with
                | error q => rw [hb] at h; cases h
                | ok q => obtain ⟨y, t⟩ := q; rw [hb] at h; injection h with h; injection h with h1 h2; subst h1; exact ⟨z, z⟩
          · split at h
            · cases hu : rdNum l (a + 1) with
              | error q => rw [hu] at h; cases h
              | ok q =>
                obtain ⟨y, t⟩ := q
                rw [hu] at h
                injection h with h; injection h with h1 h2; subst h1
                unfold rdNum at hu
                split at hu
                · split at hu
                  · rename_i hc
                    injection hu with hu; injection hu with h3 h4; subst h3
                    rw [Bool.and_eq_true] at hc
                    exact hc
                  · cases hu
                · cases hu
            · split at h
              · cases hu : Cd.rdUint l (a + 1) with
                | error q => rw [hu] at h; cases h
                | ok q =>
                  obtain ⟨n, t2⟩ := q
                  rw [hu] at h
                  simp only [] at h
                  split at h
                  · cases h
                  · injection h with h; injection h with h1 h2; subst h1; exact ⟨z, z⟩
              · cases h
  · rw [dif_neg ha] at h; cases h

theorem rdNds_fine (l : List UInt8) : ∀ (f a size todo : Nat) (acc xs : List Nd) (tn : Nat), (∀ x ∈ acc, x.fine) → acc.length ≤ 1024 → rdNds l f a size todo acc = .ok (xs, tn) → (∀ x ∈ xs, x.fine) ∧ xs.length ≤ 1024 := by
  intro f
  induction f with
  | zero =>
    intro a size todo acc xs tn hacc hn h
    cases todo with
    | zero => simp [rdNds] at h; obtain ⟨rfl, rfl⟩ := h; exact ⟨hacc, hn⟩
    | succ t => simp [rdNds] at h
  | succ f ih =>
    intro a size todo acc xs tn hacc hn h
    cases todo with
    | zero => simp [rdNds] at h; obtain ⟨rfl, rfl⟩ := h; exact ⟨hacc, hn⟩
    | succ t =>
      rw [rdNds] at h
      by_cases ha : a < l.length
      · rw [if_pos ha] at h
        by_cases hl : 1024 ≤ acc.length ∨ 4096 < size + 1
        · rw [if_pos hl] at h; cases h
        · rw [if_neg hl] at h
          cases hx : rdNode l a size with
          | error q => rw [hx] at h; cases h
          | ok q =>
            obtain ⟨x, t2⟩ := q
            rw [hx] at h
            exact ih _ _ _ _ _ _ (fun y hy => by
              rcases List.mem_append.1 hy with h1 | h1
              · exact hacc y h1
              · simp at h1; subst h1; exact rdNode_fine hx) (by simp; omega) h
      · rw [if_neg ha] at h; cases h
theorem rdValue_fine {l : List UInt8} {xs : List Nd} {tn : Nat} (h : rdValue l = .ok (xs, tn)) : (∀ x ∈ xs, x.fine) ∧ xs.length ≤ 1024 := rdNds_fine l 1025 0 0 1 [] xs tn (by simp) (by simp) h
end Go.Proofs.Yticipdjfkpakpaa
