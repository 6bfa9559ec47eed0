/- (*event.reader).event, event.Read: whatever the bytes. -/
import Derived.Test.YticipdjfkpakpaaEvRead
namespace Go.Proofs.Yticipdjfkpakpaa
open Go.RowKit
attribute [local go_sem] run_store_cx'

set_option maxRecDepth 20000 in
set_option maxHeartbeats 4000000 in
theorem event_end (w : World) (r : Nat) (T : TypeId) (more : List Value) (A : Option Addr) (len cap : Nat) (l : List UInt8) (h : ER w r T more A len cap l l.length 0) (hA : ∀ ad, A = some ad → 0 < l.length → ad.block < w.heap.size) :
    Calls Try.prog 19 #[.pointer (some ⟨r, 0, none⟩)] w (EvSays w r T more A len cap l (.error (l.length, 4))) := by
  have hc0 := h.c0
  have hc1 := h.c1
  have hc2 := h.c2
  have hf2 := h.fz 2
  obtain rfl := h.inn.bs.len
  have hr := h.lt
  have H := Lib.hid h
  clear h hA
  go_enter Try.func19, Try.ntmps19
  go_wp2_with fail
  have h2 := (H.out.set2 4).below ((Below.refl _ _).alloc (Nat.le_refl _) (.cells #[.int .u8 0, .int .i64 0, .string ⟨#[]⟩, .slice none 0 0, .int .i64 0] 27))
  have kR : Blk ((w.setCell ⟨r, 2, none⟩ (.int .i64 4)).alloc (.cells #[.int .u8 0, .int .i64 0, .string ⟨#[]⟩, .slice none 0 0, .int .i64 0] 27)) w.heap.size 27 [.int .u8 0, .int .i64 0, .string ⟨#[]⟩, .slice none 0 0, .int .i64 0] := by
    have := heap_alloc_new (w.setCell ⟨r, 2, none⟩ (.int .i64 4)) (.cells #[.int .u8 0, .int .i64 0, .string ⟨#[]⟩, .slice none 0 0, .int .i64 0] 27)
    rwa [show (w.setCell ⟨r, 2, none⟩ (.int .i64 4)).heap.size = w.heap.size from by simp [World.setCell]] at this
  refine bodyPost_ret (results_cell_row (h := rfl) (g := w.heap.size) (t := 27) (cs := ([.int .u8 0, .int .i64 0, .string ⟨#[]⟩, .slice none 0 0, .int .i64 0] : List Value).toArray) (fr := (0, 0)) (hp := rfl) (hg := kR) (hu := Try.underlying27) (hd := rfl) (hi := by kernel_rfl) _ _) rfl ?_
  exact ⟨⟨rfl, h2⟩, grown_alloc (grown_set (grown_refl _ _) 2 _) _⟩

set_option maxRecDepth 20000 in
set_option maxHeartbeats 4000000 in
theorem event_bad (w : World) (r : Nat) (T : TypeId) (more : List Value) (A : Option Addr) (len cap : Nat) (l : List UInt8) (a : Nat) (h : ER w r T more A len cap l a 0) (hsz : l.length ≤ 1000000) (hA : ∀ ad, A = some ad → 0 < l.length → ad.block < w.heap.size)
    (ha : a < l.length) (hk : ¬ (1 ≤ l[a].toNat ∧ l[a].toNat ≤ 12)) :
    Calls Try.prog 19 #[.pointer (some ⟨r, 0, none⟩)] w (EvSays w r T more A len cap l (.error (a, 3))) := by
  have hc0 := h.c0
  have hc1 := h.c1
  have hf1 := h.fz 1
  obtain ⟨ad, rfl, hlt, hcell⟩ := h.inn.bs.cell a ha
  obtain rfl := h.inn.bs.len
  have hne : ((a : Int) == (l.length : Int)) = false := by rw [beq_eq_false_iff_ne]; omega
  have l1 : (a : Int) < (l.length : Int) := by omega
  have l2 : (l.length : Int) ≤ 1000000 := by omega
  have hadd : (ad.add a).block < w.heap.size := by rw [add_block]; exact hlt
  have hr := h.lt
  have H := Lib.hid h
  have HA := Lib.hid hA
  have HF : Hid (∀ W, Calls Try.prog 32 #[.int .u8 (l[a].toNat : Int)] W fun e w' => e = .returned (.agg #[.bool false, .bool (hasId l[a].toNat), .bool (hasName l[a].toNat), .bool (hasList l[a].toNat), .bool (hasValue l[a].toNat), .bool (hasInt l[a].toNat), .int .i64 (hLeast l[a].toNat), .int .i64 (hMost l[a].toNat)]) ∧ Below W.heap.size W w') := fun W => by
    have := fields_any l[a].toNat (UInt8.toNat_lt _) W
    unfold hasC at this
    rw [decide_eq_false hk] at this
    exact this
  clear h hA hlt hk
  generalize l[a].toNat = k at *
  go_enter Try.func19, Try.ntmps19
  go_wp2_with fail
  refine (HF.out _).mono ?_
  rintro e w1 ⟨rfl, B1⟩
  have hB1 : Below w.heap.size w w1 := (((Below.refl w.heap.size w).alloc (Nat.le_refl _) _).alloc (by simp) _).trans (B1.mono (by simp; omega))
  have kR : Blk w1 w.heap.size 27 [.int .u8 0, .int .i64 0, .string ⟨#[]⟩, .slice none 0 0, .int .i64 0] := (B1.block w.heap.size (by simp; omega)).trans (heap_alloc2_old w _ _)
  have h1 := H.out.below hB1
  have hc2 := h1.c2
  have hf2 := h1.fz 2
  have hr1 := h1.lt
  have hsz1 : w.heap.size < w1.heap.size := by have := B1.size; simp at this; omega
  have r0 := kR.cell 0
  have r1 := kR.cell 1
  have r2 := kR.cell 2
  have r3 := kR.cell 3
  have r4 := kR.cell 4
  have q0 := kR.fz 0
  have q1 := kR.fz 1
  have q2 := kR.fz 2
  have q3 := kR.fz 3
  have q4 := kR.fz 4
  simp only [List.getElem?_cons_succ, List.getElem?_cons_zero] at r0 r1 r2 r3 r4
  have HE1 := Lib.hid h1
  have HB1 := Lib.hid hB1
  have KR := Lib.hid kR
  have hrw : r ≠ w.heap.size := by omega
  clear B1 hB1 kR h1 hc0 hcell hadd HF H
  go_wp2_with fail
  have hAw : ∀ ad', some ad = some ad' → 0 < l.length → ad'.block ≠ w.heap.size := fun ad' e h0 => by have := HA.out ad' e h0; omega
  have h5 := ((((((HE1.out.set2 3).far (b := w.heap.size) (o := 0) (v := (.int .u8 0)) hrw hAw).far (b := w.heap.size) (o := 1) (v := (.int .i64 0)) hrw hAw).far (b := w.heap.size) (o := 2) (v := (.string ⟨#[]⟩)) hrw hAw).far (b := w.heap.size) (o := 3) (v := (.slice none 0 0)) hrw hAw).far (b := w.heap.size) (o := 4) (v := (.int .i64 0)) hrw hAw)
  have k5 := ((((((KR.out.far (p := ⟨r, 2, none⟩) (fun e => hrw e.symm) (.int .i64 3)).set 0 (.int .u8 0)).set 1 (.int .i64 0)).set 2 (.string ⟨#[]⟩)).set 3 (.slice none 0 0)).set 4 (.int .i64 0))
  have g5 := (grown_far (grown_far (grown_far (grown_far (grown_far (grown_set (r := r) (grown_of_below HB1.out _) 2 (.int .i64 3)) (b := w.heap.size) (o := 0) (Nat.le_refl _) (.int .u8 0)) (b := w.heap.size) (o := 1) (Nat.le_refl _) (.int .i64 0)) (b := w.heap.size) (o := 2) (Nat.le_refl _) (.string ⟨#[]⟩)) (b := w.heap.size) (o := 3) (Nat.le_refl _) (.slice none 0 0)) (b := w.heap.size) (o := 4) (Nat.le_refl _) (.int .i64 0))
  refine bodyPost_ret (results_cell_row (h := rfl) (g := w.heap.size) (t := 27) (cs := ([.int .u8 0, .int .i64 0, .string ⟨#[]⟩, .slice none 0 0, .int .i64 0] : List Value).toArray) (fr := (0, 0)) (hp := rfl) (hg := k5.alloc (.cells #[.bool false, .bool (hasId k), .bool (hasName k), .bool (hasList k), .bool (hasValue k), .bool (hasInt k), .int .i64 (hLeast k), .int .i64 (hMost k)] 70)) (hu := Try.underlying27) (hd := rfl) (hi := by kernel_rfl) _ _) rfl ?_
  exact ⟨⟨rfl, h5.below ((Below.refl _ _).alloc (Nat.le_refl _) _)⟩, grown_alloc g5 _⟩

/-- what is read as an event, told by the kind's own way -/
theorem rdEv_good {l : List UInt8} {a : Nat} (ha : a < l.length) (hk : 1 ≤ l[a].toNat ∧ l[a].toNat ≤ 12) : rdEv l a = evRes l a l[a].toNat := by
  unfold rdEv
  rw [dif_pos ha, if_neg (by omega)]
  unfold evRes evStp
  generalize l[a].toNat = k
  have opt_stp : ∀ {α : Type} (is : Bool) (zero : α) (f : List UInt8 → Except (Nat × Nat) (α × Nat)) (t : Nat), (∀ m p e, f m = .error (p, e) → e ≠ 0) →
      (∃ x n, opt is zero f l t = .ok (x, n) ∧ stp is zero f l t 0 = (x, n, 0)) ∨ (∃ p e, opt is zero f l t = .error (p, e) ∧ e ≠ 0 ∧ stp is zero f l t 0 = (zero, p, e)) := by
    intro α is zero f t hf
    cases is with
    | false => exact .inl ⟨zero, t, rfl, rfl⟩
    | true =>
      rw [stp_yes]
      unfold opt
      rw [if_pos rfl]
      cases hr : f (l.drop t) with
      | ok q => obtain ⟨x, n⟩ := q; exact .inl ⟨x, t + n, rfl, rfl⟩
      | error q => obtain ⟨p, e⟩ := q; exact .inr ⟨t + p, e, rfl, hf _ _ _ hr, rfl⟩
  simp only
  rcases opt_stp (hasId k) 0 (fun m => Cd.rdUint m 0) (a + 1) (fun m p e => rdUint_errno') with ⟨x1, n1, h1, h2⟩ | ⟨p, e, h1, he, h2⟩
  · rw [h1, h2]
    simp only
    rcases opt_stp (hasName k) [] (fun m => Cd.rdText m 0) n1 (fun m p e => rdText_errno) with ⟨x2, n2, h3, h4⟩ | ⟨p, e, h3, he, h4⟩
    · rw [h3, h4]
      simp only
      rcases opt_stp (hasValue k) [] rdValue n2 (fun m p e => rdValue_errno) with ⟨x3, n3, h5, h6⟩ | ⟨p, e, h5, he, h6⟩
      · rw [h5, h6]
        simp only
        rcases opt_stp (hasInt k) 0 (fun m => Cd.rdInt m 0) n3 (fun m p e => rdInt_errno) with ⟨x4, n4, h7, h8⟩ | ⟨p, e, h7, he, h8⟩
        · rw [h7, h8]; simp
        · rw [h7, h8]; simp [he]
      · rw [h5, h6]
        simp only [stp_idle _ _ _ _ _ _ he]
        simp [he]
    · rw [h3, h4]
      simp only [stp_idle _ _ _ _ _ _ he]
      simp [he]
  · rw [h1, h2]
    simp only [stp_idle _ _ _ _ _ _ he]
    simp [he]
theorem event_any (w : World) (r : Nat) (T : TypeId) (more : List Value) (A : Option Addr) (len cap : Nat) (l : List UInt8) (a : Nat) (h : ER w r T more A len cap l a 0) (hsz : l.length ≤ 1000000) :
    Calls Try.prog 19 #[.pointer (some ⟨r, 0, none⟩)] w (EvSays w r T more A len cap l (rdEv l a)) := by
  have hA := h.inn.lt
  by_cases ha : a < l.length
  · by_cases hk : 1 ≤ l[a].toNat ∧ l[a].toNat ≤ 12
    · rw [rdEv_good ha hk]; exact event_good w r T more A len cap l a h hsz hA ha hk
    · have : rdEv l a = .error (a, 3) := by unfold rdEv; rw [dif_pos ha, if_pos (by omega)]
      rw [this]; exact event_bad w r T more A len cap l a h hsz hA ha hk
  · obtain rfl : a = l.length := by have := h.at_le; omega
    have : rdEv l l.length = .error (l.length, 4) := by unfold rdEv; rw [dif_neg ha]
    rw [this]; exact event_end w r T more A len cap l h hA
end Go.Proofs.Yticipdjfkpakpaa
