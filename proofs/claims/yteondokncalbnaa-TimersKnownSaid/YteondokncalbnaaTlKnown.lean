/- TimersKnown: the walk. -/
import Derived.Test.YteondokncalbnaaTlOpen
namespace Go.Proofs.Yteondokncalbnaa
open Go.RowKit

def kO : ByteArray := ⟨#[97]⟩
/-- the list behind i sets -/
def knL (i : Nat) : List Lt := (List.range i).reverse.map (fun j : Nat => (-(j : Int), kO, (j : Int)))
theorem knL_succ (i : Nat) : knL (i + 1) = (-(i : Int), kO, (i : Int)) :: knL i := by
  unfold knL
  rw [List.range_succ, List.reverse_append]
  rfl
theorem knL_len (i : Nat) : (knL i).length = i := by simp [knL]
theorem knL_mem {i : Nat} {x : Lt} : x ∈ knL i ↔ ∃ j : Nat, j < i ∧ x = (-(j : Int), kO, (j : Int)) := by
  unfold knL
  rw [List.mem_map]
  constructor
  · rintro ⟨j, hj, rfl⟩
    exact ⟨j, by simpa using hj, rfl⟩
  · rintro ⟨j, hj, rfl⟩
    exact ⟨j, by simpa using hj, rfl⟩
theorem knL_ins (i : Nat) : insL (knL i) (-(i : Int), kO, (i : Int)) = knL (i + 1) := by
  rw [knL_succ]
  unfold insL
  have e1 : (knL i).filter (fun y => decide (y.1 ≤ -(i : Int))) = [] := List.filter_eq_nil_iff.2 (fun y hy => by
    obtain ⟨j, hj, rfl⟩ := knL_mem.1 hy
    simp; omega)
  have e2 : (knL i).filter (fun y => decide (-(i : Int) < y.1)) = knL i := List.filter_eq_self.2 (fun y hy => by
    obtain ⟨j, hj, rfl⟩ := knL_mem.1 hy
    simp; omega)
  simp only
  rw [e1, e2]
  rfl
theorem knL_new (i : Nat) : ¬ named (knL i) kO (i : Int) := by
  rintro ⟨x, hx, _, e⟩
  obtain ⟨j, hj, rfl⟩ := knL_mem.1 hx
  simp only at e
  omega
theorem knL_all (i : Nat) : (knL i).filter (owB kO) = knL i := List.filter_eq_self.2 (fun y hy => by
  obtain ⟨j, hj, rfl⟩ := knL_mem.1 hy
  simp [owB])
def kB1 : List UInt8 := [2, 14, 1, 98, 4, 12, 0, 0]
def kB2 : List UInt8 := [2, 14, 0, 0, 14, 0, 0]
def kB3 : List UInt8 := [129, 32]
theorem kR1 : rdTab kB1 = .error (5, 3) := by rfl
theorem kR2 : rdTab kB2 = .error (4, 6) := by rfl
theorem kR3 : rdTab kB3 = .error (0, 2) := by rfl
theorem kI1 (w : World) : In (w.alloc (.cells #[.int .u8 2, .int .u8 14, .int .u8 1, .int .u8 98, .int .u8 4, .int .u8 12, .int .u8 0, .int .u8 0] 5)) (some ⟨w.heap.size, 0, none⟩) kB1.length 8 kB1 := in_lit w kB1 (by decide)
theorem kO1 (w : World) : Calls Try.prog 20 #[.slice (some ⟨w.heap.size, 0, none⟩) 8 8] (w.alloc (.cells #[.int .u8 2, .int .u8 14, .int .u8 1, .int .u8 98, .int .u8 4, .int .u8 12, .int .u8 0, .int .u8 0] 5)) fun e w' => e = .returned (.tuple #[.pointer none, .int .i64 5, .int .i64 3]) ∧ Below (w.alloc (.cells #[.int .u8 2, .int .u8 14, .int .u8 1, .int .u8 98, .int .u8 4, .int .u8 12, .int .u8 0, .int .u8 0] 5)).heap.size (w.alloc (.cells #[.int .u8 2, .int .u8 14, .int .u8 1, .int .u8 98, .int .u8 4, .int .u8 12, .int .u8 0, .int .u8 0] 5)) w' := by
  refine (open_any _ _ _ kB1 (kI1 w) (by decide)).mono ?_
  rintro e w' h
  unfold OpenY at h
  rw [kR1] at h
  exact h
theorem kI2 (w : World) : In (w.alloc (.cells #[.int .u8 2, .int .u8 14, .int .u8 0, .int .u8 0, .int .u8 14, .int .u8 0, .int .u8 0] 5)) (some ⟨w.heap.size, 0, none⟩) kB2.length 7 kB2 := in_lit w kB2 (by decide)
theorem kO2 (w : World) : Calls Try.prog 20 #[.slice (some ⟨w.heap.size, 0, none⟩) 7 7] (w.alloc (.cells #[.int .u8 2, .int .u8 14, .int .u8 0, .int .u8 0, .int .u8 14, .int .u8 0, .int .u8 0] 5)) fun e w' => e = .returned (.tuple #[.pointer none, .int .i64 4, .int .i64 6]) ∧ Below (w.alloc (.cells #[.int .u8 2, .int .u8 14, .int .u8 0, .int .u8 0, .int .u8 14, .int .u8 0, .int .u8 0] 5)).heap.size (w.alloc (.cells #[.int .u8 2, .int .u8 14, .int .u8 0, .int .u8 0, .int .u8 14, .int .u8 0, .int .u8 0] 5)) w' := by
  refine (open_any _ _ _ kB2 (kI2 w) (by decide)).mono ?_
  rintro e w' h
  unfold OpenY at h
  rw [kR2] at h
  exact h
theorem kI3 (w : World) : In (w.alloc (.cells #[.int .u8 129, .int .u8 32] 5)) (some ⟨w.heap.size, 0, none⟩) kB3.length 2 kB3 := in_lit w kB3 (by decide)
theorem kO3 (w : World) : Calls Try.prog 20 #[.slice (some ⟨w.heap.size, 0, none⟩) 2 2] (w.alloc (.cells #[.int .u8 129, .int .u8 32] 5)) fun e w' => e = .returned (.tuple #[.pointer none, .int .i64 0, .int .i64 2]) ∧ Below (w.alloc (.cells #[.int .u8 129, .int .u8 32] 5)).heap.size (w.alloc (.cells #[.int .u8 129, .int .u8 32] 5)) w' := by
  refine (open_any _ _ _ kB3 (kI3 w) (by decide)).mono ?_
  rintro e w' h
  unfold OpenY at h
  rw [kR3] at h
  exact h
set_option maxRecDepth 20000 in
set_option maxHeartbeats 16000000 in
theorem known_any (w : World) : Calls Try.prog 6 #[] w fun e w' => e = .returned (.bool true) ∧ Below w.heap.size w w' := by
  have HNw := Lib.hid (newL w)
  go_enter Try.func6, Try.ntmps6
  go_upto_region 2 with (go_at_call 23; refine HNw.out.mono ?_; rintro e w1 ⟨t, S0, rfl, h1, hl1, hb1⟩)
  have HT1 := Lib.hid h1
  have HL1 := Lib.hid hl1
  have HB1 := Lib.hid hb1
  clear h1 hl1 hb1
  go_wp2_with fail
  go_loopw [2] (fun iv wr => ∃ (i : Nat) (S : Nat → Prop), i ≤ 4096 ∧ iv = .int .i64 (i : Int) ∧ Hid (TL wr t S (knL i) i) ∧ Hid (∀ j, S j → w.heap.size ≤ j) ∧ Hid (Below w.heap.size w wr)) (fun iv _ => 4096 - (intOf iv).toNat)
  case atStart => exact ⟨0, S0, by omega, rfl, HT1, HL1, HB1⟩
  case round =>
    obtain ⟨i, S, hi, rfl, hT, hS, hB⟩ := hrel
    by_cases hlt : i < 4096
    · have hlt1 : (i : Int) < 4096 := by omega
      have HSt := setL wr t S (knL i) i hT.out (-(i : Int)) kO (i : Int) (by omega) (knL_new i) (by rw [knL_len]; exact hlt) (by omega)
      rw [knL_ins] at HSt
      unfold kO at HSt
      have HSe := Lib.hid HSt
      clear HSt
      go_wp2_with (go_at_call 14; refine HSe.out.mono ?_; rintro e w3 ⟨rfl, S2, h3, g3, t3⟩; have H3 := Lib.hid h3; have G3 := Lib.hid g3; have T3 := Lib.hid t3; clear h3 g3 t3)
      have HS2 : Hid (∀ j, S2 j → w.heap.size ≤ j) := Lib.hid (fun j hj => (G3.out j hj).elim (fun e => hS.out j e) (fun e => by have := hB.out.size; omega))
      have HB2 : Hid (Below w.heap.size w w3) := Lib.hid (((Turns.of_below (S := fun i => w.heap.size ≤ i) hB.out).then (T3.out.mono (fun i _ e => hS.out i e))).below (Nat.le_refl _) (fun _ _ e => e))
      go_roundw
      case measure => simp only [intOf]; omega
      case rel => exact ⟨i + 1, S2, by omega, by go_num, H3, HS2, HB2⟩
    · obtain rfl : i = 4096 := by omega
      have hlt1 : ¬ (((4096 : Nat) : Int)) < 4096 := by omega
      have hnb : ¬ named (knL 4096) ⟨#[98]⟩ 0 := by
        rintro ⟨x, hx, e, _⟩
        obtain ⟨j, hj, rfl⟩ := knL_mem.1 hx
        have hne : (⟨#[97]⟩ : ByteArray) ≠ ⟨#[98]⟩ := by decide
        exact hne e
      have hna : named (knL 4096) ⟨#[97]⟩ 5 := ⟨(-5, kO, 5), knL_mem.2 ⟨5, by omega, rfl⟩, rfl, rfl⟩
      have HF1 := Lib.hid (set_no wr t S (knL 4096) 4096 hT.out 0 ⟨#[98]⟩ 0 (by omega) (.inr (knL_len 4096)))
      have HNB := Lib.hid hnb
      have HNA := Lib.hid hna
      clear hnb hna
      go_upto_region 8 with (go_at_call 14; refine HF1.out.mono ?_; rintro e w3 ⟨c1, rfl, _, h7, hb3⟩; obtain rfl := h7 HNB.out; have HB3 := Lib.hid hb3; clear hb3 h7)
      have HF2 := Lib.hid (set_no w3 t S (knL 4096) 4096 (hT.out.bel HB3.out) 0 ⟨#[97]⟩ 5 (by omega) (.inl HNA.out))
      go_upto_region 9 with (go_at_call 14; refine HF2.out.mono ?_; rintro e w4 ⟨c2, rfl, h6, _, hb4⟩; obtain rfl := h6 HNA.out; have HB4 := Lib.hid (below_trans' HB3.out hb4); clear hb4 h6)
      have HNx := nextL w4 t S (knL 4096) 4096 (hT.out.bel HB4.out)
      rw [show nextD (knL 4096) = -4095 from by rw [knL_succ]; rfl] at HNx
      have HNe := Lib.hid HNx
      clear HNx
      go_upto_region 10 with (go_at_call 12; refine HNe.out.mono ?_; rintro e w5 ⟨rfl, hb5⟩; have HB5 := Lib.hid (below_trans' HB4.out hb5); clear hb5)
      have HO1 := Lib.hid (kO1 w5)
      have BL1 := Lib.hid (Below.new w5 (.cells #[.int .u8 2, .int .u8 14, .int .u8 1, .int .u8 98, .int .u8 4, .int .u8 12, .int .u8 0, .int .u8 0] 5))
      go_upto_region 11 with (go_at_call 20; refine HO1.out.mono ?_; rintro e w6 ⟨rfl, hb6⟩; have HB6 := Lib.hid (below_trans' HB5.out (below_trans' BL1.out hb6)); clear hb6)
      have HO2 := Lib.hid (kO2 w6)
      have BL2 := Lib.hid (Below.new w6 (.cells #[.int .u8 2, .int .u8 14, .int .u8 0, .int .u8 0, .int .u8 14, .int .u8 0, .int .u8 0] 5))
      go_upto_region 12 with (go_at_call 20; refine HO2.out.mono ?_; rintro e w7 ⟨rfl, hb7⟩; have HB7 := Lib.hid (below_trans' HB6.out (below_trans' BL2.out hb7)); clear hb7)
      have HO3 := Lib.hid (kO3 w7)
      have BL3 := Lib.hid (Below.new w7 (.cells #[.int .u8 129, .int .u8 32] 5))
      go_upto_region 13 with (go_at_call 20; refine HO3.out.mono ?_; rintro e w8 ⟨rfl, hb8⟩; have HB8 := Lib.hid (below_trans' HB7.out (below_trans' BL3.out hb8)); clear hb8)
      have HAw := Lib.hid (awake_any w8)
      clear HO1 HO2 HO3 BL1 BL2 BL3
      go_wp2_with (first | (go_at_call 9; refine HAw.out.mono ?_; rintro e w9 ⟨rfl, hb9⟩; have HB9 := Lib.hid (below_trans' HB8.out hb9); clear hb9; have HDr := dropAllL w9 t S (knL 4096) 4096 (hT.out.bel HB9.out) ⟨#[97]⟩; rw [show (⟨#[97]⟩ : ByteArray) = kO from rfl, knL_all, knL_len, show kO = (⟨#[97]⟩ : ByteArray) from rfl] at HDr; have HDe := Lib.hid HDr; clear HDr) | (go_at_call 16; refine HDe.out.mono ?_; rintro e w10 ⟨rfl, S9, _, _, t9⟩; have T9 := Lib.hid t9; clear t9))
      go_ret
      exact ⟨rfl, ((Turns.of_below (S := fun i => w.heap.size ≤ i) hB.out).then ((Turns.of_below (S := fun i => w.heap.size ≤ i) HB9.out).then (T9.out.mono (fun i _ e => hS.out i e)))).below (Nat.le_refl _) (fun _ _ e => e)⟩
end Go.Proofs.Yteondokncalbnaa
