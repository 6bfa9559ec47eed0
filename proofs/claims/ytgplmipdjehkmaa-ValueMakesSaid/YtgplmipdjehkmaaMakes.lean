/- The makers of values of one node; a comparison of such. -/
import Derived.Test.YtgplmipdjehkmaaNodeSame
namespace Go.Proofs.Ytgplmipdjehkmaa
open Go.RowKit
attribute [local go_sem] run_store_cx'

/-- a block of just one node -/
def Lone (w : World) (g : Nat) (x : Nd) : Prop := w.heap[g]? = some (.cells #[.int .u8 x.kind, .int .i64 x.kids, .int .i64 x.int, strV x.text, .complex .f64 x.re x.im] 37 (0, 0))
def Made1 (w : World) (x : Nd) (e : Ending) (w' : World) : Prop := ∃ g, e = .returned (.slice (some ⟨g, 0, none⟩) 1 1) ∧ w.heap.size ≤ g ∧ Lone w' g x ∧ Below w.heap.size w w'

theorem rint_any (n : Int) (w : World) : Calls Try.prog 22 #[.int .i64 n] w (Made1 w { nd0 2 with int := n }) := by
  go_enter Try.func22, Try.ntmps22
  go_wp2_with fail
  go_ret
  exact ⟨w.heap.size, rfl, Nat.le_refl _, heap_alloc_new w _, (Below.refl _ _).alloc (Nat.le_refl _) _⟩
theorem rtext_any (l : List UInt8) (w : World) : Calls Try.prog 15 #[.string ⟨l.toArray⟩] w (Made1 w { nd0 3 with text := l }) := by
  go_enter Try.func15, Try.ntmps15
  go_wp2_with fail
  go_ret
  exact ⟨w.heap.size, rfl, Nat.le_refl _, heap_alloc_new w _, (Below.refl _ _).alloc (Nat.le_refl _) _⟩
theorem rnum_any (p q : Nat) (w : World) : Calls Try.prog 18 #[.complex .f64 p q] w (Made1 w { nd0 4 with re := p, im := q }) := by
  go_enter Try.func18, Try.ntmps18
  go_wp2_with fail
  go_ret
  exact ⟨w.heap.size, rfl, Nat.le_refl _, heap_alloc_new w _, (Below.refl _ _).alloc (Nat.le_refl _) _⟩
theorem rnone_any (w : World) : Calls Try.prog 24 #[] w (Made1 w (nd0 0)) := by
  go_enter Try.func24, Try.ntmps24
  go_wp2_with fail
  go_ret
  exact ⟨w.heap.size, rfl, Nat.le_refl _, heap_alloc_new w _, (Below.refl _ _).alloc (Nat.le_refl _) _⟩
theorem none_any (w : World) : Calls Try.prog 21 #[] w (Made1 w (nd0 0)) := by
  go_enter Try.func21, Try.ntmps21
  go_wp2_with fail
  go_ret
  exact ⟨w.heap.size, rfl, Nat.le_refl _, heap_alloc_new w _, (Below.refl _ _).alloc (Nat.le_refl _) _⟩
theorem rtrue_any (w : World) : Calls Try.prog 23 #[.bool true] w (Made1 w { nd0 1 with int := 1 }) := by
  go_enter Try.func23, Try.ntmps23
  go_wp2_with fail
  go_ret
  exact ⟨w.heap.size, rfl, Nat.le_refl _, heap_alloc_new w _, (Below.refl _ _).alloc (Nat.le_refl _) _⟩
theorem rfalse_any (w : World) : Calls Try.prog 23 #[.bool false] w (Made1 w (nd0 1)) := by
  go_enter Try.func23, Try.ntmps23
  go_wp2_with fail
  go_ret
  exact ⟨w.heap.size, rfl, Nat.le_refl _, heap_alloc_new w _, (Below.refl _ _).alloc (Nat.le_refl _) _⟩
theorem below2 (w : World) (o o2 : Obj) : Below w.heap.size w ((w.alloc o).alloc o2) := ((Below.refl _ _).alloc (Nat.le_refl _) _).alloc (by simp) _
theorem heap2 (w : World) (o o2 : Obj) : ((w.alloc o).alloc o2).heap[w.heap.size + 1]? = some o2 := by
  have := heap_alloc_new (w.alloc o) o2; rwa [World.size_alloc] at this
theorem mk_int_any (n : Int) (w : World) : Calls Try.prog 19 #[.int .i64 n] w (Made1 w { nd0 2 with int := n }) := by
  go_enter Try.func19, Try.ntmps19
  go_wp2
  go_end0
  go_wp2
  go_ret
  exact ⟨w.heap.size + 1, rfl, by omega, heap2 _ _ _, below2 _ _ _⟩
theorem mk_bool_any (b : Bool) (w : World) : Calls Try.prog 20 #[.bool b] w (Made1 w { nd0 1 with int := if b then 1 else 0 }) := by
  cases b
  all_goals
    go_enter Try.func20, Try.ntmps20
    go_wp2
    go_end0
    go_wp2
    go_ret
    exact ⟨w.heap.size + 1, rfl, by omega, heap2 _ _ _, below2 _ _ _⟩
theorem mk_text_any (l : List UInt8) (h : ¬ (4095 : Int) < (l.length : Int)) (w : World) : Calls Try.prog 12 #[.string ⟨l.toArray⟩] w fun e w' => ∃ g, e = .returned (.tuple #[.slice (some ⟨g, 0, none⟩) 1 1, .int .i64 0]) ∧ w.heap.size ≤ g ∧ Lone w' g { nd0 3 with text := l } ∧ Below w.heap.size w w' := by
  go_enter Try.func12, Try.ntmps12
  go_wp2
  go_end0
  go_wp2
  go_ret2
  exact ⟨w.heap.size + 1, rfl, by omega, heap2 _ _ _, below2 _ _ _⟩
theorem mk_text_long (l : List UInt8) (h : (4095 : Int) < (l.length : Int)) (w : World) : Calls Try.prog 12 #[.string ⟨l.toArray⟩] w fun e w' => e = .returned (.tuple #[.slice none 0 0, .int .i64 2]) ∧ w = w' := by
  go_enter Try.func12, Try.ntmps12
  go_wp2
  go_ret2
  exact ⟨rfl, rfl⟩

/-- a part without a nought with a minus -/
def pl64 (x : Nat) : Nat := if x = 9223372036854775808 then 0 else x
theorem order_zero_all {x : Nat} (hx : x < 18446744073709551616) : (FloatKind.f64.format.order x 0 == some .eq) = (x == 0 || x == 9223372036854775808) := by
  cases h : fin64 x with
  | true =>
    rw [show (FloatKind.f64.format.order x 0 == some .eq) = (x % 9223372036854775808 == 0) from order_zero_iff h, Bool.eq_iff_iff, Bool.or_eq_true, beq_iff_eq, beq_iff_eq, beq_iff_eq]
    omega
  | false =>
    have h' := of_decide_eq_false h
    have e : (FloatKind.f64.format.order x 0 == some .eq) = false := by
      show (Ieee.double.order x 0 == some .eq) = false
      unfold Ieee.Format.order
      have z : Ieee.double.read 0 = .number false 0 (-1074) := by decide
      rcases read_inf h with ⟨s, e⟩ | ⟨s, f, e⟩
      · rw [e, z]; cases s <;> rfl
      · rw [e, z]; rfl
    rw [e]
    symm
    rw [Bool.or_eq_false_iff, beq_eq_false_iff_ne, beq_eq_false_iff_ne]
    omega
theorem pl64_lt {x : Nat} (h : x < 18446744073709551616) : pl64 x < 18446744073709551616 := by unfold pl64; split <;> omega
theorem pl64_fine (x : Nat) : fine64 (pl64 x) = fin64 x := by
  unfold pl64 fine64
  by_cases h : x = 9223372036854775808
  · subst h; decide
  · rw [if_neg h]; simp [h]
theorem plain_any (x : Nat) (hx : x < 18446744073709551616) (w : World) : Calls Try.prog 84 #[.float .f64 x] w fun e w' => e = .returned (.float .f64 (pl64 x)) ∧ w = w' := by
  have h0 := order_zero_all hx
  rcases hz : (x == 0 || x == 9223372036854775808) with _ | _
  · rw [hz] at h0
    have H : Hid (pl64 x = x) := by unfold Hid pl64; rw [Bool.or_eq_false_iff, beq_eq_false_iff_ne, beq_eq_false_iff_ne] at hz; rw [if_neg hz.2]
    clear hz hx
    go_enter Try.func84, Try.ntmps84
    go_wp2
    go_ret
    exact ⟨by rw [H.out]; rfl, rfl⟩
  · rw [hz] at h0
    have H : Hid (pl64 x = 0) := by unfold Hid pl64; rw [Bool.or_eq_true, beq_iff_eq, beq_iff_eq] at hz; split <;> omega
    clear hz hx
    go_enter Try.func84, Try.ntmps84
    go_wp2
    go_ret
    exact ⟨by rw [H.out]; rfl, rfl⟩
theorem pplain_any (p q : Nat) (hp : p < 18446744073709551616) (hq : q < 18446744073709551616) (w : World) : Calls Try.prog 49 #[.complex .f64 p q] w fun e w' => e = .returned (.complex .f64 (pl64 p) (pl64 q)) ∧ w = w' := by
  have H1 := Lib.hid (fun w => plain_any p hp w)
  have H2 := Lib.hid (fun w => plain_any q hq w)
  clear hp hq
  go_enter Try.func49, Try.ntmps49
  go_wp2_with fail
  refine (H1.out _).mono ?_
  rintro e w1 ⟨rfl, rfl⟩
  go_wp2_with fail
  refine (H2.out _).mono ?_
  rintro e w1 ⟨rfl, rfl⟩
  go_wp2_with fail
  go_ret
  exact ⟨rfl, rfl⟩
theorem rplain_any (p q : Nat) (w : World) : Calls Try.prog 16 #[.complex .f64 p q] w fun e w' => e = .returned (.complex .f64 (pl64 p) (pl64 q)) ∧ w = w' := by
  rcases mp : (p == 9223372036854775808) with _ | _ <;> rcases mq : (q == 9223372036854775808) with _ | _
  all_goals
    have HP := Lib.hid mp
    have HQ := Lib.hid mq
    have P1 := Lib.hid (show pl64 p = if (p == 9223372036854775808) = true then 0 else p by simp [pl64])
    have P2 := Lib.hid (show pl64 q = if (q == 9223372036854775808) = true then 0 else q by simp [pl64])
    rw [mp] at P1
    rw [mq] at P2
    clear mp mq
    go_enter Try.func16, Try.ntmps16
    go_wp2_with fail
    refine (minus_any p _).mono ?_
    rintro e w1 ⟨rfl, rfl⟩
    rw [HP.out]
    go_wp2_with fail
    refine (minus_any q _).mono ?_
    rintro e w1 ⟨rfl, rfl⟩
    rw [HQ.out]
    go_wp2_with fail
    go_ret
    rw [P1.out, P2.out]
    exact ⟨rfl, rfl⟩
theorem mk_num_any (p q : Nat) (hp : p < 18446744073709551616) (hq : q < 18446744073709551616) (h : (fin64 p && fin64 q) = true) (w : World) : Calls Try.prog 13 #[.complex .f64 p q] w fun e w' => ∃ g, e = .returned (.tuple #[.slice (some ⟨g, 0, none⟩) 1 1, .int .i64 0]) ∧ w.heap.size ≤ g ∧ Lone w' g { nd0 4 with re := pl64 p, im := pl64 q } ∧ Below w.heap.size w w' := by
  have H1 := Lib.hid (fun w => pplain_any p q hp hq w)
  have H2 := Lib.hid (fun w => fine_any (pl64 p) (pl64 q) (pl64_lt hp) (pl64_lt hq) w)
  have H3 := Lib.hid (show (fine64 (pl64 p) && fine64 (pl64 q)) = true by rw [pl64_fine, pl64_fine]; exact h)
  clear hp hq h
  go_enter Try.func13, Try.ntmps13
  go_wp2_with fail
  refine (H1.out _).mono ?_
  rintro e w1 ⟨rfl, rfl⟩
  go_wp2_with fail
  refine (H2.out _).mono ?_
  rintro e w1 ⟨rfl, n, hw1⟩
  rw [H3.out]
  have hb : Below w.heap.size w w1 := by rw [hw1]; exact ⟨rfl, rfl, rfl, Nat.le_refl _, fun _ _ => rfl⟩
  clear hw1
  go_wp2
  go_end0
  go_wp2
  go_ret2
  exact ⟨w1.heap.size + 1, rfl, by have := hb.size; omega, heap2 _ _ _, hb.trans ((below2 w1 _ _).mono hb.size)⟩
theorem mk_num_bad (p q : Nat) (hp : p < 18446744073709551616) (hq : q < 18446744073709551616) (h : (fin64 p && fin64 q) = false) (w : World) : Calls Try.prog 13 #[.complex .f64 p q] w fun e w' => e = .returned (.tuple #[.slice none 0 0, .int .i64 20]) ∧ Below w.heap.size w w' := by
  have H1 := Lib.hid (fun w => pplain_any p q hp hq w)
  have H2 := Lib.hid (fun w => fine_any (pl64 p) (pl64 q) (pl64_lt hp) (pl64_lt hq) w)
  have H3 := Lib.hid (show (fine64 (pl64 p) && fine64 (pl64 q)) = false by rw [pl64_fine, pl64_fine]; exact h)
  clear hp hq h
  go_enter Try.func13, Try.ntmps13
  go_wp2_with fail
  refine (H1.out _).mono ?_
  rintro e w1 ⟨rfl, rfl⟩
  go_wp2_with fail
  refine (H2.out _).mono ?_
  rintro e w1 ⟨rfl, n, rfl⟩
  rw [H3.out]
  go_wp2
  go_ret2
  exact ⟨rfl, ⟨rfl, rfl, rfl, Nat.le_refl _, fun _ _ => rfl⟩⟩
theorem part_any (x : Nat) (w : World) : Calls Try.prog 53 #[.float .f64 x, .float .f64 x] w fun e w' => e = .returned (.bool true) ∧ w = w' := by
  rcases hn : (FloatKind.f64.format.order x x == some .eq) with _ | _
  · have hn2 : (FloatKind.f64.format.order x x != some .eq) = true := by rw [bne, hn]; rfl
    go_enter Try.func53, Try.ntmps53
    go_wp2_with fail
    go_ret
    exact ⟨rfl, rfl⟩
  · go_enter Try.func53, Try.ntmps53
    go_wp2_with fail
    go_ret
    exact ⟨rfl, rfl⟩

theorem Lone.cell {w : World} {g : Nat} {x : Nd} (h : Lone w g x) (j : Nat) (hj : j < 5) : w.cell? ⟨g, j, none⟩ = x.cells[j]? := by
  have := cell_of_row w g j _ _ _ h
  rw [this, List.getElem?_toArray]; rfl
theorem Lone.below {B : Nat} {w w' : World} {g : Nat} {x : Nd} (h : Lone w g x) (hb : Below B w w') (hg : g < B) : Lone w' g x := (hb.block g hg).trans h
theorem Lone.lt {w : World} {g : Nat} {x : Nd} (h : Lone w g x) : g < w.heap.size := (Array.getElem?_eq_some_iff.1 h).1
set_option maxRecDepth 20000 in
set_option maxHeartbeats 1600000 in
theorem alike_any (x : Nd) (g1 g2 c1 c2 : Nat) (w : World) (h1 : Lone w g1 x) (h2 : Lone w g2 x) :
    Calls Try.prog 14 #[.slice (some ⟨g1, 0, none⟩) 1 c1, .slice (some ⟨g2, 0, none⟩) 1 c2] w fun e w' => e = .returned (.bool true) ∧ Below w.heap.size w w' := by
  have hm1 := h1.cell
  have hm2 := h2.cell
  have p0 := hm1 0 (by omega)
  have p1 := hm1 1 (by omega)
  have p2 := hm1 2 (by omega)
  have p3 := hm1 3 (by omega)
  have p4 := hm1 4 (by omega)
  have r0 := hm2 0 (by omega)
  have r1 := hm2 1 (by omega)
  have r2 := hm2 2 (by omega)
  have r3 := hm2 3 (by omega)
  have r4 := hm2 4 (by omega)
  simp only [Nd.cells, List.getElem?_cons_succ, List.getElem?_cons_zero] at p0 p1 p2 p3 p4 r0 r1 r2 r3 r4
  have l1 := h1.lt
  have l2 := h2.lt
  clear hm1 hm2 h1 h2
  unfold strV at p3 r3
  have z : fine64 0 = true := by decide
  have hq := eq_node { x with re := 0, im := 0 } ⟨z, z⟩
  unfold ndV strV at hq
  go_enter Try.func14, Try.ntmps14
  go_wp2_with fail
  refine wp_loop_rounds 2 ?_
  rw [rounds_succ]
  go_wp2_with fail
  refine (part_any x.re _).mono ?_
  rintro e w1 ⟨rfl, rfl⟩
  go_wp2_with fail
  refine (part_any x.im _).mono ?_
  rintro e w1 ⟨rfl, rfl⟩
  go_wp2_with fail
  rw [rounds_succ]
  go_wp2_with fail
  go_ret
  exact ⟨rfl, below2 _ _ _⟩
end Go.Proofs.Ytgplmipdjehkmaa
