/- event.Check: which events may be. -/
import Derived.Test.YticipdjfkpakpaaEvNext
namespace Go.Proofs.Yticipdjfkpakpaa
open Go.RowKit
attribute [local go_sem] run_store_cx'

/-- an event's value, where it lies -/
def evV (x : Ev) (A : Option Addr) (n cap : Nat) : Value := .agg #[.int .u8 (x.kind : Int), .int .i64 (x.id : Int), .string ⟨x.name.toArray⟩, .slice A n cap, .int .i64 x.int]
/-- an event as it was read, but for what makes it right -/
structure EvRaw (x : Ev) : Prop where
  kind : 1 ≤ x.kind ∧ x.kind ≤ 12
  id : hasId x.kind = false → x.id = 0
  id_le : x.id ≤ 500
  name : hasName x.kind = false → x.name = []
  name_le : x.name.length ≤ 1000000
  int : hasInt x.kind = false → x.int = 0
  i64 : I64 x.int
  val : hasValue x.kind = false → x.val = []
  ok : hasValue x.kind = true → ValOk x.val ∧ ∀ y ∈ x.val, I64 y.int
/-- the value's nodes lie in memory -/
def VIn (w : World) (A : Option Addr) (n : Nat) (xs : List Nd) : Prop :=
  (xs = [] ∧ n = 0) ∨ ∃ g, A = some ⟨g, 0, none⟩ ∧ n = xs.length ∧ g < w.heap.size ∧ RowOf w g xs
theorem VIn.below {w w' : World} {A : Option Addr} {n : Nat} {xs : List Nd} (h : VIn w A n xs) (hb : Below w.heap.size w w') : VIn w' A n xs := by
  rcases h with h | ⟨g, h1, h2, h3, h4⟩
  · exact .inl h
  · exact .inr ⟨g, h1, h2, Nat.lt_of_lt_of_le h3 hb.size, h4.below hb h3⟩
def okInt (b : Bool) : Value := .int .i64 (if b then 0 else 3)

theorem ok3 {b : Bool} (h : b = false) : Ending.returned (.int .i64 3) = .returned (okInt b) := by subst h; rfl
theorem ok0 {b : Bool} (h : b = true) : Ending.returned (.int .i64 0) = .returned (okInt b) := by subst h; rfl
theorem agg_cells (w : World) (cs : Array Value) (t : TypeId) (W : World) (hb : Below (w.alloc (.cells cs t)).heap.size (w.alloc (.cells cs t)) W) (j : Nat) : W.cell? ⟨w.heap.size, j, none⟩ = cs[j]? := by
  rw [cell_of_row W w.heap.size j cs t (0, 0) ((hb.block w.heap.size (by simp)).trans (heap_alloc_new w _))]
theorem below_step {w w1 : World} {o o2 : Obj} (hb : Below (w.alloc o).heap.size (w.alloc o) w1) : Below w.heap.size w (w1.alloc o2) := by
  have h1 : Below w.heap.size w w1 := ((Below.refl w.heap.size w).alloc (Nat.le_refl _) o).trans (hb.mono (by simp))
  exact h1.alloc h1.size _

set_option maxRecDepth 20000 in
set_option maxHeartbeats 4000000 in
theorem evCheck_1 (id : Nat) (nm : List UInt8) (xs : List Nd) (i : Int) (hx : EvRaw ⟨1, id, nm, xs, i⟩) (A : Option Addr) (n cap : Nat) (w : World) (hv : VIn w A n xs) :
    Calls Try.prog 16 #[.agg #[.int .u8 1, .int .i64 (id : Int), .string ⟨nm.toArray⟩, .slice A n cap, .int .i64 i]] w fun e w' => e = .returned (okInt (evOk ⟨1, id, nm, xs, i⟩)) ∧ Below w.heap.size w w' := by
  have HF := Lib.hid (show ∀ w, Calls Try.prog 32 #[.int .u8 1] w fun e w' => e = .returned (.agg #[.bool true, .bool false, .bool true, .bool true, .bool true, .bool true, .int .i64 0, .int .i64 9223372036854775807]) ∧ Below w.heap.size w w' from fun w => fields_any 1 (by omega) w)
  have hid := hx.id_le
  have hi1 := hx.i64.1
  have hi2 := hx.i64.2
  simp only at hid hi1 hi2
  obtain rfl : id = 0 := hx.id rfl
  have hnl := hx.name_le
  simp only at hnl
  have HN := Lib.hid (fun w => name_any ⟨nm.toArray⟩ (by unfold maxLen; show nm.length ≤ _; omega) w)
  clear hnl
  have hok := hx.ok rfl
  simp only at hok
  obtain ⟨g, rfl, rfl, hg, hrow⟩ : ∃ g, A = some ⟨g, 0, none⟩ ∧ n = xs.length ∧ g < w.heap.size ∧ RowOf w g xs := by
    rcases hv with ⟨h0, _⟩ | h
    · have := hok.1.pos; rw [h0] at this; simp at this
    · exact h
  have HCk := Lib.hid (fun W h1 h2 => check_ok g cap xs hok.1 W h1 h2)
  have HR := Lib.hid hrow
  have hpos := hok.1.pos
  obtain ⟨y, ys, rfl⟩ : ∃ y ys, xs = y :: ys := by
    cases xs with
    | nil => simp at hpos
    | cons y ys => exact ⟨y, ys, rfl⟩
  have HY := Lib.hid (hok.1.seq.fit 0).1.kind
  clear hrow hok hv hpos
  clear hx
  rcases hnb : (nameS ⟨nm.toArray⟩) with _ | _
  · rcases hlb : (y.kind == 5) with _ | _
    · have HE : Hid (evOk ⟨1, 0, nm, y :: ys, i⟩ = false) := by unfold Hid; simp [evOk, hasName, hasList, nameB, hnb, hlb]
      have hk5 : ((y.kind : Int) == 5) = false := by rw [beq_eq_false_iff_ne] at hlb ⊢; omega
      have NB := Lib.hid hnb
      clear hnb
      clear hlb
      go_enter Try.func16, Try.ntmps16
      go_wp2_with (first | (go_at_call 32; refine (HF.out _).mono ?_; rintro e w1 ⟨rfl, B1⟩; have c0 := agg_cells w _ _ w1 B1 0; have c1 := agg_cells w _ _ w1 B1 1; have c2 := agg_cells w _ _ w1 B1 2; have c3 := agg_cells w _ _ w1 B1 3; have c4 := agg_cells w _ _ w1 B1 4; simp only [List.getElem?_toArray, List.getElem?_cons_succ, List.getElem?_cons_zero] at c0 c1 c2 c3 c4; have hlt1 : w.heap.size < w1.heap.size := by have := B1.size; simp at this; omega) | (go_at_call 37; refine (HN.out _).mono ?_; rintro e wn ⟨rfl, rfl⟩; rw [NB.out]) | (go_at_call 38; refine (HCk.out _ (Nat.lt_of_lt_of_le hg (below_step B1).size) (HR.out.below (below_step B1) hg)).mono ?_; rintro e w4 ⟨rfl, B4⟩; have e3 := (B4.cell (p := ⟨w1.heap.size, 3, none⟩) (by simp)).trans (cell_of_row _ w1.heap.size 3 _ _ _ (heap_alloc_new w1 _)); simp only [List.getElem?_toArray, List.getElem?_cons_succ, List.getElem?_cons_zero] at e3; have d3 := (B4.cell (p := ⟨w.heap.size, 3, none⟩) (by simp; omega)).trans ((World.cell?_alloc_lt w1 _ ⟨w.heap.size, 3, none⟩ hlt1).trans c3); have q0 := (HR.out.below (below_trans' (below_step B1) B4) hg) 0 (by simp) 0 (by omega); simp only [List.getElem_cons_zero, Nd.cells, List.getElem?_cons_zero, Nat.zero_mul, Nat.add_zero] at q0))
      all_goals go_ret
      all_goals refine ⟨ok3 HE.out, ?_⟩
      all_goals first | exact below_trans' (below_step B1) B4 | exact below_step B1
    · have HE : Hid (evOk ⟨1, 0, nm, y :: ys, i⟩ = false) := by unfold Hid; simp [evOk, hasName, hasList, nameB, hnb, hlb]
      have hk5 : ((y.kind : Int) == 5) = true := by rw [beq_iff_eq] at hlb ⊢; omega
      have NB := Lib.hid hnb
      clear hnb
      clear hlb
      go_enter Try.func16, Try.ntmps16
      go_wp2_with (first | (go_at_call 32; refine (HF.out _).mono ?_; rintro e w1 ⟨rfl, B1⟩; have c0 := agg_cells w _ _ w1 B1 0; have c1 := agg_cells w _ _ w1 B1 1; have c2 := agg_cells w _ _ w1 B1 2; have c3 := agg_cells w _ _ w1 B1 3; have c4 := agg_cells w _ _ w1 B1 4; simp only [List.getElem?_toArray, List.getElem?_cons_succ, List.getElem?_cons_zero] at c0 c1 c2 c3 c4; have hlt1 : w.heap.size < w1.heap.size := by have := B1.size; simp at this; omega) | (go_at_call 37; refine (HN.out _).mono ?_; rintro e wn ⟨rfl, rfl⟩; rw [NB.out]) | (go_at_call 38; refine (HCk.out _ (Nat.lt_of_lt_of_le hg (below_step B1).size) (HR.out.below (below_step B1) hg)).mono ?_; rintro e w4 ⟨rfl, B4⟩; have e3 := (B4.cell (p := ⟨w1.heap.size, 3, none⟩) (by simp)).trans (cell_of_row _ w1.heap.size 3 _ _ _ (heap_alloc_new w1 _)); simp only [List.getElem?_toArray, List.getElem?_cons_succ, List.getElem?_cons_zero] at e3; have d3 := (B4.cell (p := ⟨w.heap.size, 3, none⟩) (by simp; omega)).trans ((World.cell?_alloc_lt w1 _ ⟨w.heap.size, 3, none⟩ hlt1).trans c3); have q0 := (HR.out.below (below_trans' (below_step B1) B4) hg) 0 (by simp) 0 (by omega); simp only [List.getElem_cons_zero, Nd.cells, List.getElem?_cons_zero, Nat.zero_mul, Nat.add_zero] at q0))
      all_goals go_ret
      all_goals refine ⟨ok3 HE.out, ?_⟩
      all_goals first | exact below_trans' (below_step B1) B4 | exact below_step B1
  · rcases hlb : (y.kind == 5) with _ | _
    · have HE : Hid (evOk ⟨1, 0, nm, y :: ys, i⟩ = false) := by unfold Hid; simp [evOk, hasName, hasList, nameB, hnb, hlb]
      have hk5 : ((y.kind : Int) == 5) = false := by rw [beq_eq_false_iff_ne] at hlb ⊢; omega
      have NB := Lib.hid hnb
      clear hnb
      clear hlb
      go_enter Try.func16, Try.ntmps16
      go_wp2_with (first | (go_at_call 32; refine (HF.out _).mono ?_; rintro e w1 ⟨rfl, B1⟩; have c0 := agg_cells w _ _ w1 B1 0; have c1 := agg_cells w _ _ w1 B1 1; have c2 := agg_cells w _ _ w1 B1 2; have c3 := agg_cells w _ _ w1 B1 3; have c4 := agg_cells w _ _ w1 B1 4; simp only [List.getElem?_toArray, List.getElem?_cons_succ, List.getElem?_cons_zero] at c0 c1 c2 c3 c4; have hlt1 : w.heap.size < w1.heap.size := by have := B1.size; simp at this; omega) | (go_at_call 37; refine (HN.out _).mono ?_; rintro e wn ⟨rfl, rfl⟩; rw [NB.out]) | (go_at_call 38; refine (HCk.out _ (Nat.lt_of_lt_of_le hg (below_step B1).size) (HR.out.below (below_step B1) hg)).mono ?_; rintro e w4 ⟨rfl, B4⟩; have e3 := (B4.cell (p := ⟨w1.heap.size, 3, none⟩) (by simp)).trans (cell_of_row _ w1.heap.size 3 _ _ _ (heap_alloc_new w1 _)); simp only [List.getElem?_toArray, List.getElem?_cons_succ, List.getElem?_cons_zero] at e3; have d3 := (B4.cell (p := ⟨w.heap.size, 3, none⟩) (by simp; omega)).trans ((World.cell?_alloc_lt w1 _ ⟨w.heap.size, 3, none⟩ hlt1).trans c3); have q0 := (HR.out.below (below_trans' (below_step B1) B4) hg) 0 (by simp) 0 (by omega); simp only [List.getElem_cons_zero, Nd.cells, List.getElem?_cons_zero, Nat.zero_mul, Nat.add_zero] at q0))
      all_goals go_ret
      all_goals refine ⟨ok3 HE.out, ?_⟩
      all_goals first | exact below_trans' (below_step B1) B4 | exact below_step B1
    · have HE : Hid (evOk ⟨1, 0, nm, y :: ys, i⟩ = decide (0 ≤ i)) := by unfold Hid; rw [Bool.eq_iff_iff]; simp [evOk, hasName, hasList, nameB, hnb, hlb] <;> omega
      have hk5 : ((y.kind : Int) == 5) = true := by rw [beq_iff_eq] at hlb ⊢; omega
      have NB := Lib.hid hnb
      clear hnb
      clear hlb
      go_enter Try.func16, Try.ntmps16
      go_wp2_with (first | (go_at_call 32; refine (HF.out _).mono ?_; rintro e w1 ⟨rfl, B1⟩; have c0 := agg_cells w _ _ w1 B1 0; have c1 := agg_cells w _ _ w1 B1 1; have c2 := agg_cells w _ _ w1 B1 2; have c3 := agg_cells w _ _ w1 B1 3; have c4 := agg_cells w _ _ w1 B1 4; simp only [List.getElem?_toArray, List.getElem?_cons_succ, List.getElem?_cons_zero] at c0 c1 c2 c3 c4; have hlt1 : w.heap.size < w1.heap.size := by have := B1.size; simp at this; omega) | (go_at_call 37; refine (HN.out _).mono ?_; rintro e wn ⟨rfl, rfl⟩; rw [NB.out]) | (go_at_call 38; refine (HCk.out _ (Nat.lt_of_lt_of_le hg (below_step B1).size) (HR.out.below (below_step B1) hg)).mono ?_; rintro e w4 ⟨rfl, B4⟩; have e3 := (B4.cell (p := ⟨w1.heap.size, 3, none⟩) (by simp)).trans (cell_of_row _ w1.heap.size 3 _ _ _ (heap_alloc_new w1 _)); simp only [List.getElem?_toArray, List.getElem?_cons_succ, List.getElem?_cons_zero] at e3; have d3 := (B4.cell (p := ⟨w.heap.size, 3, none⟩) (by simp; omega)).trans ((World.cell?_alloc_lt w1 _ ⟨w.heap.size, 3, none⟩ hlt1).trans c3); have q0 := (HR.out.below (below_trans' (below_step B1) B4) hg) 0 (by simp) 0 (by omega); simp only [List.getElem_cons_zero, Nd.cells, List.getElem?_cons_zero, Nat.zero_mul, Nat.add_zero] at q0))
      all_goals go_ret
      all_goals refine ⟨?_, ?_⟩
      all_goals first | exact ok3 (HE.out.trans (decide_eq_false (by omega))) | exact ok0 (HE.out.trans (decide_eq_true (by first | trivial | omega))) | exact below_trans' (below_step B1) B4 | exact below_step B1

set_option maxRecDepth 20000 in
set_option maxHeartbeats 4000000 in
theorem evCheck_2 (id : Nat) (nm : List UInt8) (xs : List Nd) (i : Int) (hx : EvRaw ⟨2, id, nm, xs, i⟩) (A : Option Addr) (n cap : Nat) (w : World) (hv : VIn w A n xs) :
    Calls Try.prog 16 #[.agg #[.int .u8 2, .int .i64 (id : Int), .string ⟨nm.toArray⟩, .slice A n cap, .int .i64 i]] w fun e w' => e = .returned (okInt (evOk ⟨2, id, nm, xs, i⟩)) ∧ Below w.heap.size w w' := by
  have HF := Lib.hid (show ∀ w, Calls Try.prog 32 #[.int .u8 2] w fun e w' => e = .returned (.agg #[.bool true, .bool false, .bool false, .bool false, .bool false, .bool true, .int .i64 0, .int .i64 501]) ∧ Below w.heap.size w w' from fun w => fields_any 2 (by omega) w)
  have hid := hx.id_le
  have hi1 := hx.i64.1
  have hi2 := hx.i64.2
  simp only at hid hi1 hi2
  obtain rfl : id = 0 := hx.id rfl
  obtain rfl : nm = [] := hx.name rfl
  obtain rfl : xs = [] := hx.val rfl
  obtain rfl : n = 0 := by
    rcases hv with ⟨_, h2⟩ | ⟨g, _, h2, _⟩
    · exact h2
    · simpa using h2
  clear hv
  clear hx
  have HE : Hid (evOk ⟨2, 0, [], [], i⟩ = decide (0 ≤ i ∧ i ≤ 501)) := by unfold Hid; rw [Bool.eq_iff_iff]; simp [evOk, hasName, hasList, nameB] <;> omega
  go_enter Try.func16, Try.ntmps16
  go_wp2_with (first | (go_at_call 32; refine (HF.out _).mono ?_; rintro e w1 ⟨rfl, B1⟩; have c0 := agg_cells w _ _ w1 B1 0; have c1 := agg_cells w _ _ w1 B1 1; have c2 := agg_cells w _ _ w1 B1 2; have c3 := agg_cells w _ _ w1 B1 3; have c4 := agg_cells w _ _ w1 B1 4; simp only [List.getElem?_toArray, List.getElem?_cons_succ, List.getElem?_cons_zero] at c0 c1 c2 c3 c4; have hlt1 : w.heap.size < w1.heap.size := by have := B1.size; simp at this; omega))
  all_goals go_ret
  all_goals refine ⟨?_, ?_⟩
  all_goals first | exact ok3 (HE.out.trans (decide_eq_false (by omega))) | exact ok0 (HE.out.trans (decide_eq_true (by first | trivial | omega))) | exact below_step B1

set_option maxRecDepth 20000 in
set_option maxHeartbeats 4000000 in
theorem evCheck_3 (id : Nat) (nm : List UInt8) (xs : List Nd) (i : Int) (hx : EvRaw ⟨3, id, nm, xs, i⟩) (A : Option Addr) (n cap : Nat) (w : World) (hv : VIn w A n xs) :
    Calls Try.prog 16 #[.agg #[.int .u8 3, .int .i64 (id : Int), .string ⟨nm.toArray⟩, .slice A n cap, .int .i64 i]] w fun e w' => e = .returned (okInt (evOk ⟨3, id, nm, xs, i⟩)) ∧ Below w.heap.size w w' := by
  have HF := Lib.hid (show ∀ w, Calls Try.prog 32 #[.int .u8 3] w fun e w' => e = .returned (.agg #[.bool true, .bool true, .bool true, .bool true, .bool true, .bool false, .int .i64 0, .int .i64 0]) ∧ Below w.heap.size w w' from fun w => fields_any 3 (by omega) w)
  have hid := hx.id_le
  have hi1 := hx.i64.1
  have hi2 := hx.i64.2
  simp only at hid hi1 hi2
  obtain rfl : i = 0 := hx.int rfl
  have hnl := hx.name_le
  simp only at hnl
  have HN := Lib.hid (fun w => name_any ⟨nm.toArray⟩ (by unfold maxLen; show nm.length ≤ _; omega) w)
  clear hnl
  have hok := hx.ok rfl
  simp only at hok
  obtain ⟨g, rfl, rfl, hg, hrow⟩ : ∃ g, A = some ⟨g, 0, none⟩ ∧ n = xs.length ∧ g < w.heap.size ∧ RowOf w g xs := by
    rcases hv with ⟨h0, _⟩ | h
    · have := hok.1.pos; rw [h0] at this; simp at this
    · exact h
  have HCk := Lib.hid (fun W h1 h2 => check_ok g cap xs hok.1 W h1 h2)
  have HR := Lib.hid hrow
  have hpos := hok.1.pos
  obtain ⟨y, ys, rfl⟩ : ∃ y ys, xs = y :: ys := by
    cases xs with
    | nil => simp at hpos
    | cons y ys => exact ⟨y, ys, rfl⟩
  have HY := Lib.hid (hok.1.seq.fit 0).1.kind
  clear hrow hok hv hpos
  clear hx
  rcases hnb : (nameS ⟨nm.toArray⟩) with _ | _
  · rcases hlb : (y.kind == 5) with _ | _
    · have HE : Hid (evOk ⟨3, id, nm, y :: ys, 0⟩ = false) := by unfold Hid; simp [evOk, hasName, hasList, nameB, hnb, hlb]
      have hk5 : ((y.kind : Int) == 5) = false := by rw [beq_eq_false_iff_ne] at hlb ⊢; omega
      have NB := Lib.hid hnb
      clear hnb
      clear hlb
      go_enter Try.func16, Try.ntmps16
      go_wp2_with (first | (go_at_call 32; refine (HF.out _).mono ?_; rintro e w1 ⟨rfl, B1⟩; have c0 := agg_cells w _ _ w1 B1 0; have c1 := agg_cells w _ _ w1 B1 1; have c2 := agg_cells w _ _ w1 B1 2; have c3 := agg_cells w _ _ w1 B1 3; have c4 := agg_cells w _ _ w1 B1 4; simp only [List.getElem?_toArray, List.getElem?_cons_succ, List.getElem?_cons_zero] at c0 c1 c2 c3 c4; have hlt1 : w.heap.size < w1.heap.size := by have := B1.size; simp at this; omega) | (go_at_call 37; refine (HN.out _).mono ?_; rintro e wn ⟨rfl, rfl⟩; rw [NB.out]) | (go_at_call 38; refine (HCk.out _ (Nat.lt_of_lt_of_le hg (below_step B1).size) (HR.out.below (below_step B1) hg)).mono ?_; rintro e w4 ⟨rfl, B4⟩; have e3 := (B4.cell (p := ⟨w1.heap.size, 3, none⟩) (by simp)).trans (cell_of_row _ w1.heap.size 3 _ _ _ (heap_alloc_new w1 _)); simp only [List.getElem?_toArray, List.getElem?_cons_succ, List.getElem?_cons_zero] at e3; have d3 := (B4.cell (p := ⟨w.heap.size, 3, none⟩) (by simp; omega)).trans ((World.cell?_alloc_lt w1 _ ⟨w.heap.size, 3, none⟩ hlt1).trans c3); have q0 := (HR.out.below (below_trans' (below_step B1) B4) hg) 0 (by simp) 0 (by omega); simp only [List.getElem_cons_zero, Nd.cells, List.getElem?_cons_zero, Nat.zero_mul, Nat.add_zero] at q0))
      all_goals go_ret
      all_goals refine ⟨ok3 HE.out, ?_⟩
      all_goals first | exact below_trans' (below_step B1) B4 | exact below_step B1
    · have HE : Hid (evOk ⟨3, id, nm, y :: ys, 0⟩ = false) := by unfold Hid; simp [evOk, hasName, hasList, nameB, hnb, hlb]
      have hk5 : ((y.kind : Int) == 5) = true := by rw [beq_iff_eq] at hlb ⊢; omega
      have NB := Lib.hid hnb
      clear hnb
      clear hlb
      go_enter Try.func16, Try.ntmps16
      go_wp2_with (first | (go_at_call 32; refine (HF.out _).mono ?_; rintro e w1 ⟨rfl, B1⟩; have c0 := agg_cells w _ _ w1 B1 0; have c1 := agg_cells w _ _ w1 B1 1; have c2 := agg_cells w _ _ w1 B1 2; have c3 := agg_cells w _ _ w1 B1 3; have c4 := agg_cells w _ _ w1 B1 4; simp only [List.getElem?_toArray, List.getElem?_cons_succ, List.getElem?_cons_zero] at c0 c1 c2 c3 c4; have hlt1 : w.heap.size < w1.heap.size := by have := B1.size; simp at this; omega) | (go_at_call 37; refine (HN.out _).mono ?_; rintro e wn ⟨rfl, rfl⟩; rw [NB.out]) | (go_at_call 38; refine (HCk.out _ (Nat.lt_of_lt_of_le hg (below_step B1).size) (HR.out.below (below_step B1) hg)).mono ?_; rintro e w4 ⟨rfl, B4⟩; have e3 := (B4.cell (p := ⟨w1.heap.size, 3, none⟩) (by simp)).trans (cell_of_row _ w1.heap.size 3 _ _ _ (heap_alloc_new w1 _)); simp only [List.getElem?_toArray, List.getElem?_cons_succ, List.getElem?_cons_zero] at e3; have d3 := (B4.cell (p := ⟨w.heap.size, 3, none⟩) (by simp; omega)).trans ((World.cell?_alloc_lt w1 _ ⟨w.heap.size, 3, none⟩ hlt1).trans c3); have q0 := (HR.out.below (below_trans' (below_step B1) B4) hg) 0 (by simp) 0 (by omega); simp only [List.getElem_cons_zero, Nd.cells, List.getElem?_cons_zero, Nat.zero_mul, Nat.add_zero] at q0))
      all_goals go_ret
      all_goals refine ⟨ok3 HE.out, ?_⟩
      all_goals first | exact below_trans' (below_step B1) B4 | exact below_step B1
  · rcases hlb : (y.kind == 5) with _ | _
    · have HE : Hid (evOk ⟨3, id, nm, y :: ys, 0⟩ = false) := by unfold Hid; simp [evOk, hasName, hasList, nameB, hnb, hlb]
      have hk5 : ((y.kind : Int) == 5) = false := by rw [beq_eq_false_iff_ne] at hlb ⊢; omega
      have NB := Lib.hid hnb
      clear hnb
      clear hlb
      go_enter Try.func16, Try.ntmps16
      go_wp2_with (first | (go_at_call 32; refine (HF.out _).mono ?_; rintro e w1 ⟨rfl, B1⟩; have c0 := agg_cells w _ _ w1 B1 0; have c1 := agg_cells w _ _ w1 B1 1; have c2 := agg_cells w _ _ w1 B1 2; have c3 := agg_cells w _ _ w1 B1 3; have c4 := agg_cells w _ _ w1 B1 4; simp only [List.getElem?_toArray, List.getElem?_cons_succ, List.getElem?_cons_zero] at c0 c1 c2 c3 c4; have hlt1 : w.heap.size < w1.heap.size := by have := B1.size; simp at this; omega) | (go_at_call 37; refine (HN.out _).mono ?_; rintro e wn ⟨rfl, rfl⟩; rw [NB.out]) | (go_at_call 38; refine (HCk.out _ (Nat.lt_of_lt_of_le hg (below_step B1).size) (HR.out.below (below_step B1) hg)).mono ?_; rintro e w4 ⟨rfl, B4⟩; have e3 := (B4.cell (p := ⟨w1.heap.size, 3, none⟩) (by simp)).trans (cell_of_row _ w1.heap.size 3 _ _ _ (heap_alloc_new w1 _)); simp only [List.getElem?_toArray, List.getElem?_cons_succ, List.getElem?_cons_zero] at e3; have d3 := (B4.cell (p := ⟨w.heap.size, 3, none⟩) (by simp; omega)).trans ((World.cell?_alloc_lt w1 _ ⟨w.heap.size, 3, none⟩ hlt1).trans c3); have q0 := (HR.out.below (below_trans' (below_step B1) B4) hg) 0 (by simp) 0 (by omega); simp only [List.getElem_cons_zero, Nd.cells, List.getElem?_cons_zero, Nat.zero_mul, Nat.add_zero] at q0))
      all_goals go_ret
      all_goals refine ⟨ok3 HE.out, ?_⟩
      all_goals first | exact below_trans' (below_step B1) B4 | exact below_step B1
    · have HE : Hid (evOk ⟨3, id, nm, y :: ys, 0⟩ = decide (id ≤ 499)) := by unfold Hid; rw [Bool.eq_iff_iff]; simp [evOk, hasName, hasList, nameB, hnb, hlb] <;> omega
      have hk5 : ((y.kind : Int) == 5) = true := by rw [beq_iff_eq] at hlb ⊢; omega
      have NB := Lib.hid hnb
      clear hnb
      clear hlb
      go_enter Try.func16, Try.ntmps16
      go_wp2_with (first | (go_at_call 32; refine (HF.out _).mono ?_; rintro e w1 ⟨rfl, B1⟩; have c0 := agg_cells w _ _ w1 B1 0; have c1 := agg_cells w _ _ w1 B1 1; have c2 := agg_cells w _ _ w1 B1 2; have c3 := agg_cells w _ _ w1 B1 3; have c4 := agg_cells w _ _ w1 B1 4; simp only [List.getElem?_toArray, List.getElem?_cons_succ, List.getElem?_cons_zero] at c0 c1 c2 c3 c4; have hlt1 : w.heap.size < w1.heap.size := by have := B1.size; simp at this; omega) | (go_at_call 37; refine (HN.out _).mono ?_; rintro e wn ⟨rfl, rfl⟩; rw [NB.out]) | (go_at_call 38; refine (HCk.out _ (Nat.lt_of_lt_of_le hg (below_step B1).size) (HR.out.below (below_step B1) hg)).mono ?_; rintro e w4 ⟨rfl, B4⟩; have e3 := (B4.cell (p := ⟨w1.heap.size, 3, none⟩) (by simp)).trans (cell_of_row _ w1.heap.size 3 _ _ _ (heap_alloc_new w1 _)); simp only [List.getElem?_toArray, List.getElem?_cons_succ, List.getElem?_cons_zero] at e3; have d3 := (B4.cell (p := ⟨w.heap.size, 3, none⟩) (by simp; omega)).trans ((World.cell?_alloc_lt w1 _ ⟨w.heap.size, 3, none⟩ hlt1).trans c3); have q0 := (HR.out.below (below_trans' (below_step B1) B4) hg) 0 (by simp) 0 (by omega); simp only [List.getElem_cons_zero, Nd.cells, List.getElem?_cons_zero, Nat.zero_mul, Nat.add_zero] at q0))
      all_goals go_ret
      all_goals refine ⟨?_, ?_⟩
      all_goals first | exact ok3 (HE.out.trans (decide_eq_false (by omega))) | exact ok0 (HE.out.trans (decide_eq_true (by first | trivial | omega))) | exact below_trans' (below_step B1) B4 | exact below_step B1

set_option maxRecDepth 20000 in
set_option maxHeartbeats 4000000 in
theorem evCheck_4 (id : Nat) (nm : List UInt8) (xs : List Nd) (i : Int) (hx : EvRaw ⟨4, id, nm, xs, i⟩) (A : Option Addr) (n cap : Nat) (w : World) (hv : VIn w A n xs) :
    Calls Try.prog 16 #[.agg #[.int .u8 4, .int .i64 (id : Int), .string ⟨nm.toArray⟩, .slice A n cap, .int .i64 i]] w fun e w' => e = .returned (okInt (evOk ⟨4, id, nm, xs, i⟩)) ∧ Below w.heap.size w w' := by
  have HF := Lib.hid (show ∀ w, Calls Try.prog 32 #[.int .u8 4] w fun e w' => e = .returned (.agg #[.bool true, .bool true, .bool false, .bool false, .bool false, .bool true, .int .i64 0, .int .i64 9223372036854775807]) ∧ Below w.heap.size w w' from fun w => fields_any 4 (by omega) w)
  have hid := hx.id_le
  have hi1 := hx.i64.1
  have hi2 := hx.i64.2
  simp only at hid hi1 hi2
  obtain rfl : nm = [] := hx.name rfl
  obtain rfl : xs = [] := hx.val rfl
  obtain rfl : n = 0 := by
    rcases hv with ⟨_, h2⟩ | ⟨g, _, h2, _⟩
    · exact h2
    · simpa using h2
  clear hv
  clear hx
  have HE : Hid (evOk ⟨4, id, [], [], i⟩ = decide (id ≤ 499 ∧ 0 ≤ i)) := by unfold Hid; rw [Bool.eq_iff_iff]; simp [evOk, hasName, hasList, nameB] <;> omega
  go_enter Try.func16, Try.ntmps16
  go_wp2_with (first | (go_at_call 32; refine (HF.out _).mono ?_; rintro e w1 ⟨rfl, B1⟩; have c0 := agg_cells w _ _ w1 B1 0; have c1 := agg_cells w _ _ w1 B1 1; have c2 := agg_cells w _ _ w1 B1 2; have c3 := agg_cells w _ _ w1 B1 3; have c4 := agg_cells w _ _ w1 B1 4; simp only [List.getElem?_toArray, List.getElem?_cons_succ, List.getElem?_cons_zero] at c0 c1 c2 c3 c4; have hlt1 : w.heap.size < w1.heap.size := by have := B1.size; simp at this; omega))
  all_goals go_ret
  all_goals refine ⟨?_, ?_⟩
  all_goals first | exact ok3 (HE.out.trans (decide_eq_false (by omega))) | exact ok0 (HE.out.trans (decide_eq_true (by first | trivial | omega))) | exact below_step B1

set_option maxRecDepth 20000 in
set_option maxHeartbeats 4000000 in
theorem evCheck_5 (id : Nat) (nm : List UInt8) (xs : List Nd) (i : Int) (hx : EvRaw ⟨5, id, nm, xs, i⟩) (A : Option Addr) (n cap : Nat) (w : World) (hv : VIn w A n xs) :
    Calls Try.prog 16 #[.agg #[.int .u8 5, .int .i64 (id : Int), .string ⟨nm.toArray⟩, .slice A n cap, .int .i64 i]] w fun e w' => e = .returned (okInt (evOk ⟨5, id, nm, xs, i⟩)) ∧ Below w.heap.size w w' := by
  have HF := Lib.hid (show ∀ w, Calls Try.prog 32 #[.int .u8 5] w fun e w' => e = .returned (.agg #[.bool true, .bool true, .bool true, .bool true, .bool true, .bool false, .int .i64 0, .int .i64 0]) ∧ Below w.heap.size w w' from fun w => fields_any 5 (by omega) w)
  have hid := hx.id_le
  have hi1 := hx.i64.1
  have hi2 := hx.i64.2
  simp only at hid hi1 hi2
  obtain rfl : i = 0 := hx.int rfl
  have hnl := hx.name_le
  simp only at hnl
  have HN := Lib.hid (fun w => name_any ⟨nm.toArray⟩ (by unfold maxLen; show nm.length ≤ _; omega) w)
  clear hnl
  have hok := hx.ok rfl
  simp only at hok
  obtain ⟨g, rfl, rfl, hg, hrow⟩ : ∃ g, A = some ⟨g, 0, none⟩ ∧ n = xs.length ∧ g < w.heap.size ∧ RowOf w g xs := by
    rcases hv with ⟨h0, _⟩ | h
    · have := hok.1.pos; rw [h0] at this; simp at this
    · exact h
  have HCk := Lib.hid (fun W h1 h2 => check_ok g cap xs hok.1 W h1 h2)
  have HR := Lib.hid hrow
  have hpos := hok.1.pos
  obtain ⟨y, ys, rfl⟩ : ∃ y ys, xs = y :: ys := by
    cases xs with
    | nil => simp at hpos
    | cons y ys => exact ⟨y, ys, rfl⟩
  have HY := Lib.hid (hok.1.seq.fit 0).1.kind
  clear hrow hok hv hpos
  clear hx
  rcases hnb : (nameS ⟨nm.toArray⟩) with _ | _
  · rcases hlb : (y.kind == 5) with _ | _
    · have HE : Hid (evOk ⟨5, id, nm, y :: ys, 0⟩ = false) := by unfold Hid; simp [evOk, hasName, hasList, nameB, hnb, hlb]
      have hk5 : ((y.kind : Int) == 5) = false := by rw [beq_eq_false_iff_ne] at hlb ⊢; omega
      have NB := Lib.hid hnb
      clear hnb
      clear hlb
      go_enter Try.func16, Try.ntmps16
      go_wp2_with (first | (go_at_call 32; refine (HF.out _).mono ?_; rintro e w1 ⟨rfl, B1⟩; have c0 := agg_cells w _ _ w1 B1 0; have c1 := agg_cells w _ _ w1 B1 1; have c2 := agg_cells w _ _ w1 B1 2; have c3 := agg_cells w _ _ w1 B1 3; have c4 := agg_cells w _ _ w1 B1 4; simp only [List.getElem?_toArray, List.getElem?_cons_succ, List.getElem?_cons_zero] at c0 c1 c2 c3 c4; have hlt1 : w.heap.size < w1.heap.size := by have := B1.size; simp at this; omega) | (go_at_call 37; refine (HN.out _).mono ?_; rintro e wn ⟨rfl, rfl⟩; rw [NB.out]) | (go_at_call 38; refine (HCk.out _ (Nat.lt_of_lt_of_le hg (below_step B1).size) (HR.out.below (below_step B1) hg)).mono ?_; rintro e w4 ⟨rfl, B4⟩; have e3 := (B4.cell (p := ⟨w1.heap.size, 3, none⟩) (by simp)).trans (cell_of_row _ w1.heap.size 3 _ _ _ (heap_alloc_new w1 _)); simp only [List.getElem?_toArray, List.getElem?_cons_succ, List.getElem?_cons_zero] at e3; have d3 := (B4.cell (p := ⟨w.heap.size, 3, none⟩) (by simp; omega)).trans ((World.cell?_alloc_lt w1 _ ⟨w.heap.size, 3, none⟩ hlt1).trans c3); have q0 := (HR.out.below (below_trans' (below_step B1) B4) hg) 0 (by simp) 0 (by omega); simp only [List.getElem_cons_zero, Nd.cells, List.getElem?_cons_zero, Nat.zero_mul, Nat.add_zero] at q0))
      all_goals go_ret
      all_goals refine ⟨ok3 HE.out, ?_⟩
      all_goals first | exact below_trans' (below_step B1) B4 | exact below_step B1
    · have HE : Hid (evOk ⟨5, id, nm, y :: ys, 0⟩ = false) := by unfold Hid; simp [evOk, hasName, hasList, nameB, hnb, hlb]
      have hk5 : ((y.kind : Int) == 5) = true := by rw [beq_iff_eq] at hlb ⊢; omega
      have NB := Lib.hid hnb
      clear hnb
      clear hlb
      go_enter Try.func16, Try.ntmps16
      go_wp2_with (first | (go_at_call 32; refine (HF.out _).mono ?_; rintro e w1 ⟨rfl, B1⟩; have c0 := agg_cells w _ _ w1 B1 0; have c1 := agg_cells w _ _ w1 B1 1; have c2 := agg_cells w _ _ w1 B1 2; have c3 := agg_cells w _ _ w1 B1 3; have c4 := agg_cells w _ _ w1 B1 4; simp only [List.getElem?_toArray, List.getElem?_cons_succ, List.getElem?_cons_zero] at c0 c1 c2 c3 c4; have hlt1 : w.heap.size < w1.heap.size := by have := B1.size; simp at this; omega) | (go_at_call 37; refine (HN.out _).mono ?_; rintro e wn ⟨rfl, rfl⟩; rw [NB.out]) | (go_at_call 38; refine (HCk.out _ (Nat.lt_of_lt_of_le hg (below_step B1).size) (HR.out.below (below_step B1) hg)).mono ?_; rintro e w4 ⟨rfl, B4⟩; have e3 := (B4.cell (p := ⟨w1.heap.size, 3, none⟩) (by simp)).trans (cell_of_row _ w1.heap.size 3 _ _ _ (heap_alloc_new w1 _)); simp only [List.getElem?_toArray, List.getElem?_cons_succ, List.getElem?_cons_zero] at e3; have d3 := (B4.cell (p := ⟨w.heap.size, 3, none⟩) (by simp; omega)).trans ((World.cell?_alloc_lt w1 _ ⟨w.heap.size, 3, none⟩ hlt1).trans c3); have q0 := (HR.out.below (below_trans' (below_step B1) B4) hg) 0 (by simp) 0 (by omega); simp only [List.getElem_cons_zero, Nd.cells, List.getElem?_cons_zero, Nat.zero_mul, Nat.add_zero] at q0))
      all_goals go_ret
      all_goals refine ⟨ok3 HE.out, ?_⟩
      all_goals first | exact below_trans' (below_step B1) B4 | exact below_step B1
  · rcases hlb : (y.kind == 5) with _ | _
    · have HE : Hid (evOk ⟨5, id, nm, y :: ys, 0⟩ = false) := by unfold Hid; simp [evOk, hasName, hasList, nameB, hnb, hlb]
      have hk5 : ((y.kind : Int) == 5) = false := by rw [beq_eq_false_iff_ne] at hlb ⊢; omega
      have NB := Lib.hid hnb
      clear hnb
      clear hlb
      go_enter Try.func16, Try.ntmps16
      go_wp2_with (first | (go_at_call 32; refine (HF.out _).mono ?_; rintro e w1 ⟨rfl, B1⟩; have c0 := agg_cells w _ _ w1 B1 0; have c1 := agg_cells w _ _ w1 B1 1; have c2 := agg_cells w _ _ w1 B1 2; have c3 := agg_cells w _ _ w1 B1 3; have c4 := agg_cells w _ _ w1 B1 4; simp only [List.getElem?_toArray, List.getElem?_cons_succ, List.getElem?_cons_zero] at c0 c1 c2 c3 c4; have hlt1 : w.heap.size < w1.heap.size := by have := B1.size; simp at this; omega) | (go_at_call 37; refine (HN.out _).mono ?_; rintro e wn ⟨rfl, rfl⟩; rw [NB.out]) | (go_at_call 38; refine (HCk.out _ (Nat.lt_of_lt_of_le hg (below_step B1).size) (HR.out.below (below_step B1) hg)).mono ?_; rintro e w4 ⟨rfl, B4⟩; have e3 := (B4.cell (p := ⟨w1.heap.size, 3, none⟩) (by simp)).trans (cell_of_row _ w1.heap.size 3 _ _ _ (heap_alloc_new w1 _)); simp only [List.getElem?_toArray, List.getElem?_cons_succ, List.getElem?_cons_zero] at e3; have d3 := (B4.cell (p := ⟨w.heap.size, 3, none⟩) (by simp; omega)).trans ((World.cell?_alloc_lt w1 _ ⟨w.heap.size, 3, none⟩ hlt1).trans c3); have q0 := (HR.out.below (below_trans' (below_step B1) B4) hg) 0 (by simp) 0 (by omega); simp only [List.getElem_cons_zero, Nd.cells, List.getElem?_cons_zero, Nat.zero_mul, Nat.add_zero] at q0))
      all_goals go_ret
      all_goals refine ⟨ok3 HE.out, ?_⟩
      all_goals first | exact below_trans' (below_step B1) B4 | exact below_step B1
    · have HE : Hid (evOk ⟨5, id, nm, y :: ys, 0⟩ = decide (id ≤ 499)) := by unfold Hid; rw [Bool.eq_iff_iff]; simp [evOk, hasName, hasList, nameB, hnb, hlb] <;> omega
      have hk5 : ((y.kind : Int) == 5) = true := by rw [beq_iff_eq] at hlb ⊢; omega
      have NB := Lib.hid hnb
      clear hnb
      clear hlb
      go_enter Try.func16, Try.ntmps16
      go_wp2_with (first | (go_at_call 32; refine (HF.out _).mono ?_; rintro e w1 ⟨rfl, B1⟩; have c0 := agg_cells w _ _ w1 B1 0; have c1 := agg_cells w _ _ w1 B1 1; have c2 := agg_cells w _ _ w1 B1 2; have c3 := agg_cells w _ _ w1 B1 3; have c4 := agg_cells w _ _ w1 B1 4; simp only [List.getElem?_toArray, List.getElem?_cons_succ, List.getElem?_cons_zero] at c0 c1 c2 c3 c4; have hlt1 : w.heap.size < w1.heap.size := by have := B1.size; simp at this; omega) | (go_at_call 37; refine (HN.out _).mono ?_; rintro e wn ⟨rfl, rfl⟩; rw [NB.out]) | (go_at_call 38; refine (HCk.out _ (Nat.lt_of_lt_of_le hg (below_step B1).size) (HR.out.below (below_step B1) hg)).mono ?_; rintro e w4 ⟨rfl, B4⟩; have e3 := (B4.cell (p := ⟨w1.heap.size, 3, none⟩) (by simp)).trans (cell_of_row _ w1.heap.size 3 _ _ _ (heap_alloc_new w1 _)); simp only [List.getElem?_toArray, List.getElem?_cons_succ, List.getElem?_cons_zero] at e3; have d3 := (B4.cell (p := ⟨w.heap.size, 3, none⟩) (by simp; omega)).trans ((World.cell?_alloc_lt w1 _ ⟨w.heap.size, 3, none⟩ hlt1).trans c3); have q0 := (HR.out.below (below_trans' (below_step B1) B4) hg) 0 (by simp) 0 (by omega); simp only [List.getElem_cons_zero, Nd.cells, List.getElem?_cons_zero, Nat.zero_mul, Nat.add_zero] at q0))
      all_goals go_ret
      all_goals refine ⟨?_, ?_⟩
      all_goals first | exact ok3 (HE.out.trans (decide_eq_false (by omega))) | exact ok0 (HE.out.trans (decide_eq_true (by first | trivial | omega))) | exact below_trans' (below_step B1) B4 | exact below_step B1

set_option maxRecDepth 20000 in
set_option maxHeartbeats 4000000 in
theorem evCheck_6 (id : Nat) (nm : List UInt8) (xs : List Nd) (i : Int) (hx : EvRaw ⟨6, id, nm, xs, i⟩) (A : Option Addr) (n cap : Nat) (w : World) (hv : VIn w A n xs) :
    Calls Try.prog 16 #[.agg #[.int .u8 6, .int .i64 (id : Int), .string ⟨nm.toArray⟩, .slice A n cap, .int .i64 i]] w fun e w' => e = .returned (okInt (evOk ⟨6, id, nm, xs, i⟩)) ∧ Below w.heap.size w w' := by
  have HF := Lib.hid (show ∀ w, Calls Try.prog 32 #[.int .u8 6] w fun e w' => e = .returned (.agg #[.bool true, .bool false, .bool false, .bool false, .bool true, .bool false, .int .i64 0, .int .i64 0]) ∧ Below w.heap.size w w' from fun w => fields_any 6 (by omega) w)
  have hid := hx.id_le
  have hi1 := hx.i64.1
  have hi2 := hx.i64.2
  simp only at hid hi1 hi2
  obtain rfl : id = 0 := hx.id rfl
  obtain rfl : nm = [] := hx.name rfl
  obtain rfl : i = 0 := hx.int rfl
  have hok := hx.ok rfl
  simp only at hok
  obtain ⟨g, rfl, rfl, hg, hrow⟩ : ∃ g, A = some ⟨g, 0, none⟩ ∧ n = xs.length ∧ g < w.heap.size ∧ RowOf w g xs := by
    rcases hv with ⟨h0, _⟩ | h
    · have := hok.1.pos; rw [h0] at this; simp at this
    · exact h
  have HCk := Lib.hid (fun W h1 h2 => check_ok g cap xs hok.1 W h1 h2)
  have HR := Lib.hid hrow
  have hpos := hok.1.pos
  clear hrow hok hv hpos
  clear hx
  have HE : Hid (evOk ⟨6, 0, [], xs, 0⟩ = decide (True)) := by unfold Hid; rw [Bool.eq_iff_iff]; simp [evOk, hasName, hasList, nameB]
  go_enter Try.func16, Try.ntmps16
  go_wp2_with (first | (go_at_call 32; refine (HF.out _).mono ?_; rintro e w1 ⟨rfl, B1⟩; have c0 := agg_cells w _ _ w1 B1 0; have c1 := agg_cells w _ _ w1 B1 1; have c2 := agg_cells w _ _ w1 B1 2; have c3 := agg_cells w _ _ w1 B1 3; have c4 := agg_cells w _ _ w1 B1 4; simp only [List.getElem?_toArray, List.getElem?_cons_succ, List.getElem?_cons_zero] at c0 c1 c2 c3 c4; have hlt1 : w.heap.size < w1.heap.size := by have := B1.size; simp at this; omega) | (go_at_call 38; refine (HCk.out _ (Nat.lt_of_lt_of_le hg (below_step B1).size) (HR.out.below (below_step B1) hg)).mono ?_; rintro e w4 ⟨rfl, B4⟩; have e3 := (B4.cell (p := ⟨w1.heap.size, 3, none⟩) (by simp)).trans (cell_of_row _ w1.heap.size 3 _ _ _ (heap_alloc_new w1 _)); simp only [List.getElem?_toArray, List.getElem?_cons_succ, List.getElem?_cons_zero] at e3))
  all_goals go_ret
  all_goals refine ⟨?_, ?_⟩
  all_goals first | exact ok3 (HE.out.trans (decide_eq_false (by omega))) | exact ok0 (HE.out.trans (decide_eq_true (by first | trivial | omega))) | exact below_trans' (below_step B1) B4 | exact below_step B1

set_option maxRecDepth 20000 in
set_option maxHeartbeats 4000000 in
theorem evCheck_7 (id : Nat) (nm : List UInt8) (xs : List Nd) (i : Int) (hx : EvRaw ⟨7, id, nm, xs, i⟩) (A : Option Addr) (n cap : Nat) (w : World) (hv : VIn w A n xs) :
    Calls Try.prog 16 #[.agg #[.int .u8 7, .int .i64 (id : Int), .string ⟨nm.toArray⟩, .slice A n cap, .int .i64 i]] w fun e w' => e = .returned (okInt (evOk ⟨7, id, nm, xs, i⟩)) ∧ Below w.heap.size w w' := by
  have HF := Lib.hid (show ∀ w, Calls Try.prog 32 #[.int .u8 7] w fun e w' => e = .returned (.agg #[.bool true, .bool false, .bool false, .bool false, .bool true, .bool false, .int .i64 0, .int .i64 0]) ∧ Below w.heap.size w w' from fun w => fields_any 7 (by omega) w)
  have hid := hx.id_le
  have hi1 := hx.i64.1
  have hi2 := hx.i64.2
  simp only at hid hi1 hi2
  obtain rfl : id = 0 := hx.id rfl
  obtain rfl : nm = [] := hx.name rfl
  obtain rfl : i = 0 := hx.int rfl
  have hok := hx.ok rfl
  simp only at hok
  obtain ⟨g, rfl, rfl, hg, hrow⟩ : ∃ g, A = some ⟨g, 0, none⟩ ∧ n = xs.length ∧ g < w.heap.size ∧ RowOf w g xs := by
    rcases hv with ⟨h0, _⟩ | h
    · have := hok.1.pos; rw [h0] at this; simp at this
    · exact h
  have HCk := Lib.hid (fun W h1 h2 => check_ok g cap xs hok.1 W h1 h2)
  have HR := Lib.hid hrow
  have hpos := hok.1.pos
  clear hrow hok hv hpos
  clear hx
  have HE : Hid (evOk ⟨7, 0, [], xs, 0⟩ = decide (True)) := by unfold Hid; rw [Bool.eq_iff_iff]; simp [evOk, hasName, hasList, nameB]
  go_enter Try.func16, Try.ntmps16
  go_wp2_with (first | (go_at_call 32; refine (HF.out _).mono ?_; rintro e w1 ⟨rfl, B1⟩; have c0 := agg_cells w _ _ w1 B1 0; have c1 := agg_cells w _ _ w1 B1 1; have c2 := agg_cells w _ _ w1 B1 2; have c3 := agg_cells w _ _ w1 B1 3; have c4 := agg_cells w _ _ w1 B1 4; simp only [List.getElem?_toArray, List.getElem?_cons_succ, List.getElem?_cons_zero] at c0 c1 c2 c3 c4; have hlt1 : w.heap.size < w1.heap.size := by have := B1.size; simp at this; omega) | (go_at_call 38; refine (HCk.out _ (Nat.lt_of_lt_of_le hg (below_step B1).size) (HR.out.below (below_step B1) hg)).mono ?_; rintro e w4 ⟨rfl, B4⟩; have e3 := (B4.cell (p := ⟨w1.heap.size, 3, none⟩) (by simp)).trans (cell_of_row _ w1.heap.size 3 _ _ _ (heap_alloc_new w1 _)); simp only [List.getElem?_toArray, List.getElem?_cons_succ, List.getElem?_cons_zero] at e3))
  all_goals go_ret
  all_goals refine ⟨?_, ?_⟩
  all_goals first | exact ok3 (HE.out.trans (decide_eq_false (by omega))) | exact ok0 (HE.out.trans (decide_eq_true (by first | trivial | omega))) | exact below_trans' (below_step B1) B4 | exact below_step B1

set_option maxRecDepth 20000 in
set_option maxHeartbeats 4000000 in
theorem evCheck_8 (id : Nat) (nm : List UInt8) (xs : List Nd) (i : Int) (hx : EvRaw ⟨8, id, nm, xs, i⟩) (A : Option Addr) (n cap : Nat) (w : World) (hv : VIn w A n xs) :
    Calls Try.prog 16 #[.agg #[.int .u8 8, .int .i64 (id : Int), .string ⟨nm.toArray⟩, .slice A n cap, .int .i64 i]] w fun e w' => e = .returned (okInt (evOk ⟨8, id, nm, xs, i⟩)) ∧ Below w.heap.size w w' := by
  have HF := Lib.hid (show ∀ w, Calls Try.prog 32 #[.int .u8 8] w fun e w' => e = .returned (.agg #[.bool true, .bool false, .bool false, .bool false, .bool false, .bool true, .int .i64 1, .int .i64 9223372036854775807]) ∧ Below w.heap.size w w' from fun w => fields_any 8 (by omega) w)
  have hid := hx.id_le
  have hi1 := hx.i64.1
  have hi2 := hx.i64.2
  simp only at hid hi1 hi2
  obtain rfl : id = 0 := hx.id rfl
  obtain rfl : nm = [] := hx.name rfl
  obtain rfl : xs = [] := hx.val rfl
  obtain rfl : n = 0 := by
    rcases hv with ⟨_, h2⟩ | ⟨g, _, h2, _⟩
    · exact h2
    · simpa using h2
  clear hv
  clear hx
  have HE : Hid (evOk ⟨8, 0, [], [], i⟩ = decide (1 ≤ i)) := by unfold Hid; rw [Bool.eq_iff_iff]; simp [evOk, hasName, hasList, nameB] <;> omega
  go_enter Try.func16, Try.ntmps16
  go_wp2_with (first | (go_at_call 32; refine (HF.out _).mono ?_; rintro e w1 ⟨rfl, B1⟩; have c0 := agg_cells w _ _ w1 B1 0; have c1 := agg_cells w _ _ w1 B1 1; have c2 := agg_cells w _ _ w1 B1 2; have c3 := agg_cells w _ _ w1 B1 3; have c4 := agg_cells w _ _ w1 B1 4; simp only [List.getElem?_toArray, List.getElem?_cons_succ, List.getElem?_cons_zero] at c0 c1 c2 c3 c4; have hlt1 : w.heap.size < w1.heap.size := by have := B1.size; simp at this; omega))
  all_goals go_ret
  all_goals refine ⟨?_, ?_⟩
  all_goals first | exact ok3 (HE.out.trans (decide_eq_false (by omega))) | exact ok0 (HE.out.trans (decide_eq_true (by first | trivial | omega))) | exact below_step B1

set_option maxRecDepth 20000 in
set_option maxHeartbeats 4000000 in
theorem evCheck_9 (id : Nat) (nm : List UInt8) (xs : List Nd) (i : Int) (hx : EvRaw ⟨9, id, nm, xs, i⟩) (A : Option Addr) (n cap : Nat) (w : World) (hv : VIn w A n xs) :
    Calls Try.prog 16 #[.agg #[.int .u8 9, .int .i64 (id : Int), .string ⟨nm.toArray⟩, .slice A n cap, .int .i64 i]] w fun e w' => e = .returned (okInt (evOk ⟨9, id, nm, xs, i⟩)) ∧ Below w.heap.size w w' := by
  have HF := Lib.hid (show ∀ w, Calls Try.prog 32 #[.int .u8 9] w fun e w' => e = .returned (.agg #[.bool true, .bool true, .bool false, .bool false, .bool true, .bool false, .int .i64 0, .int .i64 0]) ∧ Below w.heap.size w w' from fun w => fields_any 9 (by omega) w)
  have hid := hx.id_le
  have hi1 := hx.i64.1
  have hi2 := hx.i64.2
  simp only at hid hi1 hi2
  obtain rfl : nm = [] := hx.name rfl
  obtain rfl : i = 0 := hx.int rfl
  have hok := hx.ok rfl
  simp only at hok
  obtain ⟨g, rfl, rfl, hg, hrow⟩ : ∃ g, A = some ⟨g, 0, none⟩ ∧ n = xs.length ∧ g < w.heap.size ∧ RowOf w g xs := by
    rcases hv with ⟨h0, _⟩ | h
    · have := hok.1.pos; rw [h0] at this; simp at this
    · exact h
  have HCk := Lib.hid (fun W h1 h2 => check_ok g cap xs hok.1 W h1 h2)
  have HR := Lib.hid hrow
  have hpos := hok.1.pos
  clear hrow hok hv hpos
  clear hx
  have HE : Hid (evOk ⟨9, id, [], xs, 0⟩ = decide (id ≤ 499)) := by unfold Hid; rw [Bool.eq_iff_iff]; simp [evOk, hasName, hasList, nameB] <;> omega
  go_enter Try.func16, Try.ntmps16
  go_wp2_with (first | (go_at_call 32; refine (HF.out _).mono ?_; rintro e w1 ⟨rfl, B1⟩; have c0 := agg_cells w _ _ w1 B1 0; have c1 := agg_cells w _ _ w1 B1 1; have c2 := agg_cells w _ _ w1 B1 2; have c3 := agg_cells w _ _ w1 B1 3; have c4 := agg_cells w _ _ w1 B1 4; simp only [List.getElem?_toArray, List.getElem?_cons_succ, List.getElem?_cons_zero] at c0 c1 c2 c3 c4; have hlt1 : w.heap.size < w1.heap.size := by have := B1.size; simp at this; omega) | (go_at_call 38; refine (HCk.out _ (Nat.lt_of_lt_of_le hg (below_step B1).size) (HR.out.below (below_step B1) hg)).mono ?_; rintro e w4 ⟨rfl, B4⟩; have e3 := (B4.cell (p := ⟨w1.heap.size, 3, none⟩) (by simp)).trans (cell_of_row _ w1.heap.size 3 _ _ _ (heap_alloc_new w1 _)); simp only [List.getElem?_toArray, List.getElem?_cons_succ, List.getElem?_cons_zero] at e3))
  all_goals go_ret
  all_goals refine ⟨?_, ?_⟩
  all_goals first | exact ok3 (HE.out.trans (decide_eq_false (by omega))) | exact ok0 (HE.out.trans (decide_eq_true (by first | trivial | omega))) | exact below_trans' (below_step B1) B4 | exact below_step B1

set_option maxRecDepth 20000 in
set_option maxHeartbeats 4000000 in
theorem evCheck_10 (id : Nat) (nm : List UInt8) (xs : List Nd) (i : Int) (hx : EvRaw ⟨10, id, nm, xs, i⟩) (A : Option Addr) (n cap : Nat) (w : World) (hv : VIn w A n xs) :
    Calls Try.prog 16 #[.agg #[.int .u8 10, .int .i64 (id : Int), .string ⟨nm.toArray⟩, .slice A n cap, .int .i64 i]] w fun e w' => e = .returned (okInt (evOk ⟨10, id, nm, xs, i⟩)) ∧ Below w.heap.size w w' := by
  have HF := Lib.hid (show ∀ w, Calls Try.prog 32 #[.int .u8 10] w fun e w' => e = .returned (.agg #[.bool true, .bool true, .bool false, .bool false, .bool false, .bool true, .int .i64 1, .int .i64 9223372036854775807]) ∧ Below w.heap.size w w' from fun w => fields_any 10 (by omega) w)
  have hid := hx.id_le
  have hi1 := hx.i64.1
  have hi2 := hx.i64.2
  simp only at hid hi1 hi2
  obtain rfl : nm = [] := hx.name rfl
  obtain rfl : xs = [] := hx.val rfl
  obtain rfl : n = 0 := by
    rcases hv with ⟨_, h2⟩ | ⟨g, _, h2, _⟩
    · exact h2
    · simpa using h2
  clear hv
  clear hx
  have HE : Hid (evOk ⟨10, id, [], [], i⟩ = decide (id ≤ 499 ∧ 1 ≤ i)) := by unfold Hid; rw [Bool.eq_iff_iff]; simp [evOk, hasName, hasList, nameB] <;> omega
  go_enter Try.func16, Try.ntmps16
  go_wp2_with (first | (go_at_call 32; refine (HF.out _).mono ?_; rintro e w1 ⟨rfl, B1⟩; have c0 := agg_cells w _ _ w1 B1 0; have c1 := agg_cells w _ _ w1 B1 1; have c2 := agg_cells w _ _ w1 B1 2; have c3 := agg_cells w _ _ w1 B1 3; have c4 := agg_cells w _ _ w1 B1 4; simp only [List.getElem?_toArray, List.getElem?_cons_succ, List.getElem?_cons_zero] at c0 c1 c2 c3 c4; have hlt1 : w.heap.size < w1.heap.size := by have := B1.size; simp at this; omega))
  all_goals go_ret
  all_goals refine ⟨?_, ?_⟩
  all_goals first | exact ok3 (HE.out.trans (decide_eq_false (by omega))) | exact ok0 (HE.out.trans (decide_eq_true (by first | trivial | omega))) | exact below_step B1

set_option maxRecDepth 20000 in
set_option maxHeartbeats 4000000 in
theorem evCheck_11 (id : Nat) (nm : List UInt8) (xs : List Nd) (i : Int) (hx : EvRaw ⟨11, id, nm, xs, i⟩) (A : Option Addr) (n cap : Nat) (w : World) (hv : VIn w A n xs) :
    Calls Try.prog 16 #[.agg #[.int .u8 11, .int .i64 (id : Int), .string ⟨nm.toArray⟩, .slice A n cap, .int .i64 i]] w fun e w' => e = .returned (okInt (evOk ⟨11, id, nm, xs, i⟩)) ∧ Below w.heap.size w w' := by
  have HF := Lib.hid (show ∀ w, Calls Try.prog 32 #[.int .u8 11] w fun e w' => e = .returned (.agg #[.bool true, .bool true, .bool false, .bool false, .bool false, .bool false, .int .i64 0, .int .i64 0]) ∧ Below w.heap.size w w' from fun w => fields_any 11 (by omega) w)
  have hid := hx.id_le
  have hi1 := hx.i64.1
  have hi2 := hx.i64.2
  simp only at hid hi1 hi2
  obtain rfl : nm = [] := hx.name rfl
  obtain rfl : i = 0 := hx.int rfl
  obtain rfl : xs = [] := hx.val rfl
  obtain rfl : n = 0 := by
    rcases hv with ⟨_, h2⟩ | ⟨g, _, h2, _⟩
    · exact h2
    · simpa using h2
  clear hv
  clear hx
  have HE : Hid (evOk ⟨11, id, [], [], 0⟩ = decide (id ≤ 499)) := by unfold Hid; rw [Bool.eq_iff_iff]; simp [evOk, hasName, hasList, nameB] <;> omega
  go_enter Try.func16, Try.ntmps16
  go_wp2_with (first | (go_at_call 32; refine (HF.out _).mono ?_; rintro e w1 ⟨rfl, B1⟩; have c0 := agg_cells w _ _ w1 B1 0; have c1 := agg_cells w _ _ w1 B1 1; have c2 := agg_cells w _ _ w1 B1 2; have c3 := agg_cells w _ _ w1 B1 3; have c4 := agg_cells w _ _ w1 B1 4; simp only [List.getElem?_toArray, List.getElem?_cons_succ, List.getElem?_cons_zero] at c0 c1 c2 c3 c4; have hlt1 : w.heap.size < w1.heap.size := by have := B1.size; simp at this; omega))
  all_goals go_ret
  all_goals refine ⟨?_, ?_⟩
  all_goals first | exact ok3 (HE.out.trans (decide_eq_false (by omega))) | exact ok0 (HE.out.trans (decide_eq_true (by first | trivial | omega))) | exact below_step B1

set_option maxRecDepth 20000 in
set_option maxHeartbeats 4000000 in
theorem evCheck_12 (id : Nat) (nm : List UInt8) (xs : List Nd) (i : Int) (hx : EvRaw ⟨12, id, nm, xs, i⟩) (A : Option Addr) (n cap : Nat) (w : World) (hv : VIn w A n xs) :
    Calls Try.prog 16 #[.agg #[.int .u8 12, .int .i64 (id : Int), .string ⟨nm.toArray⟩, .slice A n cap, .int .i64 i]] w fun e w' => e = .returned (okInt (evOk ⟨12, id, nm, xs, i⟩)) ∧ Below w.heap.size w w' := by
  have HF := Lib.hid (show ∀ w, Calls Try.prog 32 #[.int .u8 12] w fun e w' => e = .returned (.agg #[.bool true, .bool false, .bool true, .bool false, .bool true, .bool false, .int .i64 0, .int .i64 0]) ∧ Below w.heap.size w w' from fun w => fields_any 12 (by omega) w)
  have hid := hx.id_le
  have hi1 := hx.i64.1
  have hi2 := hx.i64.2
  simp only at hid hi1 hi2
  obtain rfl : id = 0 := hx.id rfl
  obtain rfl : i = 0 := hx.int rfl
  have hnl := hx.name_le
  simp only at hnl
  have HN := Lib.hid (fun w => name_any ⟨nm.toArray⟩ (by unfold maxLen; show nm.length ≤ _; omega) w)
  clear hnl
  have hok := hx.ok rfl
  simp only at hok
  obtain ⟨g, rfl, rfl, hg, hrow⟩ : ∃ g, A = some ⟨g, 0, none⟩ ∧ n = xs.length ∧ g < w.heap.size ∧ RowOf w g xs := by
    rcases hv with ⟨h0, _⟩ | h
    · have := hok.1.pos; rw [h0] at this; simp at this
    · exact h
  have HCk := Lib.hid (fun W h1 h2 => check_ok g cap xs hok.1 W h1 h2)
  have HR := Lib.hid hrow
  have hpos := hok.1.pos
  clear hrow hok hv hpos
  clear hx
  rcases hnb : (nameS ⟨nm.toArray⟩) with _ | _
  · have HE : Hid (evOk ⟨12, 0, nm, xs, 0⟩ = false) := by unfold Hid; simp [evOk, hasName, hasList, nameB, hnb]
    have NB := Lib.hid hnb
    clear hnb
    go_enter Try.func16, Try.ntmps16
    go_wp2_with (first | (go_at_call 32; refine (HF.out _).mono ?_; rintro e w1 ⟨rfl, B1⟩; have c0 := agg_cells w _ _ w1 B1 0; have c1 := agg_cells w _ _ w1 B1 1; have c2 := agg_cells w _ _ w1 B1 2; have c3 := agg_cells w _ _ w1 B1 3; have c4 := agg_cells w _ _ w1 B1 4; simp only [List.getElem?_toArray, List.getElem?_cons_succ, List.getElem?_cons_zero] at c0 c1 c2 c3 c4; have hlt1 : w.heap.size < w1.heap.size := by have := B1.size; simp at this; omega) | (go_at_call 37; refine (HN.out _).mono ?_; rintro e wn ⟨rfl, rfl⟩; rw [NB.out]) | (go_at_call 38; refine (HCk.out _ (Nat.lt_of_lt_of_le hg (below_step B1).size) (HR.out.below (below_step B1) hg)).mono ?_; rintro e w4 ⟨rfl, B4⟩; have e3 := (B4.cell (p := ⟨w1.heap.size, 3, none⟩) (by simp)).trans (cell_of_row _ w1.heap.size 3 _ _ _ (heap_alloc_new w1 _)); simp only [List.getElem?_toArray, List.getElem?_cons_succ, List.getElem?_cons_zero] at e3))
    all_goals go_ret
    all_goals refine ⟨ok3 HE.out, ?_⟩
    all_goals first | exact below_trans' (below_step B1) B4 | exact below_step B1
  · have HE : Hid (evOk ⟨12, 0, nm, xs, 0⟩ = decide (True)) := by unfold Hid; rw [Bool.eq_iff_iff]; simp [evOk, hasName, hasList, nameB, hnb]
    have NB := Lib.hid hnb
    clear hnb
    go_enter Try.func16, Try.ntmps16
    go_wp2_with (first | (go_at_call 32; refine (HF.out _).mono ?_; rintro e w1 ⟨rfl, B1⟩; have c0 := agg_cells w _ _ w1 B1 0; have c1 := agg_cells w _ _ w1 B1 1; have c2 := agg_cells w _ _ w1 B1 2; have c3 := agg_cells w _ _ w1 B1 3; have c4 := agg_cells w _ _ w1 B1 4; simp only [List.getElem?_toArray, List.getElem?_cons_succ, List.getElem?_cons_zero] at c0 c1 c2 c3 c4; have hlt1 : w.heap.size < w1.heap.size := by have := B1.size; simp at this; omega) | (go_at_call 37; refine (HN.out _).mono ?_; rintro e wn ⟨rfl, rfl⟩; rw [NB.out]) | (go_at_call 38; refine (HCk.out _ (Nat.lt_of_lt_of_le hg (below_step B1).size) (HR.out.below (below_step B1) hg)).mono ?_; rintro e w4 ⟨rfl, B4⟩; have e3 := (B4.cell (p := ⟨w1.heap.size, 3, none⟩) (by simp)).trans (cell_of_row _ w1.heap.size 3 _ _ _ (heap_alloc_new w1 _)); simp only [List.getElem?_toArray, List.getElem?_cons_succ, List.getElem?_cons_zero] at e3))
    all_goals go_ret
    all_goals refine ⟨?_, ?_⟩
    all_goals first | exact ok3 (HE.out.trans (decide_eq_false (by omega))) | exact ok0 (HE.out.trans (decide_eq_true (by first | trivial | omega))) | exact below_trans' (below_step B1) B4 | exact below_step B1

theorem evCheck_any (x : Ev) (hx : EvRaw x) (A : Option Addr) (n cap : Nat) (w : World) (hv : VIn w A n x.val) :
    Calls Try.prog 16 #[evV x A n cap] w fun e w' => e = .returned (okInt (evOk x)) ∧ Below w.heap.size w w' := by
  obtain ⟨k, id, nm, xs, i⟩ := x
  have hk := hx.kind
  simp only at hk
  have h : k = 1 ∨ k = 2 ∨ k = 3 ∨ k = 4 ∨ k = 5 ∨ k = 6 ∨ k = 7 ∨ k = 8 ∨ k = 9 ∨ k = 10 ∨ k = 11 ∨ k = 12 := by omega
  rcases h with rfl | rfl | rfl | rfl | rfl | rfl | rfl | rfl | rfl | rfl | rfl | rfl
  · exact evCheck_1 id nm xs i hx A n cap w hv
  · exact evCheck_2 id nm xs i hx A n cap w hv
  · exact evCheck_3 id nm xs i hx A n cap w hv
  · exact evCheck_4 id nm xs i hx A n cap w hv
  · exact evCheck_5 id nm xs i hx A n cap w hv
  · exact evCheck_6 id nm xs i hx A n cap w hv
  · exact evCheck_7 id nm xs i hx A n cap w hv
  · exact evCheck_8 id nm xs i hx A n cap w hv
  · exact evCheck_9 id nm xs i hx A n cap w hv
  · exact evCheck_10 id nm xs i hx A n cap w hv
  · exact evCheck_11 id nm xs i hx A n cap w hv
  · exact evCheck_12 id nm xs i hx A n cap w hv
end Go.Proofs.Yticipdjfkpakpaa
