/- read[api.Value]: as the other readings from outside, but that the row of nodes is the reading's own. -/
import Derived.Test.YticipdjfkpakpaaCodeDoor
import Derived.Test.YticipdjfkpakpaaCodeAsk
import Derived.Test.YticipdjfkpakpaaNodeRead
import Derived.Deep.Onto
namespace Go.Proofs.Yticipdjfkpakpaa
open Go.RowKit

/-- what reading nodes from outside gives -/
def GetsV (w : World) (res : Except (Nat × Nat) (List Nd × Nat)) (e : Ending) (w' : World) : Prop :=
  (match res with
  | .ok (xs, tn) => ∃ v, e = .returned (.tuple #[v, .int .i64 (tn : Int), .int .i64 0]) ∧ w'.ownsRow w.heap.size 40 5 v xs.length (ndsV xs)
  | .error (p, en) => e = .returned (.tuple #[.slice none 0 0, .int .i64 (p : Int), .int .i64 (en : Int)])) ∧ Below w.heap.size w w'
theorem own_far {w w' : World} {base : Nat} {e : TypeId} {size n : Nat} {v : Value} {xs : List Value} (h : w.ownsRow base e size v n xs) {k : Nat} (hg : w.grownBy w' (some k)) (hk : k < base) : w'.ownsRow base e size v n xs :=
  h.kept hg (.inr fun e2 => by have := (h.lt k e2).1; omega)

theorem own_none {w w' : World} {base : Nat} {e : TypeId} {size n : Nat} {v : Value} {xs : List Value} (h : w.ownsRow base e size v n xs) (hg : w.grownBy w' none) : w'.ownsRow base e size v n xs :=
  h.kept (row := some w.heap.size) ⟨hg.os, hg.tape, hg.output, hg.size, fun i hi _ => hg.block i hi (by simp)⟩ (.inr fun e => by have := (h.lt _ e).2; omega)

set_option maxRecDepth 20000 in
set_option maxHeartbeats 800000 in
theorem catch_value (B bx ba be : Nat) (hB : B ≤ bx ∧ B ≤ ba ∧ B ≤ be) (x : Value) (a c p en : Int) (w : World) (hx : w.cell? ⟨bx, 0, none⟩ = some x) (ha : w.cell? ⟨ba, 0, none⟩ = some (.int .i64 a)) (he : w.cell? ⟨be, 0, none⟩ = some (.int .i64 c))
    (n1 : bx ≠ ba) (n2 : bx ≠ be) (n3 : ba ≠ be) (zx : w.frozen? ⟨bx, 0, none⟩ = false) (za : w.frozen? ⟨ba, 0, none⟩ = false) (ze : w.frozen? ⟨be, 0, none⟩ = false) :
    CallsD Try.prog 82 #[.pointer (some ⟨bx, 0, none⟩), .pointer (some ⟨ba, 0, none⟩), .pointer (some ⟨be, 0, none⟩)] (.panicking [{ v := faultV p en, recovered := false }]) w fun e u' w' =>
      e = .returned (.tuple #[]) ∧ u' = .panicking [{ v := faultV p en, recovered := true }] ∧ Caught w B bx ba be (.slice none 0 0) p en w' := by
  refine callsD_of_wpS Try.func82 rfl fun c₀ cs hu => ?_
  apply wpS_seq
  apply wpS_region
  simp [wpOpsS, go_sem, recoverD, hu, Try.ntmps82, Exit.thenS, faultV, assert_fault]
  refine wpS_of_wp ?_
  have lx : bx < w.heap.size := World.block_lt_of_cell? w _ hx
  have la : ba < w.heap.size := World.block_lt_of_cell? w _ ha
  have le : be < w.heap.size := World.block_lt_of_cell? w _ he
  have g1 : w.grownBy (w.alloc (.cells #[.int .i64 p, .int .i64 en] 127)) none := World.grownBy_alloc _ _ _
  have hx' := g1.cell hx (by simp)
  have ha' := g1.cell ha (by simp)
  have he' := g1.cell he (by simp)
  have zx' := (g1.frozen_far ⟨bx, 0, none⟩ lx (by simp)).trans zx
  have za' := (g1.frozen_far ⟨ba, 0, none⟩ la (by simp)).trans za
  have ze' := (g1.frozen_far ⟨be, 0, none⟩ le (by simp)).trans ze
  have f0 : (w.alloc (.cells #[.int .i64 p, .int .i64 en] 127)).cell? ⟨w.heap.size, 0, none⟩ = some (.int .i64 p) := by rw [cell_of_row _ _ 0 _ _ _ (heap_alloc_new w _)]; rfl
  have f1 : (w.alloc (.cells #[.int .i64 p, .int .i64 en] 127)).cell? ⟨w.heap.size, 1, none⟩ = some (.int .i64 en) := by rw [cell_of_row _ _ 1 _ _ _ (heap_alloc_new w _)]; rfl
  have gB : Below B w (w.alloc (.cells #[.int .i64 p, .int .i64 en] 127)) := (Below.refl B w).alloc (by omega) _
  generalize (w.alloc (.cells #[.int .i64 p, .int .i64 en] 127)) = w1 at g1 gB hx' ha' he' zx' za' ze' f0 f1 ⊢
  have m1 : ¬ bx = w.heap.size := by omega
  have m2 : ¬ ba = w.heap.size := by omega
  have m3 : ¬ be = w.heap.size := by omega
  clear hx ha he zx za ze
  simp only [Array.replicate_succ, Array.replicate_zero, List.push_toArray, List.append_toArray, List.nil_append, List.cons_append,
    List.setIfInBounds_toArray, List.set_cons_succ, List.set_cons_zero]
  go_wp2_with fail
  go_region
  exact ⟨rfl, _, rfl, _, results_none rfl _ _ _, rfl, rfl, caught_of gB n1 n2 n3 hB hx' ha' he'⟩

set_option maxRecDepth 20000 in
set_option maxHeartbeats 800000 in
theorem idle_value (bx ba be : Nat) (w : World) :
    CallsD Try.prog 82 #[.pointer (some ⟨bx, 0, none⟩), .pointer (some ⟨ba, 0, none⟩), .pointer (some ⟨be, 0, none⟩)] .returning w fun e u' w' =>
      e = .returned (.tuple #[]) ∧ u' = .returning ∧ w.grownBy w' none := by
  refine callsD_of_wpS Try.func82 rfl fun c₀ cs hu => ?_
  apply wpS_seq
  apply wpS_region
  simp [wpOpsS, go_sem, recoverD, hu, Try.ntmps82, Exit.thenS, assert_nil]
  refine wpS_of_wp ?_
  simp only [Array.replicate_succ, Array.replicate_zero, List.push_toArray, List.append_toArray, List.nil_append, List.cons_append,
    List.setIfInBounds_toArray, List.set_cons_succ, List.set_cons_zero]
  go_wp2_with fail
  refine ⟨rfl, .returning, ?_, _, results_none rfl _ _ _, rfl, rfl, World.grownBy_alloc _ _ _⟩
  cases c₀; simp_all

set_option maxRecDepth 20000 in
set_option maxHeartbeats 1600000 in
theorem read_value_of (w : World) (A : Option Addr) (len cap : Nat) (l : List UInt8) (hb : Bs w A len l) (hl : ∀ ad, A = some ad → 0 < l.length → ad.block < w.heap.size) (hcap : l.length ≤ cap ∧ cap ≤ maxLen) (fid : Nat) (res : Except (Nat × Nat) (List Nd × Nat))
    (hen : ∀ args w, (callFunc fid args).run Try.prog w = .ok (.enter fid args) w)
    (hcall : ∀ (w1 : World) (r : Nat), Rd w1 r A len cap l 0 → Calls Try.prog fid #[.pointer (some ⟨r, 0, none⟩)] w1 (GivesV w1 r A len cap l res)) :
    Calls Try.prog 66 #[.slice A len cap, .func (.func fid) #[] #[]] w (GetsV w res) := by
  have hmf : ∀ (fn : Fn) (first cap : Array Value) (w : World), (Instr.makeFunc fn first cap).run Try.prog w = .ok (.func fn first cap) w := fun _ _ _ _ => rfl
  have HC := Lib.hid hcall
  have HD := Lib.hid (desk_new w (.slice none 0 0) 25 #[.slice A len cap, .int .i64 0])
  have HR := Lib.hid (rd_new w (.slice none 0 0) 25 A len cap l hb hl hcap)
  clear hcall hl
  go_enter_defers Try.func66, Try.ntmps66
  go_wp2_with fail
  generalize ((((w.alloc (.cells #[.slice none 0 0] 25)).alloc (.cells #[.int .i64 0] 3)).alloc (.cells #[.int .i64 0] 28)).alloc (.cells #[.slice A len cap, .int .i64 0] 130)) = W at HD HR ⊢
  refine (HC.out W _ HR.out).mono ?_
  rcases res with ⟨p, en⟩ | ⟨xs, tn⟩
  · rintro e w1 ⟨rfl, hg⟩
    have hD := HD.out.grown hg
    go_wp2_with fail
    refine leaves_cons (f := 82) (args := #[.pointer (some ⟨w.heap.size, 0, none⟩), .pointer (some ⟨w.heap.size + 1, 0, none⟩), .pointer (some ⟨w.heap.size + 1 + 1, 0, none⟩)]) (by simp) (by simp [go_sem]) ?_
    refine (catch_value w.heap.size _ _ _ (by omega) _ 0 0 p en w1 (by rw [cell_new_row _ _ _ _ _ hD.b0]; rfl) (by rw [cell_new_row _ _ _ _ _ hD.b1]; rfl) (by rw [cell_new_row _ _ _ _ _ hD.b2]; rfl) (by omega) (by omega) (by omega) (froz_row _ _ _ _ _ hD.b0) (froz_row _ _ _ _ _ hD.b1) (froz_row _ _ _ _ _ hD.b2)).mono ?_
    rintro e u' w2 ⟨rfl, rfl, k1, k2, k3, kb⟩
    refine ⟨_, (by simp [results, Try.results66, go_sem, k1, k2, k3]), rfl, hD.below.trans kb⟩
  · rintro e w1 ⟨v, rfl, hown, hR1, hg⟩
    obtain ⟨Av, cv, rfl⟩ := own_slice hown
    have hown := hown.mono (HD.out.size)
    generalize hn : xs.length = n at hown
    have hD := HD.out.grown hg
    have c0 := cell_new_row _ _ 0 _ _ hD.b0
    have c1 := cell_new_row _ _ 0 _ _ hD.b1
    have c2 := cell_new_row _ _ 0 _ _ hD.b2
    have z0 := froz_row _ _ 0 _ _ hD.b0
    have z1 := froz_row _ _ 0 _ _ hD.b1
    have z2 := froz_row _ _ 0 _ _ hD.b2
    simp only [List.getElem?_toArray, List.getElem?_cons_zero] at c0 c1 c2
    have r1 := hR1.c1
    have kB := hD.below
    have ksz := hD.size
    clear hR1 hg hD HR HD hb hcap
    go_wp2_with fail
    have d0 := cell_set_same (u := .slice Av n cv) c0
    have d1 := (cell_set_far (w := w1) (b := w.heap.size) (c := w.heap.size + 1) (u := .slice Av n cv) (by omega)).trans c1
    have d2 := (cell_set_far (w := w1) (b := w.heap.size) (c := w.heap.size + 1 + 1) (u := .slice Av n cv) (by omega)).trans c2
    have d3 : (w1.setCell ⟨w.heap.size, 0, none⟩ (.slice Av n cv)).cell? ⟨w.heap.size + 1 + 1 + 1, 1, none⟩ = _ := (World.cell?_of_block (w := w1) (Below.heap_setCell _ _ _ _ (by simp; omega))).trans r1
    have y0 : (w1.setCell ⟨w.heap.size, 0, none⟩ (.slice Av n cv)).frozen? ⟨w.heap.size, 0, none⟩ = false := by rw [World.frozen?_setCell]; exact z0
    have y1 : (w1.setCell ⟨w.heap.size, 0, none⟩ (.slice Av n cv)).frozen? ⟨w.heap.size + 1, 0, none⟩ = false := by rw [World.frozen?_setCell]; exact z1
    have y2 : (w1.setCell ⟨w.heap.size, 0, none⟩ (.slice Av n cv)).frozen? ⟨w.heap.size + 1 + 1, 0, none⟩ = false := by rw [World.frozen?_setCell]; exact z2
    have kB2 : Below w.heap.size w (w1.setCell ⟨w.heap.size, 0, none⟩ (.slice Av n cv)) := kB.setCell (p := ⟨w.heap.size, 0, none⟩) (Nat.le_refl _) _
    have ksz2 : w.heap.size + 4 ≤ (w1.setCell ⟨w.heap.size, 0, none⟩ (.slice Av n cv)).heap.size := by simpa [World.setCell] using ksz
    have ho2 := own_far hown (grown_setCell w1 w.heap.size 0 (.slice Av n cv)) (by omega)
    generalize w1.setCell ⟨w.heap.size, 0, none⟩ (.slice Av n cv) = W2 at d0 d1 d2 d3 y0 y1 y2 kB2 ksz2 ho2 ⊢
    clear hown c0 c1 c2 r1 z0 z1 z2 kB ksz
    go_region
    have hk := caught_of (x := .slice Av n cv) (p := (tn : Int)) (en := 0) (Below.refl w.heap.size W2) (bx := w.heap.size) (ba := w.heap.size + 1) (be := w.heap.size + 1 + 1) (by omega) (by omega) (by omega) (by omega) d0 d1 d2
    have hsz : w.heap.size + 4 ≤ (((W2.setCell ⟨w.heap.size, 0, none⟩ (.slice Av n cv)).setCell ⟨w.heap.size + 1, 0, none⟩ (.int .i64 (tn : Int))).setCell ⟨w.heap.size + 1 + 1, 0, none⟩ (.int .i64 0)).drew.heap.size := by simpa [World.setCell] using ksz2
    have ho3 := (own_far (own_far (own_far ho2 (grown_setCell W2 w.heap.size 0 (.slice Av n cv)) (by omega)) (grown_setCell _ (w.heap.size + 1) 0 (.int .i64 (tn : Int))) (by omega)) (grown_setCell _ (w.heap.size + 1 + 1) 0 (.int .i64 0)) (by omega)).drew
    generalize (((W2.setCell ⟨w.heap.size, 0, none⟩ (.slice Av n cv)).setCell ⟨w.heap.size + 1, 0, none⟩ (.int .i64 (tn : Int))).setCell ⟨w.heap.size + 1 + 1, 0, none⟩ (.int .i64 0)).drew = W3 at hk hsz ho3 ⊢
    clear d0 d1 d2 d3 y0 y1 y2
    obtain ⟨q0, q1, q2, qb⟩ := hk
    go_wp2_with fail
    refine leaves_cons (f := 82) (args := #[.pointer (some ⟨w.heap.size, 0, none⟩), .pointer (some ⟨w.heap.size + 1, 0, none⟩), .pointer (some ⟨w.heap.size + 1 + 1, 0, none⟩)]) (by simp) (by simp [go_sem]) ?_
    refine (idle_value _ _ _ _).mono ?_
    rintro e u' w2 ⟨rfl, rfl, g⟩
    have k1 := (g.cell_far ⟨w.heap.size, 0, none⟩ (by simp; omega) (by simp)).trans q0
    have k2 := (g.cell_far ⟨w.heap.size + 1, 0, none⟩ (by simp; omega) (by simp)).trans q1
    have k3 := (g.cell_far ⟨w.heap.size + 1 + 1, 0, none⟩ (by simp; omega) (by simp)).trans q2
    refine ⟨_, (by simp [results, Try.results66, go_sem, k1, k2, k3]; try rfl), ⟨.slice Av n cv, rfl, by rw [hn]; exact World.ownsRow.mono (base := w.heap.size + 4) (own_none ho3 g) (by omega)⟩, (kB2.trans qb).grown g (by omega) (by simp)⟩
set_option maxRecDepth 20000 in
set_option maxHeartbeats 1600000 in
theorem read_valueC_of (w : World) (A : Option Addr) (len cap : Nat) (l : List UInt8) (hb : Bs w A len l) (hl : ∀ ad, A = some ad → 0 < l.length → ad.block < w.heap.size) (hcap : l.length ≤ cap ∧ cap ≤ maxLen) (fid : Nat) (res : Except (Nat × Nat) (List Nd × Nat)) (pc : Value)
    (hen : ∀ args w, (callFunc fid args).run Try.prog w = .ok (.enter fid args) w)
    (hcall : ∀ (w1 : World) (r : Nat), Below w.heap.size w w1 → w.heap.size ≤ r → Rd w1 r A len cap l 0 → Calls Try.prog fid #[.pointer (some ⟨r, 0, none⟩), pc] w1 (GivesV w1 r A len cap l res)) :
    Calls Try.prog 66 #[.slice A len cap, .func (.func fid) #[] #[pc]] w (GetsV w res) := by
  have hmf : ∀ (fn : Fn) (first cap : Array Value) (w : World), (Instr.makeFunc fn first cap).run Try.prog w = .ok (.func fn first cap) w := fun _ _ _ _ => rfl
  have HC := Lib.hid hcall
  have HD := Lib.hid (desk_new w (.slice none 0 0) 25 #[.slice A len cap, .int .i64 0])
  have HR := Lib.hid (rd_new w (.slice none 0 0) 25 A len cap l hb hl hcap)
  clear hcall hl
  go_enter_defers Try.func66, Try.ntmps66
  go_wp2_with fail
  generalize ((((w.alloc (.cells #[.slice none 0 0] 25)).alloc (.cells #[.int .i64 0] 3)).alloc (.cells #[.int .i64 0] 28)).alloc (.cells #[.slice A len cap, .int .i64 0] 130)) = W at HD HR ⊢
  refine (HC.out W _ HD.out.below (by omega) HR.out).mono ?_
  rcases res with ⟨p, en⟩ | ⟨xs, tn⟩
  · rintro e w1 ⟨rfl, hg⟩
    have hD := HD.out.grown hg
    go_wp2_with fail
    refine leaves_cons (f := 82) (args := #[.pointer (some ⟨w.heap.size, 0, none⟩), .pointer (some ⟨w.heap.size + 1, 0, none⟩), .pointer (some ⟨w.heap.size + 1 + 1, 0, none⟩)]) (by simp) (by simp [go_sem]) ?_
    refine (catch_value w.heap.size _ _ _ (by omega) _ 0 0 p en w1 (by rw [cell_new_row _ _ _ _ _ hD.b0]; rfl) (by rw [cell_new_row _ _ _ _ _ hD.b1]; rfl) (by rw [cell_new_row _ _ _ _ _ hD.b2]; rfl) (by omega) (by omega) (by omega) (froz_row _ _ _ _ _ hD.b0) (froz_row _ _ _ _ _ hD.b1) (froz_row _ _ _ _ _ hD.b2)).mono ?_
    rintro e u' w2 ⟨rfl, rfl, k1, k2, k3, kb⟩
    refine ⟨_, (by simp [results, Try.results66, go_sem, k1, k2, k3]), rfl, hD.below.trans kb⟩
  · rintro e w1 ⟨v, rfl, hown, hR1, hg⟩
    obtain ⟨Av, cv, rfl⟩ := own_slice hown
    have hown := hown.mono (HD.out.size)
    generalize hn : xs.length = n at hown
    have hD := HD.out.grown hg
    have c0 := cell_new_row _ _ 0 _ _ hD.b0
    have c1 := cell_new_row _ _ 0 _ _ hD.b1
    have c2 := cell_new_row _ _ 0 _ _ hD.b2
    have z0 := froz_row _ _ 0 _ _ hD.b0
    have z1 := froz_row _ _ 0 _ _ hD.b1
    have z2 := froz_row _ _ 0 _ _ hD.b2
    simp only [List.getElem?_toArray, List.getElem?_cons_zero] at c0 c1 c2
    have r1 := hR1.c1
    have kB := hD.below
    have ksz := hD.size
    clear hR1 hg hD HR HD hb hcap
    go_wp2_with fail
    have d0 := cell_set_same (u := .slice Av n cv) c0
    have d1 := (cell_set_far (w := w1) (b := w.heap.size) (c := w.heap.size + 1) (u := .slice Av n cv) (by omega)).trans c1
    have d2 := (cell_set_far (w := w1) (b := w.heap.size) (c := w.heap.size + 1 + 1) (u := .slice Av n cv) (by omega)).trans c2
    have d3 : (w1.setCell ⟨w.heap.size, 0, none⟩ (.slice Av n cv)).cell? ⟨w.heap.size + 1 + 1 + 1, 1, none⟩ = _ := (World.cell?_of_block (w := w1) (Below.heap_setCell _ _ _ _ (by simp; omega))).trans r1
    have y0 : (w1.setCell ⟨w.heap.size, 0, none⟩ (.slice Av n cv)).frozen? ⟨w.heap.size, 0, none⟩ = false := by rw [World.frozen?_setCell]; exact z0
    have y1 : (w1.setCell ⟨w.heap.size, 0, none⟩ (.slice Av n cv)).frozen? ⟨w.heap.size + 1, 0, none⟩ = false := by rw [World.frozen?_setCell]; exact z1
    have y2 : (w1.setCell ⟨w.heap.size, 0, none⟩ (.slice Av n cv)).frozen? ⟨w.heap.size + 1 + 1, 0, none⟩ = false := by rw [World.frozen?_setCell]; exact z2
    have kB2 : Below w.heap.size w (w1.setCell ⟨w.heap.size, 0, none⟩ (.slice Av n cv)) := kB.setCell (p := ⟨w.heap.size, 0, none⟩) (Nat.le_refl _) _
    have ksz2 : w.heap.size + 4 ≤ (w1.setCell ⟨w.heap.size, 0, none⟩ (.slice Av n cv)).heap.size := by simpa [World.setCell] using ksz
    have ho2 := own_far hown (grown_setCell w1 w.heap.size 0 (.slice Av n cv)) (by omega)
    generalize w1.setCell ⟨w.heap.size, 0, none⟩ (.slice Av n cv) = W2 at d0 d1 d2 d3 y0 y1 y2 kB2 ksz2 ho2 ⊢
    clear hown c0 c1 c2 r1 z0 z1 z2 kB ksz
    go_region
    have hk := caught_of (x := .slice Av n cv) (p := (tn : Int)) (en := 0) (Below.refl w.heap.size W2) (bx := w.heap.size) (ba := w.heap.size + 1) (be := w.heap.size + 1 + 1) (by omega) (by omega) (by omega) (by omega) d0 d1 d2
    have hsz : w.heap.size + 4 ≤ (((W2.setCell ⟨w.heap.size, 0, none⟩ (.slice Av n cv)).setCell ⟨w.heap.size + 1, 0, none⟩ (.int .i64 (tn : Int))).setCell ⟨w.heap.size + 1 + 1, 0, none⟩ (.int .i64 0)).drew.heap.size := by simpa [World.setCell] using ksz2
    have ho3 := (own_far (own_far (own_far ho2 (grown_setCell W2 w.heap.size 0 (.slice Av n cv)) (by omega)) (grown_setCell _ (w.heap.size + 1) 0 (.int .i64 (tn : Int))) (by omega)) (grown_setCell _ (w.heap.size + 1 + 1) 0 (.int .i64 0)) (by omega)).drew
    generalize (((W2.setCell ⟨w.heap.size, 0, none⟩ (.slice Av n cv)).setCell ⟨w.heap.size + 1, 0, none⟩ (.int .i64 (tn : Int))).setCell ⟨w.heap.size + 1 + 1, 0, none⟩ (.int .i64 0)).drew = W3 at hk hsz ho3 ⊢
    clear d0 d1 d2 d3 y0 y1 y2
    obtain ⟨q0, q1, q2, qb⟩ := hk
    go_wp2_with fail
    refine leaves_cons (f := 82) (args := #[.pointer (some ⟨w.heap.size, 0, none⟩), .pointer (some ⟨w.heap.size + 1, 0, none⟩), .pointer (some ⟨w.heap.size + 1 + 1, 0, none⟩)]) (by simp) (by simp [go_sem]) ?_
    refine (idle_value _ _ _ _).mono ?_
    rintro e u' w2 ⟨rfl, rfl, g⟩
    have k1 := (g.cell_far ⟨w.heap.size, 0, none⟩ (by simp; omega) (by simp)).trans q0
    have k2 := (g.cell_far ⟨w.heap.size + 1, 0, none⟩ (by simp; omega) (by simp)).trans q1
    have k3 := (g.cell_far ⟨w.heap.size + 1 + 1, 0, none⟩ (by simp; omega) (by simp)).trans q2
    refine ⟨_, (by simp [results, Try.results66, go_sem, k1, k2, k3]; try rfl), ⟨.slice Av n cv, rfl, by rw [hn]; exact World.ownsRow.mono (base := w.heap.size + 4) (own_none ho3 g) (by omega)⟩, (kB2.trans qb).grown g (by omega) (by simp)⟩

theorem enters_value (args : Array Value) (w : World) : (callFunc 67 args).run Try.prog w = .ok (.enter 67 args) w := by kernel_rfl

set_option maxHeartbeats 800000 in
theorem readValue_any (w : World) (A : Option Addr) (len cap : Nat) (l : List UInt8) (h : In w A len cap l) :
    Calls Try.prog 47 #[.slice A len cap] w (GetsV w (rdValue l)) := by
  have H := Lib.hid h
  clear h
  go_enter Try.func47, Try.ntmps47
  go_wp2_with fail
  refine (read_value_of w A len cap l H.out.bs H.out.lt H.out.cap_le _ _ enters_value (fun w1 r hr => value_any w1 r A len cap l 0 hr)).mono ?_
  rintro e w' hg
  rcases hres : rdNdsAt l 0 with ⟨p, en⟩ | ⟨x, tn⟩
  · rw [hres] at hg
    have HS := Lib.hid hres
    clear hres
    obtain ⟨rfl, hb⟩ := hg
    go_wp2_with fail
    go_ret3
    show GetsV w (rdNdsAt l 0) _ _
    rw [HS.out]
    exact ⟨rfl, hb⟩
  · rw [hres] at hg
    have HS := Lib.hid hres
    clear hres
    obtain ⟨⟨v, rfl, ho⟩, hb⟩ := hg
    obtain ⟨Av, cv, rfl⟩ := own_slice ho
    go_wp2_with fail
    go_ret3
    show GetsV w (rdNdsAt l 0) _ _
    rw [HS.out]
    exact ⟨⟨_, rfl, ho⟩, hb⟩
end Go.Proofs.Yticipdjfkpakpaa
