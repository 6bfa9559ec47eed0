/- value.right: a right node is told to be right. -/
import Derived.Test.YticipdjfkpakpaaNodeSame
namespace Go.Proofs.Yticipdjfkpakpaa
open Go.RowKit

/-- a right node: its own kind's field alone, and a fine number -/
structure Nd.ok (x : Nd) : Prop where
  kind : x.kind ≤ 5
  kids : x.kind ≠ 5 → x.kids = 0
  kids_le : x.kids ≤ 1024
  int : x.kind ≠ 1 → x.kind ≠ 2 → x.int = 0
  bool : x.kind = 1 → x.int = 0 ∨ x.int = 1
  text : x.kind ≠ 3 → x.text = []
  num : x.kind ≠ 4 → x.re = 0 ∧ x.im = 0
  fine : x.fine
  re_lt : x.re < 18446744073709551616
  im_lt : x.im < 18446744073709551616

attribute [local go_sem] run_store_cx'
set_option maxRecDepth 100000 in
set_option maxHeartbeats 4000000 in
theorem right_any (x : Nd) (h : x.ok) (w : World) : Calls Try.prog 59 #[ndV x] w fun e w' => e = .returned (.bool true) ∧ Below w.heap.size w w' := by
  obtain ⟨k, ki, n, t, p, q⟩ := x
  obtain ⟨h1, h2, h3, h4, h5, h6, h7, h8, hp, hq⟩ := h
  simp only at h1 h2 h3 h4 h5 h6 h7 hp hq
  have HF := Lib.hid (show (fine64 p && fine64 q) = true by rw [h8.1, h8.2]; rfl)
  have HP := Lib.hid hp
  have HQ := Lib.hid hq
  have HE := Lib.hid (eq_cx (P := Try.prog) w 9999 38 .f64 .f64 p q p q Try.underlying38)
  clear hp hq
  unfold ndV strV
  go_enter Try.func59, Try.ntmps59
  go_wp2_with fail
  refine (fine_any p q HP.out HQ.out _).mono ?_
  rintro e w1 hQ
  rw [HF.out] at hQ
  obtain ⟨rfl, m, rfl⟩ := hQ
  have hb : Below w.heap.size w ((w.alloc (.cells #[.int .u8 (k : Int), .int .i64 (ki : Int), .int .i64 n, .string ⟨t.toArray⟩, .complex .f64 p q] 40)).drewN m) := ⟨rfl, rfl, rfl, by show w.heap.size ≤ (w.heap.push _).size; simp, fun i hi => Below.heap_alloc w _ i hi⟩
  have hc : ∀ o, ((w.alloc (.cells #[.int .u8 (k : Int), .int .i64 (ki : Int), .int .i64 n, .string ⟨t.toArray⟩, .complex .f64 p q] 40)).drewN m).cell? ⟨w.heap.size, o, none⟩ = (#[.int .u8 (k : Int), .int .i64 (ki : Int), .int .i64 n, .string ⟨t.toArray⟩, .complex .f64 p q] : Array Value)[o]? := fun o => cell_of_row _ _ o _ _ _ (heap_alloc_new w _)
  have hs : ((w.alloc (.cells #[.int .u8 (k : Int), .int .i64 (ki : Int), .int .i64 n, .string ⟨t.toArray⟩, .complex .f64 p q] 40)).drewN m).heap.size = w.heap.size + 1 := by show (w.heap.push _).size = _; simp
  generalize ((w.alloc (.cells #[.int .u8 (k : Int), .int .i64 (ki : Int), .int .i64 n, .string ⟨t.toArray⟩, .complex .f64 p q] 40)).drewN m) = W at hb hc hs ⊢
  have c0 := hc 0
  have c1 := hc 1
  have c2 := hc 2
  have c3 := hc 3
  have c4 := hc 4
  simp only [List.getElem?_toArray, List.getElem?_cons_succ, List.getElem?_cons_zero] at c0 c1 c2 c3 c4
  clear hc
  have hlt : w.heap.size < W.heap.size := by omega
  have hk : k = 0 ∨ k = 1 ∨ k = 2 ∨ k = 3 ∨ k = 4 ∨ k = 5 := by omega
  have f1 : Hid (FloatKind.f64.format.order p p = some .eq) := Lib.hid (eq_of_beq (float_same h8.1))
  have f2 : Hid (FloatKind.f64.format.order q q = some .eq) := Lib.hid (eq_of_beq (float_same h8.2))
  clear h8
  rcases hk with rfl | rfl | rfl | rfl | rfl | rfl
  · obtain rfl := h2 (by omega)
    obtain rfl := h4 (by omega) (by omega)
    obtain rfl := h6 (by omega)
    obtain ⟨rfl, rfl⟩ := h7 (by omega)
    clear h1 h2 h3 h4 h5 h6 h7
    go_wp2_with fail
    go_ret
    exact ⟨by first | rfl | simp [f1.out, f2.out], hb.alloc (by omega) _⟩
  · obtain rfl := h2 (by omega)
    obtain rfl := h6 (by omega)
    obtain ⟨rfl, rfl⟩ := h7 (by omega)
    rcases h5 rfl with rfl | rfl
    all_goals
      clear h1 h2 h3 h4 h5 h6 h7
      go_wp2_with fail
      go_ret
      exact ⟨by first | rfl | simp [f1.out, f2.out], hb.alloc (by omega) _⟩
  · obtain rfl := h2 (by omega)
    obtain rfl := h6 (by omega)
    obtain ⟨rfl, rfl⟩ := h7 (by omega)
    clear h1 h2 h3 h4 h5 h6 h7
    go_wp2_with fail
    go_ret
    exact ⟨by first | rfl | simp [f1.out, f2.out], hb.alloc (by omega) _⟩
  · obtain rfl := h2 (by omega)
    obtain rfl := h4 (by omega) (by omega)
    obtain ⟨rfl, rfl⟩ := h7 (by omega)
    clear h1 h2 h3 h4 h5 h6 h7
    go_wp2_with fail
    go_ret
    exact ⟨by first | rfl | simp [f1.out, f2.out], hb.alloc (by omega) _⟩
  · obtain rfl := h2 (by omega)
    obtain rfl := h4 (by omega) (by omega)
    obtain rfl := h6 (by omega)
    clear h1 h2 h3 h4 h5 h6 h7
    go_wp2_with fail
    go_ret
    exact ⟨by first | rfl | simp [f1.out, f2.out], hb.alloc (by omega) _⟩
  · obtain rfl := h4 (by omega) (by omega)
    obtain rfl := h6 (by omega)
    obtain ⟨rfl, rfl⟩ := h7 (by omega)
    have hki : ¬ ((ki : Int) < 0) := by omega
    clear h1 h2 h3 h4 h5 h6 h7
    go_wp2_with fail
    go_ret
    exact ⟨by first | rfl | simp [f1.out, f2.out], hb.alloc (by omega) _⟩
end Go.Proofs.Yticipdjfkpakpaa
