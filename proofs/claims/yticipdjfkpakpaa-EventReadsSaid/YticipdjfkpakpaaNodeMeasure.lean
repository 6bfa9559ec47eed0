/- value.measure: nodes and bytes. -/
import Derived.Test.YticipdjfkpakpaaNodeSeq
namespace Go.Proofs.Yticipdjfkpakpaa
open Go.RowKit Go.Shelf
attribute [local go_sem] Oper.semAt_some
attribute [local go_sem] run_store_cx'

/-- a node's block -/
def NodeAt (W : World) (B : Nat) (x : Nd) : Prop := W.heap[B]? = some (.cells #[.int .u8 x.kind, .int .i64 x.kids, .int .i64 x.int, strV x.text, .complex .f64 x.re x.im] 40 (0, 0))
theorem nodeAt_own (B : Nat) (x : Nd) : Own (fun (_ : Unit) W => NodeAt W B x) := fun s X Y row hs hg hrow =>
  (hg.block B (Array.getElem?_eq_some_iff.1 hs).1 (fun e' => by obtain ⟨o, ho, hc⟩ := hrow B e'.symm; rw [show X.heap[B]? = _ from hs] at ho; cases ho; cases hc)).trans hs

/-- nodes and bytes -/
def msr : List NF → Nat | [] => 0 | x :: xs => 1 + x.1.1.text.length + msr xs
theorem msr_snoc (xs : List NF) (x : NF) : msr (xs ++ [x]) = msr xs + (1 + x.1.1.text.length) := by
  induction xs with
  | nil => simp [msr]
  | cons y ys ih => simp only [List.cons_append, msr, ih]; omega
theorem msr_le (xs : List NF) : msr xs ≤ 4097 * xs.length := by
  induction xs with
  | nil => simp [msr]
  | cons y ys ih => simp only [msr, List.length_cons]; have := y.2.2.1; omega

/-- a list of nodes that the iterator goes through -/
structure SeqOk (xs : List Nd) : Prop where
  few : xs.length ≤ 1024
  fit : ∀ j, Fit (xs[j]?.getD (nd0 0), opn 1 (xs.take (j + 1)))
  op : ∀ k, k < xs.length → 1 ≤ opn 1 (xs.take k)
  op2 : ∀ k, opn 1 (xs.take k) ≤ 2000000
  kids : ∀ x ∈ xs, x.kids ≤ 1024 ∧ (x.kind ≠ 5 → x.kids = 0)

set_option maxRecDepth 100000 in
set_option maxHeartbeats 4000000 in
theorem measure_in (F : Fence) (n : Nat) (h3 : F.fn 60) (h4 : F.fn 58) (h5 : F.fn 76) (hro : F.round = none) (hn : 6 ≤ n)
    (g cap : Nat) (xs : List Nd) (hX : SeqOk xs) (w : World) (hg : g < w.heap.size) (hI : RowOf w g xs) :
    CallsIn F n Try.prog 60 #[.slice (some ⟨g, 0, none⟩) xs.length cap] w fun e W' => e = .returned (.int .i64 (msr (withOpen xs hX.fit xs.length) : Int)) ∧ Below w.heap.size w W' := by
  have h1 : 1 ≤ n := by omega
  refine callsIn_of_wp_marks Try.func60 rfl h3 ?_ hro
  simp only [Try.ntmps60, List.size_toArray, List.length_cons, List.length_nil, Nat.reduceAdd, Nat.reduceSub, Array.replicate_succ, Array.replicate_zero, List.push_toArray, List.append_toArray, List.nil_append, List.cons_append]
  gi_wp2_with (gi_at_call 58; refine (seq_in F (n - 1) h4 hro _ _ _ _).mono ?_; rintro e w' ⟨rfl, rfl⟩)
  have bS := (Boxed.new w 3 (.int .i64 0)).alloc (.cells #[.slice (some ⟨g, 0, none⟩) xs.length cap] 25)
  have bA := Boxed.new (w.alloc (.cells #[.int .i64 0] 3)) 25 (.slice (some ⟨g, 0, none⟩) xs.length cap)
  simp only [World.size_alloc] at bA
  have hB0 : Below w.heap.size w ((w.alloc (.cells #[.int .i64 0] 3)).alloc (.cells #[.slice (some ⟨g, 0, none⟩) xs.length cap] 25)) := ((Below.refl _ w).alloc (Nat.le_refl _) _).alloc (by simp) _
  have hsz : ((w.alloc (.cells #[.int .i64 0] 3)).alloc (.cells #[.slice (some ⟨g, 0, none⟩) xs.length cap] 25)).heap.size = w.heap.size + 2 := by simp
  obtain ⟨W0, hW0⟩ : ∃ W0, (w.alloc (.cells #[.int .i64 0] 3)).alloc (.cells #[.slice (some ⟨g, 0, none⟩) xs.length cap] 25) = W0 := ⟨_, rfl⟩
  rw [hW0] at bS bA hB0 hsz ⊢
  clear hW0
  refine wpIn_rangeFunc_ownH hro h1 (gf := 76) (lb := #[.pointer (some ⟨w.heap.size + 1, 0, none⟩)]) rfl h5 (enters_of Try.func76 (by kernel_rfl) rfl)
    (nodes_stops F (n - 1) h5 hro (by omega) (w.heap.size + 1) w.heap.size g cap xs hX.few hX.fit hX.op hX.op2 hX.kids hg W0 (by omega) (by omega) bA.cell (hI.below hB0 hg)) belowK_t (belowK_b (by omega)) (Below.refl _ _) (fun _ => rfl)
    (fun pre W => Boxed W w.heap.size 3 (.int .i64 (msr pre : Int)) ∧ Below w.heap.size w W)
    (fun _ _ _ => False)
    (OwnFrom.and (Own.from (boxed_own _ _ _) _) (ownFrom_below (Nat.le_refl _) (by omega)))
    (fun _ _ _ _ _ hs _ _ => hs)
    ⟨bS, hB0⟩
    (fun x a' W => ∃ Bx, w.heap.size < Bx ∧ NodeAt W Bx x.1.1 ∧ a' = { tmps := #[.slice (some ⟨g, 0, none⟩) xs.length cap, undef, .int .i64 0, .pointer (some ⟨w.heap.size, 0, none⟩), .pointer (some ⟨Bx, 0, none⟩), .slice (some ⟨g, 0, none⟩) xs.length cap, .func (.func 76) #[] #[.pointer (some ⟨w.heap.size + 1, 0, none⟩)], ndV x.1.1, .int .i64 (x.1.2 : Int), undef, undef, undef, undef, undef, undef, undef], defers := [] })
    (fun x a' _ X Y row hs hg hr => by obtain ⟨Bx, h1, h2, h3⟩ := hs; exact ⟨Bx, h1, nodeAt_own Bx x.1.1 () X Y row h2 hg (fun r e => (hr r e).2), h3⟩)
    ?assign ?body ?done ?stop
  case assign =>
    rintro l pre x W K ⟨bS1, hB1⟩ hK
    unfold ndV strV
    gi_wp2
    exact hK _ _ ((KeepsOthers.alloc _ _).from _) ((Below.refl _ W).alloc hB1.size _) ⟨bS1.alloc _, hB1.alloc hB1.size _⟩ ⟨W.heap.size, bS1.lt, heap_alloc_new W _, rfl⟩
  case body =>
    rintro l pre x a' W hl ⟨r, hr⟩ ⟨bS1, hB1⟩ ⟨Bx, hBx, bX, rfl⟩ hlt
    have cS := bS1.cell
    have fS := bS1.frozen
    have cX : W.cell? ⟨Bx, 3, none⟩ = some (strV x.1.1.text) := by rw [cell_of_row W Bx 3 _ _ _ bX]; rfl
    unfold strV at cX
    have hm : (msr pre : Int) ≤ 4197000 := by have h1 := msr_le pre; have h2 := hX.few; have h3 : 4097 * pre.length ≤ 4097 * 1024 := Nat.mul_le_mul_left _ (by omega); omega
    have ht : (x.1.1.text.length : Int) ≤ 4096 := by have := x.2.2.1; omega
    gi_wp2
    exact ⟨(KeepsOthers.setCell _ _ _).from _, (Below.refl _ W).setCell (p := ⟨w.heap.size, 0, none⟩) (Nat.le_refl _) _,
      ⟨by have h := bS1.set (.int .i64 ((msr pre : Int) + (1 + (x.1.1.text.length : Int)))); rw [msr_snoc]; exact h, hB1.setCell (p := ⟨w.heap.size, 0, none⟩) (Nat.le_refl _) _⟩⟩
  case done =>
    rintro D ys W hD rfl ⟨bS1, hB1⟩ hK
    have cS := bS1.cell
    gi_wp2
    refine ⟨by simp, .inl ⟨_, _, rfl, run_takeDeferred hK, ?_⟩⟩
    exact ⟨_, results_tmp rfl _ _ _, rfl, hB1.trans (belowK_b (w := w) (Nat.le_refl _) W D _ _ (by omega) hK rfl rfl)⟩
  case stop =>
    rintro D c pre W hD _ h hK
    exact h.elim
end Go.Proofs.Yticipdjfkpakpaa
