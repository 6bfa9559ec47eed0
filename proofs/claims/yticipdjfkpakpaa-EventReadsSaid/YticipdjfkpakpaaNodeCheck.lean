/- value.Check: nodes that are a value are told to be one. -/
import Derived.Test.YticipdjfkpakpaaNodeMeasure
namespace Go.Proofs.Yticipdjfkpakpaa
open Go.RowKit Go.Shelf
attribute [local go_sem] Oper.semAt_some
attribute [local go_sem] run_store_cx'

/-- what is open behind some nodes -/
def lastO (pre : List NF) : Nat := match pre.getLast? with | none => 1 | some x => x.1.2
theorem lastO_snoc (pre : List NF) (x : NF) : lastO (pre ++ [x]) = x.1.2 := by simp [lastO]
theorem below_keeps {W W' : World} (h : Below W.heap.size W W') (B : Nat) : KeepsFrom B W W' :=
  ⟨h.size, fun k o _ hk _ => (h.block k (Array.getElem?_eq_some_iff.1 hk).1).trans hk⟩
theorem Boxed.bel {W W' : World} {B : Nat} {t : TypeId} {v : Value} (h : Boxed W B t v) (hb : Below W.heap.size W W') : Boxed W' B t v := (hb.block B h.lt).trans h
theorem withOpen_last (xs : List Nd) (hf : ∀ j, Fit (xs[j]?.getD (nd0 0), opn 1 (xs.take (j + 1)))) (k : Nat) (pre : List NF) (x : NF) (h : pre ++ [x] = withOpen xs hf k) : k = pre.length + 1 ∧ x.1.2 = opn 1 (xs.take k) := by
  have hl : k = pre.length + 1 := by have := congrArg List.length h; rw [withOpen_length] at this; simp at this; omega
  subst hl
  rw [withOpen_succ] at h
  have := (List.append_inj' h rfl).2
  simp at this
  exact ⟨rfl, by rw [this]⟩

/-- nodes that are a value -/
structure ValOk (xs : List Nd) : Prop where
  seq : SeqOk xs
  pos : 0 < xs.length
  done : opn 1 xs = 0
  size : msr (withOpen xs seq.fit xs.length) ≤ 4096

set_option maxRecDepth 100000 in
set_option maxHeartbeats 4000000 in
theorem check_ok (g cap : Nat) (xs : List Nd) (hV : ValOk xs) (w : World) (hg : g < w.heap.size) (hI : RowOf w g xs) :
    Calls Try.prog 38 #[.slice (some ⟨g, 0, none⟩) xs.length cap] w fun e W' => e = .returned (.int .i64 0) ∧ Below w.heap.size w W' := by
  have hX := hV.seq
  have hfew : ¬ (1024 : Int) < (xs.length : Int) := by have := hX.few; omega
  refine (callsIn_wide (n := 8)).1 ?_
  refine callsIn_of_wp_marks Try.func38 rfl trivial ?_ rfl
  simp only [Try.ntmps38, List.size_toArray, List.length_cons, List.length_nil, Nat.reduceAdd, Nat.reduceSub, Array.replicate_succ, Array.replicate_zero, List.push_toArray, List.append_toArray, List.nil_append, List.cons_append]
  gi_wp2_with (refine ⟨trivial, ?_⟩; gi_at_call 58; refine (seq_in Fence.wide _ trivial rfl _ _ _ _).mono ?_; rintro e w' ⟨rfl, rfl⟩)
  have b0 := ((((Boxed.new w 25 (.slice (some ⟨g, 0, none⟩) xs.length cap)).alloc (.cells #[.int .i64 0] 28)).alloc (.cells #[.int .i64 1] 3)).alloc (.cells #[.int .i64 0] 3)).alloc (.cells #[.slice (some ⟨g, 0, none⟩) xs.length cap] 25)
  have b1 := (((Boxed.new (w.alloc (.cells #[.slice (some ⟨g, 0, none⟩) xs.length cap] 25)) 28 (.int .i64 0)).alloc (.cells #[.int .i64 1] 3)).alloc (.cells #[.int .i64 0] 3)).alloc (.cells #[.slice (some ⟨g, 0, none⟩) xs.length cap] 25)
  have b2 := ((Boxed.new ((w.alloc (.cells #[.slice (some ⟨g, 0, none⟩) xs.length cap] 25)).alloc (.cells #[.int .i64 0] 28)) 3 (.int .i64 1)).alloc (.cells #[.int .i64 0] 3)).alloc (.cells #[.slice (some ⟨g, 0, none⟩) xs.length cap] 25)
  have b3 := (Boxed.new (((w.alloc (.cells #[.slice (some ⟨g, 0, none⟩) xs.length cap] 25)).alloc (.cells #[.int .i64 0] 28)).alloc (.cells #[.int .i64 1] 3)) 3 (.int .i64 0)).alloc (.cells #[.slice (some ⟨g, 0, none⟩) xs.length cap] 25)
  have bA := Boxed.new ((((w.alloc (.cells #[.slice (some ⟨g, 0, none⟩) xs.length cap] 25)).alloc (.cells #[.int .i64 0] 28)).alloc (.cells #[.int .i64 1] 3)).alloc (.cells #[.int .i64 0] 3)) 25 (.slice (some ⟨g, 0, none⟩) xs.length cap)
  simp only [World.size_alloc] at b1 b2 b3 bA
  have hB0 : Below w.heap.size w (((((w.alloc (.cells #[.slice (some ⟨g, 0, none⟩) xs.length cap] 25)).alloc (.cells #[.int .i64 0] 28)).alloc (.cells #[.int .i64 1] 3)).alloc (.cells #[.int .i64 0] 3)).alloc (.cells #[.slice (some ⟨g, 0, none⟩) xs.length cap] 25)) := (((((Below.refl _ w).alloc (Nat.le_refl _) _).alloc (by simp) _).alloc (by simp; omega) _).alloc (by simp; omega) _).alloc (by simp; omega) _
  have hsz : (((((w.alloc (.cells #[.slice (some ⟨g, 0, none⟩) xs.length cap] 25)).alloc (.cells #[.int .i64 0] 28)).alloc (.cells #[.int .i64 1] 3)).alloc (.cells #[.int .i64 0] 3)).alloc (.cells #[.slice (some ⟨g, 0, none⟩) xs.length cap] 25)).heap.size = w.heap.size + 1 + 1 + 1 + 1 + 1 := by simp
  obtain ⟨W0, hW0⟩ : ∃ W0, (((((w.alloc (.cells #[.slice (some ⟨g, 0, none⟩) xs.length cap] 25)).alloc (.cells #[.int .i64 0] 28)).alloc (.cells #[.int .i64 1] 3)).alloc (.cells #[.int .i64 0] 3)).alloc (.cells #[.slice (some ⟨g, 0, none⟩) xs.length cap] 25)) = W0 := ⟨_, rfl⟩
  rw [hW0] at b0 b1 b2 b3 bA hB0 hsz ⊢
  clear hW0
  refine wpIn_rangeFunc_ownH rfl (by omega) (gf := 76) (lb := #[.pointer (some ⟨w.heap.size + 1 + 1 + 1 + 1, 0, none⟩)]) rfl trivial (enters_of Try.func76 (by kernel_rfl) rfl)
    (nodes_stops Fence.wide _ trivial rfl (by omega) (w.heap.size + 1 + 1 + 1 + 1) w.heap.size g cap xs hX.few hX.fit hX.op hX.op2 hX.kids hg W0 (by omega) (by omega) bA.cell (hI.below hB0 hg)) belowK_t (belowK_b (by omega)) (Below.refl _ _) (fun _ => rfl)
    (fun pre W => (((Boxed W w.heap.size 25 (.slice (some ⟨g, 0, none⟩) xs.length cap) ∧ Boxed W (w.heap.size + 1) 28 (.int .i64 0)) ∧ Boxed W (w.heap.size + 1 + 1) 3 (.int .i64 (lastO pre : Int))) ∧ Boxed W (w.heap.size + 1 + 1 + 1) 3 (.int .i64 (pre.length : Int))) ∧ Below w.heap.size w W)
    (fun c pre _ => ∃ (pre' : List NF) (x : NF), pre = pre' ++ [x] ∧ x.1.2 = 0 ∧ pre'.length + 1 < xs.length)
    (OwnFrom.and (OwnFrom.and (OwnFrom.and (OwnFrom.and (Own.from (boxed_own _ _ _) _) (Own.from (boxed_own _ _ _) _)) (Own.from (boxed_own _ _ _) _)) (Own.from (boxed_own _ _ _) _)) (ownFrom_below (Nat.le_refl _) (by omega)))
    (fun _ _ _ _ _ hs _ _ => hs)
    ⟨⟨⟨⟨b0, b1⟩, b2⟩, b3⟩, hB0⟩
    (fun x a' W => ∃ Bx, w.heap.size + 1 + 1 + 1 < Bx ∧ NodeAt W Bx x.1.1 ∧ a' = { tmps := #[.slice (some ⟨g, 0, none⟩) xs.length cap, .pointer (some ⟨w.heap.size, 0, none⟩), .pointer (some ⟨w.heap.size + 1, 0, none⟩), .pointer (some ⟨w.heap.size + 1 + 1, 0, none⟩), .pointer (some ⟨w.heap.size + 1 + 1 + 1, 0, none⟩), .pointer (some ⟨Bx, 0, none⟩), .int .i64 (x.1.2 : Int), .slice (some ⟨g, 0, none⟩) xs.length cap, .int .i64 xs.length, .bool false, .slice (some ⟨g, 0, none⟩) xs.length cap, .func (.func 76) #[] #[.pointer (some ⟨w.heap.size + 1 + 1 + 1 + 1, 0, none⟩)], ndV x.1.1, .int .i64 (x.1.2 : Int), undef, undef, undef, undef, undef, undef, undef, undef, undef, undef, undef, undef, undef, undef, undef, undef, undef, undef, undef, undef, undef], defers := [] })
    (fun x a' _ X Y row hs hg hr => by obtain ⟨Bx, h1, h2, h3⟩ := hs; exact ⟨Bx, h1, nodeAt_own Bx x.1.1 () X Y row h2 hg (fun r e => (hr r e).2), h3⟩)
    ?assign ?body ?done ?stop
  case assign =>
    rintro l pre x W K ⟨⟨⟨⟨q0, q1⟩, q2⟩, q3⟩, hB1⟩ hK
    unfold ndV strV
    gi_wp2
    exact hK _ _ ((KeepsOthers.alloc _ _).from _) ((Below.refl _ W).alloc hB1.size _) ⟨⟨⟨⟨q0.alloc _, q1.alloc _⟩, q2.alloc _⟩, q3.alloc _⟩, hB1.alloc hB1.size _⟩ ⟨W.heap.size, q3.lt, heap_alloc_new W _, rfl⟩
  case body =>
    rintro l pre x a' W hl ⟨r, hr⟩ ⟨⟨⟨⟨q0, q1⟩, q2⟩, q3⟩, hB1⟩ ⟨Bx, hBx, bX, rfl⟩ hlt
    have c0 := q0.cell
    have c1 := q1.cell
    have c2 := q2.cell
    have c3 := q3.cell
    have f1 := q1.frozen
    have f2 := q2.frozen
    have f3 := q3.frozen
    have d0 : W.cell? ⟨Bx, 0, none⟩ = some (.int .u8 x.1.1.kind) := by rw [cell_of_row W Bx 0 _ _ _ bX]; rfl
    have d1 : W.cell? ⟨Bx, 1, none⟩ = some (.int .i64 x.1.1.kids) := by rw [cell_of_row W Bx 1 _ _ _ bX]; rfl
    have d2 : W.cell? ⟨Bx, 2, none⟩ = some (.int .i64 x.1.1.int) := by rw [cell_of_row W Bx 2 _ _ _ bX]; rfl
    have d3 : W.cell? ⟨Bx, 3, none⟩ = some (strV x.1.1.text) := by rw [cell_of_row W Bx 3 _ _ _ bX]; rfl
    have d4 : W.cell? ⟨Bx, 4, none⟩ = some (.complex .f64 x.1.1.re x.1.1.im) := by rw [cell_of_row W Bx 4 _ _ _ bX]; rfl
    have hpl : (pre.length : Int) ≤ 1024 := by have := hX.few; omega
    have hne : Bx ≠ w.heap.size + 1 + 1 + 1 := by omega
    gi_wp2_with fail
    refine ⟨trivial, (CallsIn.inRound l (callsIn_wide.2 (right_any x.1.1 x.2.1 _))).mono ?_⟩
    rintro e W3 ⟨rfl, hB3⟩
    have hBs : Below w.heap.size W (W.setCell ⟨w.heap.size + 1 + 1 + 1, 0, none⟩ (.int .i64 ((pre.length : Int) + 1))) := (Below.refl _ W).setCell (p := ⟨w.heap.size + 1 + 1 + 1, 0, none⟩) (by simp only; omega) _
    have hK1 : KeepsFrom W0.heap.size W W3 := ((KeepsOthers.setCell _ _ _).from _).trans (below_keeps hB3 _)
    have hsz3 : (W.setCell ⟨w.heap.size + 1 + 1 + 1, 0, none⟩ (.int .i64 ((pre.length : Int) + 1))).heap.size = W.heap.size := by simp [World.setCell]
    have p0 := Boxed.bel (Boxed.other q0 (B' := w.heap.size + 1 + 1 + 1) (by omega) (.int .i64 ((pre.length : Int) + 1))) hB3
    have p1 := Boxed.bel (Boxed.other q1 (B' := w.heap.size + 1 + 1 + 1) (by omega) (.int .i64 ((pre.length : Int) + 1))) hB3
    have p2 := Boxed.bel (Boxed.other q2 (B' := w.heap.size + 1 + 1 + 1) (by omega) (.int .i64 ((pre.length : Int) + 1))) hB3
    have p3 := Boxed.bel (Boxed.set (.int .i64 ((pre.length : Int) + 1)) q3) hB3
    have hB4 : Below w.heap.size W W3 := hBs.trans (hB3.mono (by rw [hsz3]; exact hB1.size))
    clear hBs hsz3 hB3 q0 q1 q2 q3 c0 c1 c2 c3 f1 f2 f3 d0 d1 d2 d3 d4 hne
    have c0 := p0.cell
    have c1 := p1.cell
    have c2 := p2.cell
    have c3 := p3.cell
    have f1 := p1.frozen
    have f2 := p2.frozen
    have hle : Hid ((x.1.2 : Int) = 0 ↔ x.1.2 = 0) := by unfold Hid; omega
    by_cases hz : x.1.2 = 0
    · have hz1 : ((x.1.2 : Int) == 0) = true := by rw [beq_iff_eq]; omega
      have HZ := Lib.hid hz
      clear hz
      by_cases hat : (pre.length : Int) + 1 < (xs.length : Int)
      · gi_wp2
        exact ⟨hK1.trans ((KeepsOthers.setCell _ _ _).from _), ⟨pre, x, rfl, HZ.out, by omega⟩⟩
      · gi_wp2
        exact ⟨hK1.trans ((KeepsOthers.setCell _ _ _).from _), hB4.setCell (p := ⟨w.heap.size + 1 + 1, 0, none⟩) (by simp only; omega) _,
          ⟨⟨⟨⟨p0.other (by omega) _, p1.other (by omega) _⟩, by rw [lastO_snoc]; exact p2.set _⟩, by rw [List.length_append]; exact p3.other (by omega) _⟩, hB1.trans (hB4.setCell (p := ⟨w.heap.size + 1 + 1, 0, none⟩) (by simp only; omega) _)⟩⟩
    · have hz1 : ((x.1.2 : Int) == 0) = false := by rw [beq_eq_false_iff_ne]; omega
      clear hz
      gi_wp2
      exact ⟨hK1.trans ((KeepsOthers.setCell _ _ _).from _), hB4.setCell (p := ⟨w.heap.size + 1 + 1, 0, none⟩) (by simp only; omega) _,
        ⟨⟨⟨⟨p0.other (by omega) _, p1.other (by omega) _⟩, by rw [lastO_snoc]; exact p2.set _⟩, by rw [List.length_append]; exact p3.other (by omega) _⟩, hB1.trans (hB4.setCell (p := ⟨w.heap.size + 1 + 1, 0, none⟩) (by simp only; omega) _)⟩⟩
  case done =>
    rintro D ys W hD rfl ⟨⟨⟨⟨q0, q1⟩, q2⟩, q3⟩, hB1⟩ hK
    have hl0 : lastO (withOpen xs hX.fit xs.length) = 0 := by
      obtain ⟨m, hm⟩ : ∃ m, xs.length = m + 1 := ⟨xs.length - 1, by have := hV.pos; omega⟩
      have hd := hV.done
      rw [hm, withOpen_succ, lastO_snoc]
      show opn 1 (xs.take (m + 1)) = 0
      rw [← hm, List.take_length]; exact hd
    rw [hl0] at q2
    have c0 := q0.cell
    have c2 := q2.cell
    have hsz4 := hV.size
    clear q2 q3 hl0
    gi_wp2_with fail
    refine ⟨trivial, (measure_in Fence.wide _ trivial trivial trivial rfl (by omega) g cap xs hX W (by have := hB1.size; omega) (hI.below hB1 hg)).mono ?_⟩
    rintro e W4 ⟨rfl, hB4⟩
    have p1 := Boxed.bel q1 hB4
    have hK4 : W4.heap[D]? = some (.deferred (some [])) := (hB4.block D (Array.getElem?_eq_some_iff.1 hK).1).trans hK
    have hB5 : Below w.heap.size w W4 := hB1.trans (hB4.mono hB1.size)
    clear hB4 hK q0 q1 c0 c2 hB1
    have c1 := p1.cell
    have f1 := p1.frozen
    have hns : ¬ (4096 : Int) < (msr (withOpen xs hX.fit xs.length) : Int) := by omega
    clear hsz4
    gi_wp2_with fail
    have hK' := (KeepsOthers.setCell W4 ⟨w.heap.size + 1, 0, none⟩ (.int .i64 0)).same D _ hK4 rfl
    refine ⟨by simp, .inl ⟨_, _, rfl, run_takeDeferred hK', ?_⟩⟩
    have hc5 := cell_kept (World.cell?_setCell_same' W4 ⟨w.heap.size + 1, 0, none⟩ (.int .i64 0) (by rw [c1]; rfl)) (grownBy_putObj' _ D (.deferred none)) (fun r e => by cases e; exact ⟨_, hK', rfl⟩)
    refine ⟨.int .i64 0, ?_, rfl, (hB5.setCell (p := ⟨w.heap.size + 1, 0, none⟩) (by simp) _).trans (belowK_b (w := w) (Nat.le_refl _) _ D _ _ (by omega) hK' rfl rfl)⟩
    simp [results, Try.f38, go_sem, hc5]
  case stop =>
    rintro D c pre W hD ⟨k, hk, rfl⟩ ⟨pre', x, he, hx, hlt⟩ hK
    exfalso
    obtain ⟨rfl, h2⟩ := withOpen_last xs hX.fit k pre' x he.symm
    have := hX.op (pre'.length + 1) hlt
    omega
end Go.Proofs.Yticipdjfkpakpaa
