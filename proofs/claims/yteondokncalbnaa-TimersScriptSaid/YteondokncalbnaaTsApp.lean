/- slices.AppendSeq, Collect over a row of things. -/
import Derived.Test.YteondokncalbnaaTsSeq
namespace Go.Proofs.Yteondokncalbnaa
open Go.RowKit Go.Shelf
attribute [local go_sem] Oper.semAt_some

def triC (x : Tri) : List Value := [.int .i64 x.1, .int .i64 x.2.1, .int .i64 x.2.2.1, .string x.2.2.2.1, .int .i64 x.2.2.2.2]
set_option maxRecDepth 100000 in
set_option maxHeartbeats 1600000 in
theorem append_any (w : World) (Bs g cap : Nat) (xs : List Tri) (hle : xs.length ≤ 1000000) (hg : g < w.heap.size) (hBs : Bs < w.heap.size) (hc : w.cell? ⟨Bs, 0, none⟩ = some (.slice (some ⟨g, 0, none⟩) xs.length cap)) (hI : TriRow w g xs) :
    Calls Try.prog 87 #[.slice none 0 0, .func (.func 82) #[] #[.pointer (some ⟨Bs, 0, none⟩)]] w fun e W' => ∃ v, e = .returned v ∧ W'.ownsRow w.heap.size 92 5 v xs.length (xs.flatMap triC) ∧ Below w.heap.size w W' := by
  obtain ⟨i0, hi, hz0, hz1, hz2⟩ := info_parts info_thT
  refine (callsIn_wide (n := 8)).1 ?_
  refine callsIn_of_wp_marks Try.func87 rfl trivial ?_ rfl
  simp only [Try.ntmps87, List.size_toArray, List.length_cons, List.length_nil, Nat.reduceAdd, Nat.reduceSub, Array.replicate_succ, Array.replicate_zero, List.push_toArray, List.append_toArray, List.nil_append, List.cons_append]
  gi_wp2
  have b0 := Boxed.new w 93 (.slice none 0 0)
  have hB0 : Below w.heap.size w (w.alloc (.cells #[.slice none 0 0] 93)) := Below.new w _
  have hsz : (w.alloc (.cells #[.slice none 0 0] 93)).heap.size = w.heap.size + 1 := by simp
  have hII := hI.below hB0 hg
  have hcc := (hB0.cell (p := ⟨Bs, 0, none⟩) hBs).trans hc
  obtain ⟨W0, hW0⟩ : ∃ W0, w.alloc (.cells #[.slice none 0 0] 93) = W0 := ⟨_, rfl⟩
  rw [hW0] at b0 hB0 hsz hcc hII ⊢
  clear hW0
  refine wpIn_rangeFunc_ownH rfl (by omega) (gf := 82) (lb := #[.pointer (some ⟨Bs, 0, none⟩)]) rfl trivial (enters_of Try.func82 (by kernel_rfl) rfl)
    (values_stops Fence.wide _ trivial rfl (by omega) Bs w.heap.size g cap xs hle hg W0 (by omega) (by omega) hcc hII) belowK_t (belowK_b (by omega)) (Below.refl _ _) (fun _ => rfl)
    (fun pre W => (∃ v, Boxed W w.heap.size 93 v ∧ W.ownsRow w.heap.size 92 5 v pre.length (pre.flatMap triC) ∧ True) ∧ Below w.heap.size w W)
    (fun _ _ _ => False)
    (OwnFrom.and (Own.from (holdsRow_own w.heap.size w.heap.size 93 92 5 (fun pre : List Tri => pre.length) (fun pre => pre.flatMap triC) (fun _ _ => True)) _) (ownFrom_below (Nat.le_refl _) (by omega)))
    (fun _ _ _ _ _ hs _ _ => hs)
    ⟨⟨_, b0, World.ownsRow_nil _ _ _ _, trivial⟩, hB0⟩
    (fun x a' W => ∃ Bx, w.heap.size < Bx ∧ Blk W Bx 92 [.int .i64 x.1, .int .i64 x.2.1, .int .i64 x.2.2.1, .string x.2.2.2.1, .int .i64 x.2.2.2.2] ∧ a' = { tmps := #[.slice none 0 0, .func (.func 82) #[] #[.pointer (some ⟨Bs, 0, none⟩)], .pointer (some ⟨w.heap.size, 0, none⟩), undef, .slice none 0 0, .pointer (some ⟨Bx, 0, none⟩), .func (.func 82) #[] #[.pointer (some ⟨Bs, 0, none⟩)], .agg #[.int .i64 x.1, .int .i64 x.2.1, .int .i64 x.2.2.1, .string x.2.2.2.1, .int .i64 x.2.2.2.2], undef, undef, undef, undef, undef], defers := [] })
    (fun x a' _ X Y row hs hg hr => by obtain ⟨Bx, h1, h2, h3⟩ := hs; exact ⟨Bx, h1, blk_own Bx _ _ () X Y row h2 hg (fun r e => (hr r e).2), h3⟩)
    ?assign ?body ?done ?stop
  case assign =>
    rintro l pre x W K ⟨⟨v, bS1, ho, _⟩, hB1⟩ hK
    unfold encT at hK ⊢
    gi_wp2
    exact hK _ _ ((KeepsOthers.alloc _ _).from _) ((Below.refl _ W).alloc hB1.size _) ⟨⟨v, bS1.alloc _, ho.alloc _, trivial⟩, hB1.alloc hB1.size _⟩ ⟨W.heap.size, bS1.lt, Blk.new W _ _, rfl⟩
  case body =>
    rintro l pre x a' W hl ⟨r, hr⟩ ⟨⟨v, bS1, ho, _⟩, hB1⟩ ⟨Bx, hBx, bX, rfl⟩ hlt
    have c0 := bS1.cell
    have d0 := bX.cell 0
    have d1 := bX.cell 1
    have d2 := bX.cell 2
    have d3 := bX.cell 3
    have d4 := bX.cell 4
    simp only [List.getElem?_cons_succ, List.getElem?_cons_zero] at d0 d1 d2 d3 d4
    have hM1 : pre.length + 1 ≤ maxLen := by unfold maxLen; omega
    have hM2 : (pre.length + 1) * 48 ≤ 140737488355328 := by omega
    have hB3 : w.heap.size ≤ (W.alloc (.cells (triC x).toArray 92)).heap.size := by have := hB1.size; simp; omega
    have hnw := Blk.news (Blk.new W 92 (triC x))
    have hoa := ho.alloc (.cells (triC x).toArray 92)
    have hba := bS1.alloc (.cells (triC x).toArray 92)
    have HO := Lib.hid hoa
    have HBA := Lib.hid hba
    have HNW := Lib.hid hnw
    have HM1 := Lib.hid hM1
    have HM2 := Lib.hid hM2
    have HB3 := Lib.hid hB3
    have HB1 := Lib.hid hB1
    clear hoa hba hnw ho hM1 hM2 hB3
    gi_wp2_with (gi_at_builtin; refine wpListIn_append_own _ rfl _ _ 93 rfl w.heap.size 92 i0 _ 5 48 Try.underlying93 hi hz0 hz1 hz2 rfl (by decide) _ _ _ rfl HO.out ⟨W.heap.size, 0, none⟩ 1 1 (triC x) rfl rfl HNW.out (by intro u hu; simp [triC] at hu; rcases hu with rfl | rfl | rfl | rfl | rfl <;> rfl) HM1.out HM2.out HB3.out ?_; intro v1 y1 hown1 hgr1 _; obtain ⟨A1, cc1, rfl⟩ := own_slice' hown1; have hbx1 := HBA.out.kept hgr1 (Boxed.not_row HBA.out (by decide) HO.out); have e0 := hbx1.cell; have e1 := hbx1.frozen)
    have hgr2 : (W.alloc (.cells (triC x).toArray 92)).grownBy y1 v.ownBlock := hgr1
    have hbW : Below w.heap.size W y1 := ((Below.refl _ W).alloc HB1.out.size _).grown hgr2 (by have := HB1.out.size; simp; omega) (fun k e => (HO.out.lt k e).1)
    have hkk : KeepsFrom W0.heap.size W y1 := ((KeepsOthers.alloc W _).trans (KeepsOthers.of_grownBy hgr2 (fun j o hj ho => by
      rcases HO.out.2 with ⟨rfl, _⟩ | ⟨g', cap', cur, rfl, _, hgb, _⟩
      · simp [Value.ownBlock] at hj
      · obtain rfl : g' = j := by simpa [Value.ownBlock] using hj
        rw [hgb] at ho; cases ho; rfl))).from _
    have hset : Below w.heap.size W (y1.setCell ⟨w.heap.size, 0, none⟩ (.slice A1 (pre.length + 1) cc1)) := hbW.setCell (p := ⟨w.heap.size, 0, none⟩) (Nat.le_refl _) _
    have hrow4 := hown1.kept (grownBy_setCell' y1 w.heap.size (.slice A1 (pre.length + 1) cc1)) (.inr (fun e' => Boxed.not_row hbx1 (by decide) hown1 e'.symm))
    exact ⟨hkk.trans ((KeepsOthers.setCell _ _ _).from _), hset, ⟨⟨_, hbx1.set _, by rw [List.length_append, List.flatMap_append]; simpa using hrow4, trivial⟩, HB1.out.trans hset⟩⟩
  case done =>
    rintro D ys W hD rfl ⟨⟨v, bS1, ho, _⟩, hB1⟩ hK
    have cS := bS1.cell
    obtain ⟨A1, cc1, rfl⟩ := own_slice' ho
    have HO := Lib.hid ho
    clear ho
    gi_wp2
    refine ⟨by simp, .inl ⟨_, _, rfl, run_takeDeferred hK, ?_⟩⟩
    exact ⟨_, results_tmp rfl _ _ _, _, rfl, ownsRow_putObj HO.out _ hK rfl, hB1.trans (belowK_b (w := w) (Nat.le_refl _) W D _ _ (by omega) hK rfl rfl)⟩
  case stop =>
    rintro D c pre W hD _ h hK
    exact h.elim

set_option maxRecDepth 20000 in
theorem collect_any (w : World) (Bs g cap : Nat) (xs : List Tri) (hle : xs.length ≤ 1000000) (hg : g < w.heap.size) (hBs : Bs < w.heap.size) (hc : w.cell? ⟨Bs, 0, none⟩ = some (.slice (some ⟨g, 0, none⟩) xs.length cap)) (hI : TriRow w g xs) :
    Calls Try.prog 80 #[.func (.func 82) #[] #[.pointer (some ⟨Bs, 0, none⟩)]] w fun e W' => ∃ v, e = .returned v ∧ W'.ownsRow w.heap.size 92 5 v xs.length (xs.flatMap triC) ∧ Below w.heap.size w W' := by
  have hq := Lib.hid (append_any w Bs g cap xs hle hg hBs hc hI)
  clear hc hI
  go_enter Try.func80, Try.ntmps80
  go_wp2_with fail
  refine hq.out.mono ?_
  rintro e w1 ⟨v, rfl, ho, hb⟩
  obtain ⟨A1, cc1, rfl⟩ := own_slice' ho
  have HO := Lib.hid ho
  have HB := Lib.hid hb
  clear ho hb
  go_wp2_with fail
  go_ret
  exact ⟨_, rfl, HO.out, HB.out⟩
end Go.Proofs.Yteondokncalbnaa
