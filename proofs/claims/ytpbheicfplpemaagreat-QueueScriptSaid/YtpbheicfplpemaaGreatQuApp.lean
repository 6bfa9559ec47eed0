/- queue: slices.AppendSeq, Collect over what is out. -/
import Derived.Test.YtpbheicfplpemaaGreatQuVals
import Derived.RangeFuncBound
import Derived.RangeFuncCalls
import Derived.RangeFuncLeaves
import Derived.RangeFuncBox
import Derived.Shelf.Abstract
import Derived.Shelf.RegionOpen
namespace Go.Proofs.YtpbheicfplpemaaGreat
open Go.RowKit Go.Shelf
attribute [local go_sem] Oper.semAt_some

def otC (x : Ot) : List Value := [.string x.tk.key, .string x.tk.sticky, .int .i64 x.tk.ready, .int .i64 x.tk.att, .int .i64 x.token, .string x.worker, .int .i64 x.until_]
theorem otC_len (x : Ot) : (otC x).length = 7 := rfl
theorem info_out : (Tryz.prog.info? 88).map (fun i => (i.zero, i.size, i.bytes)) = some (some (.agg #[.string ⟨#[]⟩, .string ⟨#[]⟩, .int .i64 0, .int .i64 0, .int .i64 0, .string ⟨#[]⟩, .int .i64 0]), 7, 80) := by kernel_rfl
theorem blk_own (B : Nat) (t : TypeId) (cs : List Value) : Own (fun (_ : Unit) W => Blk W B t cs) := fun s X Y row hs hg hrow =>
  (hg.block B hs.lt (fun e' => by obtain ⟨o, ho, hc⟩ := hrow B e'.symm; rw [show X.heap[B]? = _ from hs] at ho; cases ho; cases hc)).trans hs
set_option maxRecDepth 100000 in
set_option maxHeartbeats 1600000 in
theorem append_any (w : World) (Bs b N : Nat) (om : Int → Option Ot) (hle : N ≤ 1000000) (hBs : Bs < w.heap.size) (hc : w.cell? ⟨Bs, 0, none⟩ = some (.map (some b))) (hI : MapIs kInt w b (oV om) N) :
    Calls Tryz.prog 115 #[.slice none 0 0, .func (.func 113) #[] #[.pointer (some ⟨Bs, 0, none⟩)]] w fun e W' => ∃ v ys, e = .returned v ∧ OutsAll om ys ∧ W'.ownsRow w.heap.size 88 7 v ys.length (ys.flatMap otC) ∧ Below w.heap.size w W' := by
  obtain ⟨i0, hi, hz0, hz1, hz2⟩ := info_parts info_out
  refine (callsIn_wide (n := 8)).1 ?_
  refine callsIn_of_wp_marks Tryz.func115 rfl trivial ?_ rfl
  simp only [Tryz.ntmps115, List.size_toArray, List.length_cons, List.length_nil, Nat.reduceAdd, Nat.reduceSub, Array.replicate_succ, Array.replicate_zero, List.push_toArray, List.append_toArray, List.nil_append, List.cons_append]
  gi_wp2
  have b0 := Boxed.new w 112 (.slice none 0 0)
  have hB0 : Below w.heap.size w (w.alloc (.cells #[.slice none 0 0] 112)) := Below.new w _
  have hsz : (w.alloc (.cells #[.slice none 0 0] 112)).heap.size = w.heap.size + 1 := by simp
  have hII := hI.below hB0
  have hcc := (hB0.cell (p := ⟨Bs, 0, none⟩) hBs).trans hc
  obtain ⟨W0, hW0⟩ : ∃ W0, w.alloc (.cells #[.slice none 0 0] 112) = W0 := ⟨_, rfl⟩
  rw [hW0] at b0 hB0 hsz hcc hII ⊢
  clear hW0
  refine wpIn_rangeFunc_ownH rfl (by omega) (gf := 113) (lb := #[.pointer (some ⟨Bs, 0, none⟩)]) rfl trivial (enters_of Tryz.func113 (by kernel_rfl) rfl)
    (vals_stops Fence.wide _ trivial rfl (by omega) Bs b N om W0 (by omega) hcc hII) walksK_t walksK_b (Below.refl _ _) (fun _ => rfl)
    (fun pre W => (∃ v, Boxed W w.heap.size 112 v ∧ W.ownsRow w.heap.size 88 7 v pre.length (pre.flatMap otC) ∧ True) ∧ Below w.heap.size w W)
    (fun _ _ _ => False)
    (OwnFrom.and (Own.from (holdsRow_own w.heap.size w.heap.size 112 88 7 (fun pre : List Ot => pre.length) (fun pre => pre.flatMap otC) (fun _ _ => True)) _) (ownFrom_below (Nat.le_refl _) (by omega)))
    (fun _ _ _ _ _ hs _ _ => hs)
    ⟨⟨_, b0, World.ownsRow_nil _ _ _ _, trivial⟩, hB0⟩
    (fun x a' W => ∃ Bx, w.heap.size < Bx ∧ Blk W Bx 88 [.string x.tk.key, .string x.tk.sticky, .int .i64 x.tk.ready, .int .i64 x.tk.att, .int .i64 x.token, .string x.worker, .int .i64 x.until_] ∧ a' = { tmps := #[.slice none 0 0, .func (.func 113) #[] #[.pointer (some ⟨Bs, 0, none⟩)], .pointer (some ⟨w.heap.size, 0, none⟩), undef, .slice none 0 0, .pointer (some ⟨Bx, 0, none⟩), .func (.func 113) #[] #[.pointer (some ⟨Bs, 0, none⟩)], .agg #[.string x.tk.key, .string x.tk.sticky, .int .i64 x.tk.ready, .int .i64 x.tk.att, .int .i64 x.token, .string x.worker, .int .i64 x.until_], undef, undef, undef, undef, undef], defers := [] })
    (fun x a' _ X Y row hs hg hr => by obtain ⟨Bx, h1, h2, h3⟩ := hs; exact ⟨Bx, h1, blk_own Bx _ _ () X Y row h2 hg (fun r e => (hr r e).2), h3⟩)
    ?assign ?body ?done ?stop
  case assign =>
    rintro l pre x W K ⟨⟨v, bS1, ho, _⟩, hB1⟩ hK
    unfold encO at hK ⊢
    unfold otV
    gi_wp2
    exact hK _ _ ((KeepsOthers.alloc _ _).from _) (KeepsWalks.alloc _ _) ⟨⟨v, bS1.alloc _, ho.alloc _, trivial⟩, hB1.alloc hB1.size _⟩ ⟨W.heap.size, bS1.lt, Blk.new W _ _, rfl⟩
  case body =>
    rintro l pre x a' W hl ⟨r, hr⟩ ⟨⟨v, bS1, ho, _⟩, hB1⟩ ⟨Bx, hBx, bX, rfl⟩ hlt
    have c0 := bS1.cell
    have d0 := bX.cell 0
    have d1 := bX.cell 1
    have d2 := bX.cell 2
    have d3 := bX.cell 3
    have d4 := bX.cell 4
    have d5 := bX.cell 5
    have d6 := bX.cell 6
    simp only [List.getElem?_cons_succ, List.getElem?_cons_zero] at d0 d1 d2 d3 d4 d5 d6
    have hM1 : pre.length + 1 ≤ maxLen := by unfold maxLen; omega
    have hM2 : (pre.length + 1) * 80 ≤ 140737488355328 := by omega
    have hB3 : w.heap.size ≤ (W.alloc (.cells (otC x).toArray 88)).heap.size := by have := hB1.size; simp; omega
    have hnw := Blk.news (Blk.new W 88 (otC x))
    have hoa := ho.alloc (.cells (otC x).toArray 88)
    have hba := bS1.alloc (.cells (otC x).toArray 88)
    have HO := Lib.hid hoa
    have HBA := Lib.hid hba
    have HNW := Lib.hid hnw
    have HM1 := Lib.hid hM1
    have HM2 := Lib.hid hM2
    have HB3 := Lib.hid hB3
    have HB1 := Lib.hid hB1
    clear hoa hba hnw ho hM1 hM2 hB3
    gi_wp2_with (gi_at_builtin; refine wpListIn_append_own _ rfl _ _ 112 rfl w.heap.size 88 i0 _ 7 80 Tryz.underlying112 hi hz0 hz1 hz2 rfl (by decide) _ _ _ rfl HO.out ⟨W.heap.size, 0, none⟩ 1 1 (otC x) rfl rfl HNW.out (by intro u hu; simp [otC] at hu; rcases hu with rfl | rfl | rfl | rfl | rfl | rfl | rfl <;> rfl) HM1.out HM2.out HB3.out ?_; intro v1 y1 hown1 hgr1 _; obtain ⟨A1, cc1, rfl⟩ := own_slice' hown1; have hbx1 := HBA.out.kept hgr1 (Boxed.not_row HBA.out (by decide) HO.out); have e0 := hbx1.cell; have e1 := hbx1.frozen)
    have hgr2 : (W.alloc (.cells (otC x).toArray 88)).grownBy y1 v.ownBlock := hgr1
    have hbW : Below w.heap.size W y1 := ((Below.refl _ W).alloc HB1.out.size _).grown hgr2 (by have := HB1.out.size; simp; omega) (fun k e => (HO.out.lt k e).1)
    have hko : KeepsOthers W y1 := ((KeepsOthers.alloc W _).trans (KeepsOthers.of_grownBy hgr2 (fun j o hj ho => by
      rcases HO.out.2 with ⟨rfl, _⟩ | ⟨g', cap', cur, rfl, _, hgb, _⟩
      · simp [Value.ownBlock] at hj
      · obtain rfl : g' = j := by simpa [Value.ownBlock] using hj
        rw [hgb] at ho; cases ho; rfl)))
    have hset : Below w.heap.size W (y1.setCell ⟨w.heap.size, 0, none⟩ (.slice A1 (pre.length + 1) cc1)) := hbW.setCell (p := ⟨w.heap.size, 0, none⟩) (Nat.le_refl _) _
    have hrow4 := hown1.kept (grownBy_setCell' y1 w.heap.size (.slice A1 (pre.length + 1) cc1)) (.inr (fun e' => Boxed.not_row hbx1 (by decide) hown1 e'.symm))
    exact ⟨(hko.trans (KeepsOthers.setCell _ _ _)).from _, hko.walks.trans (KeepsWalks.setCell _ _ _), ⟨⟨_, hbx1.set _, by rw [List.length_append, List.flatMap_append]; simpa using hrow4, trivial⟩, HB1.out.trans hset⟩⟩
  case done =>
    rintro D ys W hD hys ⟨⟨v, bS1, ho, _⟩, hB1⟩ hK
    have cS := bS1.cell
    obtain ⟨A1, cc1, rfl⟩ := own_slice' ho
    have HO := Lib.hid ho
    clear ho
    gi_wp2
    refine ⟨by simp, .inl ⟨_, _, rfl, run_takeDeferred hK, ?_⟩⟩
    exact ⟨_, results_tmp rfl _ _ _, _, ys, rfl, hys, ownsRow_putObj HO.out _ hK rfl, hB1.trans (belowK_b (w := w) (Nat.le_refl _) W D _ _ (by omega) hK rfl rfl)⟩
  case stop =>
    rintro D c pre W hD _ h hK
    exact h.elim

set_option maxRecDepth 20000 in
theorem collect_any (w : World) (Bs b N : Nat) (om : Int → Option Ot) (hle : N ≤ 1000000) (hBs : Bs < w.heap.size) (hc : w.cell? ⟨Bs, 0, none⟩ = some (.map (some b))) (hI : MapIs kInt w b (oV om) N) :
    Calls Tryz.prog 111 #[.func (.func 113) #[] #[.pointer (some ⟨Bs, 0, none⟩)]] w fun e W' => ∃ v ys, e = .returned v ∧ OutsAll om ys ∧ W'.ownsRow w.heap.size 88 7 v ys.length (ys.flatMap otC) ∧ Below w.heap.size w W' := by
  have hq := Lib.hid (append_any w Bs b N om hle hBs hc hI)
  clear hc hI
  go_enter Tryz.func111, Tryz.ntmps111
  go_wp2_with fail
  refine hq.out.mono ?_
  rintro e w1 ⟨v, ys, rfl, hys, ho, hb⟩
  have HY := Lib.hid hys
  clear hys
  obtain ⟨A1, cc1, rfl⟩ := own_slice' ho
  have HO := Lib.hid ho
  have HB := Lib.hid hb
  clear ho hb
  go_wp2_with fail
  go_ret
  exact ⟨_, ys, rfl, HY.out, HO.out, HB.out⟩
end Go.Proofs.YtpbheicfplpemaaGreat
