/- queue: maps.Values over what is out: its contract as an iterator. -/
import Derived.Test.YtpbheicfplpemaaGreatQuState
import Derived.Test.YtpbheicfplpemaaGreatMapRng
import Derived.RangeFuncNested
import Derived.WalkKit
import Derived.OwnWalkIn
import Derived.TacticsInMore
import Derived.RegionIn
import Derived.LoopNIn
import Derived.LoopIn
namespace Go.Proofs.YtpbheicfplpemaaGreat
open Go.RowKit
attribute [local go_sem] Oper.semAt_some

def encO (x : Ot) : Array Value := #[otV x]
/-- all that are out, each once, in some order -/
def OutsAll (om : Int → Option Ot) (ys : List Ot) : Prop := ∃ ks : List Int, ks.Nodup ∧ (∀ k x, om k = some x → k ∈ ks) ∧ ys.map some = ks.map om
theorem oV_some {om : Int → Option Ot} {k : Int} {v : Value} (h : oV om k = some v) : ∃ x, om k = some x ∧ v = otV x := by
  unfold oV at h
  cases e : om k with
  | none => rw [e] at h; cases h
  | some x => rw [e] at h; injection h with h; exact ⟨x, rfl, h.symm⟩

set_option maxRecDepth 100000 in
set_option maxHeartbeats 4000000 in
theorem vals1_in (F : Fence) (n : Nat) (h8 : F.fn 113) (hro : F.round = none) (hn : 1 ≤ n) (l Bm b N : Nat) (om : Int → Option Ot) (J Jx : List Ot → World → Prop)
    (hY : ∀ pre x W, J pre W → pre.length < N → YieldAt F (n - 1) Tryz.prog l (encO x) W fun e W' =>
      (e = .returned (.bool true) ∧ J (pre ++ [x]) W' ∧ KeepsWalks W W') ∨ (e = .returned (.bool false) ∧ Jx (pre ++ [x]) W'))
    (W : World) (hJ : AbidesFrom W.heap.size J) (hm : W.cell? ⟨Bm, 0, none⟩ = some (.map (some b))) (hown : MapIs kInt W b (oV om) N) (h0 : J [] W) :
    CallsIn F n Tryz.prog 113 #[.func (.yield l) #[] #[], .pointer (some ⟨Bm, 0, none⟩)] W fun e W' => (∃ v, e = .returned v) ∧
      ((∃ ys, OutsAll om ys ∧ J ys W') ∨ (∃ pre : List Ot, True ∧ Jx pre W')) := by
  refine callsIn_of_wp Tryz.func113 rfl h8 ?_ hro
  simp only [Tryz.ntmps113, List.size_toArray, List.length_cons, List.length_nil, Nat.reduceAdd, Nat.reduceSub, Array.replicate_succ, Array.replicate_zero, List.push_toArray, List.append_toArray, List.nil_append, List.cons_append]
  gi_wp2_with (gi_at_range; refine wpi_range _ rfl _ 78 rfl Tryz.underlying78 rfl hown ?_; intro w0 hrg0 hg0 hs0)
  go_frame
  gi_loopw [4] (fun _ wr => ∃ (ks : List Int) (ys : List Ot) (cnt : Nat), Rng kInt wr b W.heap.size (oV om) N ks cnt ∧ ys.map some = ks.map om ∧ J ys wr)
    (fun _ wr => wr.rangeLeft b W.heap.size)
  case atStart =>
    exact ⟨[], [], N, hrg0, rfl, hJ [] W w0 none h0 hg0 (fun r e => by cases e)⟩
  case round =>
    obtain ⟨ks, ys, cnt, hrg, hys, hJs⟩ := hrel
    gi_wp2_with (first
      | (gi_at_next; refine wpi_next _ rfl _ rfl (fun a b e => by unfold kInt at e; injection e) rfl hrg ?_ ?_)
      | gi_in)
    · intro hc0 hl0
      gi_wp2
      go_end0
      exact ⟨⟨_, rfl⟩, .inl ⟨ys, ⟨ks, hrg.nodup, fun k x hk => hl0 k (otV x) (by unfold oV; rw [hk]; rfl), hys⟩, hJs⟩⟩
    · intro k v w2 cnt2 hkv hnk hrg2 hlt hg2 hs2 hen
      obtain ⟨x, hx, rfl⟩ := oV_some hkv
      have hJ2 : J ys w2 := hJ ys wr w2 (some W.heap.size) hJs hg2 (fun r e => by cases e; exact ⟨Nat.le_refl _, hrg.iter⟩)
      have hJ3 := hJ ys w2 (w2.alloc (.cells #[.string x.tk.key, .string x.tk.sticky, .int .i64 x.tk.ready, .int .i64 x.tk.att, .int .i64 x.token, .string x.worker, .int .i64 x.until_] 88)) none hJ2 (World.grownBy_alloc _ _ _) (fun r e => by cases e)
      have hln : ys.length = ks.length := by have := congrArg List.length hys; simpa using this
      have hll : ys.length < N := by have := hrg2.len; rw [List.length_append, List.length_singleton] at this; omega
      obtain ⟨fn, tmps, assign, body, hy, hR⟩ := hY ys x _ hJ3 hll
      have hrg3 := hrg2.walks (KeepsWalks.alloc w2 (.cells #[.string x.tk.key, .string x.tk.sticky, .int .i64 x.tk.ready, .int .i64 x.tk.att, .int .i64 x.token, .string x.worker, .int .i64 x.until_] 88))
      unfold encO at hy
      unfold otV at hy hen
      clear hs2 hJ2 hJ3
      gi_wp2
      refine hR.mono ?_
      have hys2 : (ys ++ [x]).map some = (ks ++ [k]).map om := by rw [List.map_append, List.map_append, hys]; simp [hx]
      rintro e W3 (⟨rfl, hJ3, hk3⟩ | ⟨rfl, hJx3⟩)
      · gi_wp2
        have hrg4 := hrg3.walks hk3
        go_roundw
        case rel => exact ⟨_, _, cnt2, hrg4, hys2, hJ3⟩
        case measure => rw [hrg4.left_eq, hrg.left_eq]; exact hlt
      · gi_wp2
        refine bodyPost_ret (results_none rfl _ _ _) rfl ?_
        exact ⟨⟨_, rfl⟩, .inr ⟨ys ++ [x], trivial, hJx3⟩⟩
theorem vals_stops (F : Fence) (n : Nat) (h8 : F.fn 113) (hro : F.round = none) (hn : 1 ≤ n) (Bm b N : Nat) (om : Int → Option Ot) (w : World) (hBm : Bm < w.heap.size)
    (hm : w.cell? ⟨Bm, 0, none⟩ = some (.map (some b))) (hown : MapIs kInt w b (oV om) N) :
    SeqStopsK F n Tryz.prog 113 #[.pointer (some ⟨Bm, 0, none⟩)] encO KeepsWalks (OutsAll om) (fun _ => True) N w := fun l J Jx W hW hJ _ hY h0 =>
  vals1_in F n h8 hro hn l Bm b N om J Jx hY W hJ ((hW.cell (p := ⟨Bm, 0, none⟩) hBm).trans hm) (hown.below hW) h0
end Go.Proofs.YtpbheicfplpemaaGreat
