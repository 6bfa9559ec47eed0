/- disk: maps.Keys as an iterator; slices.Sorted over it. -/
import Derived.Test.YtoljnklceghcdaaDkRead
import Derived.Test.YtoljnklceghcdaaMapRng
import Derived.Test.YtoljnklceghcdaaDkShelfA
import Derived.Test.YtoljnklceghcdaaDkShelfB
import Derived.RangeFuncGives
import Derived.RangeFuncNested
import Derived.WalkKit
import Derived.OwnWalkIn
import Derived.TacticsInMore
import Derived.RegionIn
import Derived.LoopNIn
import Derived.LoopIn
import Derived.Shelf.SlIter.Sorted
import Derived.Shelf.SortM.Plain
import Derived.Shelf.SortM.SortNone
namespace Go.Proofs.Ytoljnklceghcdaa
open Go.RowKit Go.Maps Go.Sort Go.Shelf
attribute [local go_sem] Oper.semAt_some

/-- a map's keys, each once, in some order -/
def AllKeys (mv : ByteArray → Option Value) (ss : List (List UInt8)) : Prop := ss.Nodup ∧ ∀ k : ByteArray, k.data.toList ∈ ss ↔ mv k ≠ none
theorem str_enc (k : ByteArray) : kStr k = encStr k.data.toList := rfl
theorem key_inj {a b : ByteArray} (h : a.data.toList = b.data.toList) : a = b := by
  cases a; cases b
  simp only at h
  congr
  exact Array.ext' h
set_option maxRecDepth 100000 in
set_option maxHeartbeats 4000000 in
theorem keys1_in (F : Fence) (n : Nat) (h8 : F.fn 47) (hro : F.round = none) (hn : 1 ≤ n) (l Bm b N : Nat) (mv : ByteArray → Option Value) (J : List (List UInt8) → World → Prop)
    (W : World) (hJ : AbidesFrom W.heap.size J)
    (hY : ∀ pre x W1, J pre W1 → pre.length < N → YieldAt F (n - 1) Try.prog l #[encStr x] W1 fun e W' => e = .returned (.bool true) ∧ J (pre ++ [x]) W' ∧ KeepsWalks W1 W')
    (hm : W.cell? ⟨Bm, 0, none⟩ = some (.map (some b))) (hown : MapIs kStr W b mv N) (h0 : J [] W) :
    CallsIn F n Try.prog 47 #[.func (.yield l) #[] #[], .pointer (some ⟨Bm, 0, none⟩)] W fun e W' => (∃ v, e = .returned v) ∧ ∃ ss, AllKeys mv ss ∧ J ss W' := by
  refine callsIn_of_wp Try.func47 rfl h8 ?_ hro
  simp only [Try.ntmps47, List.size_toArray, List.length_cons, List.length_nil, Nat.reduceAdd, Nat.reduceSub, Array.replicate_succ, Array.replicate_zero, List.push_toArray, List.append_toArray, List.nil_append, List.cons_append]
  gi_wp2_with (gi_at_range; refine wpi_range _ rfl _ 49 rfl Try.underlying49 rfl hown ?_; intro w0 hrg0 hg0 hs0)
  go_frame
  gi_loopw [3] (fun _ wr => ∃ (ks : List ByteArray) (cnt : Nat), Rng kStr wr b W.heap.size mv N ks cnt ∧ J (ks.map fun k => k.data.toList) wr)
    (fun _ wr => wr.rangeLeft b W.heap.size)
  case atStart =>
    exact ⟨[], N, hrg0, hJ [] W w0 none h0 hg0 (fun r e => by cases e)⟩
  case round =>
    obtain ⟨ks, cnt, hrg, hJs⟩ := hrel
    gi_wp2_with (first
      | (gi_at_next; refine wpi_next _ rfl _ rfl (fun a b e => by unfold kStr at e; injection e) rfl hrg ?_ ?_)
      | gi_in)
    · intro hc0 hl0
      gi_wp2
      go_end0
      refine ⟨⟨_, rfl⟩, _, ⟨?_, fun k => ?_⟩, hJs⟩
      · exact List.Pairwise.map _ (fun a b hab e => hab (key_inj e)) hrg.nodup
      · rw [List.mem_map]
        constructor
        · rintro ⟨k', hk', e⟩
          rw [← key_inj e]
          exact hrg.dom k' hk'
        · intro hk
          cases e : mv k with
          | none => exact absurd e hk
          | some v => exact ⟨k, hl0 k v e, rfl⟩
    · intro k v w2 cnt2 hkv hnk hrg2 hlt hg2 hs2 hen
      have hJ2 := hJ _ wr w2 (some W.heap.size) hJs hg2 (fun r e => by cases e; exact ⟨Nat.le_refl _, hrg.iter⟩)
      have hll : (ks.map fun k => k.data.toList).length < N := by have := hrg2.len; rw [List.length_append, List.length_singleton] at this; rw [List.length_map]; omega
      obtain ⟨fn, tmps, assign, body, hy, hR⟩ := hY _ k.data.toList _ hJ2 hll
      rw [← str_enc] at hy
      unfold kStr at hy hen
      clear hs2 hJ2
      gi_wp2
      refine hR.mono ?_
      rintro e W3 ⟨rfl, hJ3, hk3⟩
      gi_wp2
      have hrg4 := hrg2.walks hk3
      go_roundw
      case rel => exact ⟨_, cnt2, hrg4, by rw [List.map_append]; exact hJ3⟩
      case measure => rw [hrg4.left_eq, hrg.left_eq]; exact hlt
theorem keys_gives (F : Fence) (n : Nat) (h8 : F.fn 47) (hro : F.round = none) (hn : 1 ≤ n) (Bm b N : Nat) (mv : ByteArray → Option Value) (w : World) (hBm : Bm < w.heap.size)
    (hm : w.cell? ⟨Bm, 0, none⟩ = some (.map (some b))) (hown : MapIs kStr w b mv N) :
    SeqGives F n Try.prog 47 #[.pointer (some ⟨Bm, 0, none⟩)] encStr (AllKeys mv) N w := fun l J W hW hJ hY h0 =>
  keys1_in F n h8 hro hn l Bm b N mv J W hJ hY ((hW.cell (p := ⟨Bm, 0, none⟩) hBm).trans hm) (hown.below hW) h0
end Go.Proofs.Ytoljnklceghcdaa
