/- The document's disk in memory: out, put. -/
import Derived.Test.YtoljnklceghcdaaRdMem
import Derived.Maps.AppendAt
import Derived.WalkLawsBesides
import Derived.Deep.QuietTactic
import Derived.BigQuiet
namespace Go.Proofs.Ytoljnklceghcdaa
open Go.RowKit Go.Maps Go.Sort Go.Shelf

theorem info_rf : (Try.prog.info? 71).map (fun i => (i.zero, i.size, i.bytes)) = some (some (.agg #[.string ⟨#[]⟩, .string ⟨#[]⟩, .string ⟨#[]⟩]), 3, 48) := by kernel_rfl
theorem own_base {W : World} {base base' : Nat} {e : TypeId} {size : Nat} {v : Value} {k : Nat} {xs : List Value} (h : W.ownsRow base e size v k xs) (hb : base' ≤ base) : W.ownsRow base' e size v k xs := by
  refine ⟨h.1, ?_⟩
  rcases h.2 with h1 | ⟨g, cap, cur, h1, h2, h3⟩
  · exact .inl h1
  · exact .inr ⟨g, cap, cur, h1, Nat.le_trans hb h2, h3⟩
theorem filt_yes {L : List RF} {P : RF → Bool} {i : Nat} (hi : i < L.length) (h : P (gF L i) = true) : (L.take (i + 1)).filter P = (L.take i).filter P ++ [gF L i] := by
  rw [List.take_succ_eq_append_getElem hi, List.filter_append, ← gF_of hi]
  simp [h]
theorem filt_no {L : List RF} {P : RF → Bool} {i : Nat} (hi : i < L.length) (h : P (gF L i) = false) : (L.take (i + 1)).filter P = (L.take i).filter P := by
  rw [List.take_succ_eq_append_getElem hi, List.filter_append, ← gF_of hi]
  simp [h]
theorem filt_len (L : List RF) (P : RF → Bool) (i : Nat) : ((L.take i).filter P).length ≤ L.length := by
  have h1 := List.length_filter_le P (L.take i)
  rw [List.length_take] at h1
  omega
def OutY (H : Nat) (w : World) (r : Nat) (off : Bool) (left : Int) (L' : List RF) (e : Ending) (w' : World) : Prop :=
  e = .returned (.tuple #[]) ∧ ∃ v', RS H w' r v' off left L' ∧ Turns (fun i => i = r) w w' ∧ ∀ g, v'.ownBlock = some g → w.heap.size ≤ g
theorem RS.again {H : Nat} {w wr : World} {r : Nat} {v v2 : Value} {off : Bool} {left : Int} {L M : List RF} (h : RS H w r v off left L) (hH : H ≤ w.heap.size) (hb : Below w.heap.size w wr) (ho : wr.ownsRow w.heap.size 71 3 v2 M.length (M.flatMap rfC)) (hM : M.length ≤ 1000) :
    RS H (wr.setCell ⟨r, 0, none⟩ v2) r v2 off left M ∧ Turns (fun i => i = r) w (wr.setCell ⟨r, 0, none⟩ v2) ∧ ∀ g, v2.ownBlock = some g → w.heap.size ≤ g := by
  have h2 := h.bel hb
  have TS : Turns (fun i => i = r) wr (wr.setCell ⟨r, 0, none⟩ v2) := (Turns.refl (fun i => i = r) wr).set ⟨r, 0, none⟩ _ (fun _ => rfl)
  refine ⟨⟨h2.blk.set 0 _, own_base (own_turns ho TS (fun g hg e => ?_)) hH, hM, h.lo, h.num⟩, (Turns.of_below hb).then TS, fun g hg => own_ge ho hg⟩
  have h1 := own_ge ho hg
  have := h.blk.lt
  omega
set_option maxRecDepth 20000 in
set_option maxHeartbeats 4000000 in
theorem rout (H : Nat) (w : World) (r : Nat) (v : Value) (off : Bool) (left : Int) (L : List RF) (h : RS H w r v off left L) (k : ByteArray) :
    Calls Try.prog 52 #[.pointer (some ⟨r, 0, none⟩), .string k] w (OutY H w r off left (outL L k)) := by
  obtain ⟨i0, hi0, hz0, hz1, hz2⟩ := info_parts info_rf
  have HH := Lib.hid h
  have hf := h.few
  have hHw : H ≤ w.heap.size := by have := h.lo; have := h.blk.lt; omega
  obtain ⟨A0, c0, rfl⟩ := own_slice' h.row
  clear h
  go_enter Try.func52, Try.ntmps52
  go_wp2_with fail
  go_loopw [4, 5] (fun lv iv wr => ∃ i : Nat, i ≤ L.length ∧ iv = .int .i64 (i : Int) ∧ Hid (wr.ownsRow w.heap.size 71 3 lv ((L.take i).filter (fun g => decide (g.name ≠ k))).length (((L.take i).filter (fun g => decide (g.name ≠ k))).flatMap rfC)) ∧ Hid (Below w.heap.size w wr)) (fun _ iv _ => L.length - (intOf iv).toNat)
  case atStart => exact ⟨0, by omega, rfl, Lib.hid (by simpa using World.ownsRow_nil _ _ _ _), Lib.hid (Below.refl _ _)⟩
  case round =>
    obtain ⟨i, hi, rfl, hR, hB⟩ := hrel
    have h2 := HH.out.bel hB.out
    obtain ⟨q0, _, _⟩ := h2.cells
    by_cases hlt : i < L.length
    · have hlt1 : (i : Int) < (L.length : Int) := by omega
      obtain ⟨g, rfl, hg, hnc, hcm, b0, b1, b2⟩ := gF_cells h2.row i hlt
      unfold maxLen at hcm
      by_cases hc : (gF L i).name = k
      · have hs : Hid ((L.take (i + 1)).filter (fun g => decide (g.name ≠ k)) = (L.take i).filter (fun g => decide (g.name ≠ k))) := Lib.hid (filt_no hlt (by simp [hc]))
        rw [← hs.out] at hR
        rw [hc] at b0
        clear h2 hc
        go_wp2_with fail
        go_roundw
        case measure => simp only [intOf]; omega
        case rel => exact ⟨i + 1, by omega, by go_num, hR, hB⟩
      · have hs : Hid ((L.take (i + 1)).filter (fun g => decide (g.name ≠ k)) = (L.take i).filter (fun g => decide (g.name ≠ k)) ++ [gF L i]) := Lib.hid (filt_yes hlt (by simp [hc]))
        have hq : ((gF L i).name.toList == k.toList) = false := str_ne hc
        have hq2 : ((gF L i).name.toList != k.toList) = true := by simp [bne, hq]
        obtain ⟨Al, cl, rfl⟩ := own_slice' hR.out
        have HA := Lib.hid (hR.out.alloc (.cells #[.string (gF L i).name, .string (gF L i).last, .string (gF L i).waits] 71))
        have HN := Lib.hid (Blk.news (Blk.new wr 71 [.string (gF L i).name, .string (gF L i).last, .string (gF L i).waits]))
        have hn := filt_len L (fun g => decide (g.name ≠ k)) i
        have hl1 : Hid (((L.take i).filter (fun g => decide (g.name ≠ k))).length + 1 ≤ maxLen) := Lib.hid (by unfold maxLen; omega)
        have hl2 : Hid ((((L.take i).filter (fun g => decide (g.name ≠ k))).length + 1) * 48 ≤ 140737488355328) := Lib.hid (by omega)
        have HBS : Hid (w.heap.size ≤ (wr.alloc (.cells #[.string (gF L i).name, .string (gF L i).last, .string (gF L i).waits] 71)).heap.size) := Lib.hid (by have := hB.out.size; simp; omega)
        have HB1 := Lib.hid (hB.out.alloc hB.out.size (.cells #[.string (gF L i).name, .string (gF L i).last, .string (gF L i).waits] 71))
        have HLE : Hid (((L.take (i + 1)).filter (fun g => decide (g.name ≠ k))).length = ((L.take i).filter (fun g => decide (g.name ≠ k))).length + 1) := Lib.hid (by rw [hs.out, List.length_append]; rfl)
        have HFE : Hid (((L.take (i + 1)).filter (fun g => decide (g.name ≠ k))).flatMap rfC = ((L.take i).filter (fun g => decide (g.name ≠ k))).flatMap rfC ++ [.string (gF L i).name, .string (gF L i).last, .string (gF L i).waits]) := Lib.hid (by rw [hs.out, List.flatMap_append]; simp [rfC])
        clear h2 hn hR hc hs
        generalize (L.take i).filter (fun g => decide (g.name ≠ k)) = Mi at *
        generalize Mi.length = nl at *
        go_wp2_with (at_builtin; refine wpList_append_own_at _ rfl _ _ 64 rfl w.heap.size 71 i0 _ 3 48 Try.underlying64 hi0 hz0 hz1 hz2 rfl (by decide) _ _ _ rfl HA.out ⟨wr.heap.size, 0, none⟩ 1 1 [.string (gF L i).name, .string (gF L i).last, .string (gF L i).waits] rfl rfl HN.out (by intro u hu; simp at hu; rcases hu with rfl | rfl | rfl <;> rfl) hl1.out hl2.out HBS.out ?_; intro v1 y1 hown1 hgr1 _ _)
        go_roundw
        case measure => simp only [intOf]; omega
        case rel => exact ⟨i + 1, by omega, by go_num, Lib.hid (by rw [HLE.out, HFE.out]; exact hown1), Lib.hid (HB1.out.grown hgr1 HB1.out.size (fun r e => own_ge HA.out e))⟩
    · have hlt1 : ¬ (i : Int) < (L.length : Int) := by omega
      obtain rfl : i = L.length := by omega
      have z0 := h2.blk.fz 0
      have hR2 := hR.out
      rw [List.take_length] at hR2
      obtain ⟨M, hM⟩ : ∃ M, M = L.filter (fun g => decide (g.name ≠ k)) := ⟨_, rfl⟩
      rw [← hM] at hR2
      have hml : M.length ≤ 1000 := by have := List.length_filter_le (fun g => decide (RF.name g ≠ k)) L; rw [hM]; omega
      have HM : Hid (M = outL L k) := Lib.hid hM
      clear hM
      obtain ⟨Al, cl, rfl⟩ := own_slice' hR2
      have HF := Lib.hid (HH.out.again hHw hB.out hR2 hml)
      clear hR hR2 h2 hlt
      go_wp2_with fail
      go_end0
      rw [← HM.out]
      exact ⟨rfl, _, HF.out.1, HF.out.2⟩
end Go.Proofs.Ytoljnklceghcdaa
