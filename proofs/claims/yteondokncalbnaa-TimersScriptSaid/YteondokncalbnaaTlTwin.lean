/- timers: a table as a list: Twin. -/
import Derived.Test.YteondokncalbnaaTlOps
namespace Go.Proofs.Yteondokncalbnaa
open Go.RowKit

theorem insL_end {P : List Lt} {x : Lt} (h : ∀ y ∈ P, y.1 ≤ x.1) : insL P x = P ++ [x] := by
  unfold insL
  have e1 : P.filter (fun y => decide (y.1 ≤ x.1)) = P := List.filter_eq_self.2 (fun y hy => by simpa using h y hy)
  have e2 : P.filter (fun y => decide (x.1 < y.1)) = [] := List.filter_eq_nil_iff.2 (fun y hy => by have := h y hy; simp; omega)
  rw [e1, e2, List.append_nil]
theorem take_srt {L : List Lt} (h : SrtL L) {k : Nat} (hk : k < L.length) : ∀ y ∈ L.take k, y.1 ≤ L[k].1 := fun y hy => by
  obtain ⟨i, hi, rfl⟩ := List.mem_iff_getElem.1 hy
  rw [List.getElem_take]
  have hik : i < k := by rw [List.length_take] at hi; omega
  exact List.pairwise_iff_getElem.1 h i k (by omega) hk hik
theorem take_new {L : List Lt} (h : (L.map (·.2)).Nodup) {k : Nat} (hk : k < L.length) : ¬ named (L.take k) L[k].2.1 L[k].2.2 := by
  rintro ⟨y, hy, e1, e2⟩
  obtain ⟨i, hi, rfl⟩ := List.mem_iff_getElem.1 hy
  rw [List.getElem_take] at e1 e2
  have hik : i < k := by rw [List.length_take] at hi; omega
  have h1 : (L.map (·.2))[i]'(by simp; omega) = (L.map (·.2))[k]'(by simpa using hk) := by
    rw [List.getElem_map, List.getElem_map]
    exact Prod.ext e1 e2
  have := (List.getElem_inj h).1 h1
  omega
theorem ins_take {L : List Lt} (h : SrtL L) {k : Nat} (hk : k < L.length) : insL (L.take k) L[k] = L.take (k + 1) := by
  rw [insL_end (take_srt h hk), List.take_succ_eq_append_getElem hk]
/-- a fresh table -/
def TwinY (w : World) (L : List Lt) (e : Ending) (w' : World) : Prop := ∃ t2 S2, e = .returned (.pointer (some ⟨t2, 0, none⟩)) ∧ TL w' t2 S2 L L.length ∧ (∀ i, S2 i → w.heap.size ≤ i) ∧ Below w.heap.size w w'
set_option maxRecDepth 20000 in
set_option maxHeartbeats 8000000 in
theorem twinL (w : World) (t : Nat) (S : Nat → Prop) (L : List Lt) (N : Nat) (h : TL w t S L N) :
    Calls Try.prog 18 #[.pointer (some ⟨t, 0, none⟩)] w (TwinY w L) := by
  have HT := Lib.hid h
  have hlim := h.lim
  have HN := Lib.hid h.names
  have HSr := Lib.hid h.srt
  have HId := Lib.hid h.ids
  obtain ⟨p, v, M, A, xs, nx, h1, _⟩ := h.ex
  have hm := Lib.hid (made1 w t p h1.c0)
  have HNw := Lib.hid (newL w)
  clear h h1
  go_enter Try.func18, Try.ntmps18
  go_upto_region 4 with (first | (go_at_call 32; refine hm.out.mono ?_; rintro e w' ⟨rfl, rfl⟩) | (go_at_call 23; refine HNw.out.mono ?_; rintro e w1 ⟨t2, S0, rfl, h2, hl2, hb2⟩))
  have H2 := Lib.hid h2
  have HL2 := Lib.hid hl2
  have HB2 := Lib.hid hb2
  have HA := Lib.hid (allL w1 t S L N (HT.out.bel hb2))
  have hl0 := h2.lts
  have HL0 := Lib.hid hl0
  clear h2 hl2 hb2 hl0
  go_wp2_with fail
  refine HA.out.mono ?_
  rintro e w2 ⟨Aa, ca, rfl, ho, hb⟩
  have HO := Lib.hid ho
  have HB := Lib.hid hb
  have H3 := Lib.hid (H2.out.bel hb)
  have hws := hb.size
  clear ho hb HA
  go_wp2_with fail
  go_loopw [13] (fun iv wr => ∃ (k : Nat) (S' : Nat → Prop), k ≤ L.length ∧ iv = .int .i64 (k : Int) ∧ Hid (TL wr t2 S' (L.take k) k) ∧ Hid (Grows w2 S0 S') ∧ Hid (Turns S0 w2 wr)) (fun iv _ => L.length - (intOf iv).toNat)
  case atStart => exact ⟨0, S0, by omega, rfl, H3, Lib.hid (Grows.refl _ _), Lib.hid (Turns.refl _ _)⟩
  case round =>
    obtain ⟨k, S', hk, rfl, hT, hG, hU⟩ := hrel
    by_cases hlt : k < L.length
    · have hlt1 : (k : Int) < (L.length : Int) := by omega
      obtain ⟨g, c0, he, hvb, hg, hnc, hcm⟩ := own_at HO.out (by omega)
      injection he with he1 he2 he3
      subst he1 he3
      have hrow := own_turns HO.out hU.out (fun g' hg' hs => by
        have h1 := HL0.out g' hs
        have h2 := (own_lo HO.out hg').1
        omega)
      obtain ⟨d0, d1, d2⟩ := ltC_cells hrow rfl k hlt
      unfold maxLen at hcm
      have HX : Hid (Blk (wr.alloc (.cells #[.int .i64 L[k].1, .string L[k].2.1, .int .i64 L[k].2.2] 31)) wr.heap.size 31 [.int .i64 L[k].1, .string L[k].2.1, .int .i64 L[k].2.2]) := Lib.hid (Blk.new wr 31 [.int .i64 L[k].1, .string L[k].2.1, .int .i64 L[k].2.2])
      have BX : Hid (Below wr.heap.size wr (wr.alloc (.cells #[.int .i64 L[k].1, .string L[k].2.1, .int .i64 L[k].2.2] 31))) := Lib.hid (Below.new wr _)
      have HT2 := Lib.hid (hT.out.bel BX.out)
      have HU2 := Lib.hid (hU.out.then (.of_below BX.out))
      have hid0 := HId.out L[k] (List.getElem_mem hlt)
      clear hrow
      go_upto_region 7 with (fail)
      clear d0 d1 d2
      generalize wr.alloc (.cells #[.int .i64 L[k].1, .string L[k].2.1, .int .i64 L[k].2.2] 31) = X at *
      generalize wr.heap.size = bx at *
      have k0 := HX.out.cell 0
      have k1 := HX.out.cell 1
      have k2 := HX.out.cell 2
      simp only [List.getElem?_cons_succ, List.getElem?_cons_zero] at k0 k1 k2
      have HSt := setL X t2 S' (L.take k) k HT2.out L[k].1 L[k].2.1 L[k].2.2 hid0 (take_new HN.out hlt) (by rw [List.length_take]; omega) (by omega)
      have e1 : insL (L.take k) (L[k].1, L[k].2.1, L[k].2.2) = L.take (k + 1) := ins_take HSr.out hlt
      rw [e1] at HSt
      have HSe := Lib.hid HSt
      clear e1 HSt
      go_wp2_with (go_at_call 14; refine HSe.out.mono ?_; rintro e w3 ⟨rfl, S2, h3, g3, t3⟩; have H5 := Lib.hid h3; have G3 := Lib.hid g3; have T3 := Lib.hid t3; clear h3 g3 t3)
      go_roundw
      case measure => simp only [intOf]; omega
      case rel => exact ⟨k + 1, S2, by omega, by go_num, H5, Lib.hid (hG.out.trans G3.out HU2.out.size), Lib.hid (Grows.turns HU2.out hG.out T3.out)⟩
    · obtain rfl : k = L.length := by omega
      have hlt1 : ¬ (L.length : Int) < (L.length : Int) := by omega
      go_wp2_with fail
      go_ret
      have hT2 := hT.out
      rw [List.take_length] at hT2
      have hs2 := HB2.out.size
      refine ⟨t2, S', rfl, hT2, fun i hi => (hG.out i hi).elim (fun e => HL2.out i e) (fun e => by omega), ?_⟩
      exact ((Turns.of_below (S := fun i => w'.heap.size ≤ i) (below_trans' HB2.out HB.out)).then (hU.out.mono (fun i _ e => HL2.out i e))).below (Nat.le_refl _) (fun _ _ e => e)
end Go.Proofs.Yteondokncalbnaa
