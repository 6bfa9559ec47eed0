/- check: the laws' 'ints' and 'wakes'. -/
import Derived.Test.YtmacmejpcpdnnaaCkTreeIn
namespace Go.Proofs.Ytmacmejpcpdnnaa
open Go.RowKit

/-- a slice that reads as whole numbers -/
structure Ins (w : World) (v : Value) (l : List Int) : Prop where
  is : ∃ A c, v = .slice A l.length c ∧ l.length ≤ c ∧ c ≤ maxLen ∧ ∀ i (h : i < l.length), ∃ b o, A = some ⟨b, o, none⟩ ∧ b < w.heap.size ∧ w.cell? ⟨b, o + i, none⟩ = some (.int .i64 l[i])
theorem Ins.bel {w w' : World} {v : Value} {l : List Int} (h : Ins w v l) (hb : Below w.heap.size w w') : Ins w' v l := by
  obtain ⟨A, c, e, h1, h2, hc⟩ := h.is
  exact ⟨A, c, e, h1, h2, fun i hi => by obtain ⟨b, o, ea, hl, hx⟩ := hc i hi; exact ⟨b, o, ea, Nat.lt_of_lt_of_le hl hb.size, (hb.cell (p := ⟨b, _, none⟩) hl).trans hx⟩⟩
theorem Ins.of {w : World} {base : Nat} {v : Value} {l : List Int} (h : w.ownsRow base 3 1 v l.length (l.map intI)) : Ins w v l := by
  rcases Nat.eq_zero_or_pos l.length with h0 | h0
  · rcases h.2 with ⟨rfl, _⟩ | ⟨g, cap, cur, rfl, _, h4, h5, h6, _⟩
    · exact ⟨none, 0, by rw [h0], by omega, Nat.zero_le _, fun i hi => by omega⟩
    · exact ⟨_, cap, rfl, h5, h6, fun i hi => by omega⟩
  · obtain ⟨g, cap, rfl, _, hg, h1, h2⟩ := own_at h h0
    refine ⟨_, cap, rfl, h1, h2, fun i hi => ⟨g, 0, rfl, hg, ?_⟩⟩
    have := h.cellAt i (by omega)
    rw [List.getElem?_map, List.getElem?_eq_getElem hi] at this
    rw [Nat.zero_add]
    exact this
set_option maxRecDepth 20000 in
set_option maxHeartbeats 1600000 in
theorem ints_any (w : World) (v1 v2 : Value) (l1 l2 : List Int) (h1 : Ins w v1 l1) (h2 : Ins w v2 l2) :
    Calls Try.prog 11 #[v1, v2] w fun e w' => e = .returned (.bool (decide (l1 = l2))) ∧ Below w.heap.size w w' := by
  obtain ⟨A1, c1, rfl, a1, b1, k1⟩ := h1.is
  obtain ⟨A2, c2, rfl, a2, b2, k2⟩ := h2.is
  unfold maxLen at b1 b2
  by_cases hl : l1.length = l2.length
  · obtain ⟨m, hm⟩ : ∃ m, l1.length = m := ⟨_, rfl⟩
    have hm2 : l2.length = m := by omega
    rw [hm] at h1 a1
    rw [hm2] at h2 a2
    have HL := Lib.hid hm
    have HL2 := Lib.hid hm2
    have HI1 := Lib.hid h1
    have HI2 := Lib.hid h2
    rw [hm, hm2]
    clear hl h1 h2 k1 k2 hm hm2
    go_enter Try.func11, Try.ntmps11
    go_wp2_with fail
    go_loopw [5] (fun iv wr => ∃ i : Nat, iv = .int .i64 (i : Int) ∧ i ≤ m ∧ Hid (Below w.heap.size w wr ∧ l1.take i = l2.take i)) (fun iv _ => m - (intOf iv).toNat)
    case atStart => exact ⟨0, rfl, Nat.zero_le _, Lib.hid ⟨Below.refl _ _, by simp⟩⟩
    case round =>
      obtain ⟨i, rfl, hi, HB⟩ := hrel
      by_cases hlt : i < m
      · have hlt' : (i : Int) < (m : Int) := by omega
        have hi1 : i < l1.length := by rw [HL.out]; exact hlt
        have hi2 : i < l2.length := by rw [HL2.out]; exact hlt
        obtain ⟨_, _, e1, _, _, q1⟩ := (HI1.out.bel HB.out.1).is
        obtain ⟨_, _, e2, _, _, q2⟩ := (HI2.out.bel HB.out.1).is
        injection e1 with e1 _ _
        injection e2 with e2 _ _
        obtain ⟨g1, o1, f1, _, d1⟩ := q1 i hi1
        obtain ⟨g2, o2, f2, _, d2⟩ := q2 i hi2
        rw [f1] at e1
        rw [f2] at e2
        subst e1 e2
        clear q1 q2 f1 f2
        by_cases hx : l1[i] = l2[i]
        · have HX := Lib.hid hx
          rw [← hx] at d2
          clear hx
          go_wp2_with fail
          go_quiet (fail)
          go_wp2_with fail
          refine ⟨⟨i + 1, by go_num, by omega, Lib.hid ⟨below_drewN' HB.out.1 _, ?_⟩⟩, by simp [intOf]; omega⟩
          rw [List.take_succ_eq_append_getElem hi1, List.take_succ_eq_append_getElem hi2, HB.out.2, HX.out]
        · have HX := Lib.hid hx
          have hxb : ((l1[i] : Int) != l2[i]) = true := by simpa using hx
          go_wp2_with fail
          go_quiet (fail)
          go_wp2_with fail
          go_ret
          refine ⟨?_, below_drewN' HB.out.1 _⟩
          rw [decide_eq_false (fun e => HX.out (by subst e; rfl))]
          rfl
      · obtain rfl : i = m := by omega
        have hlt' : ¬ (i : Int) < (i : Int) := by omega
        go_wp2_with fail
        go_ret
        refine ⟨?_, HB.out.1⟩
        have := HB.out.2
        rw [List.take_of_length_le (by rw [HL.out]; exact Nat.le_refl _), List.take_of_length_le (by rw [HL2.out]; exact Nat.le_refl _)] at this
        rw [decide_eq_true this]
        rfl
  · have hl' : ¬ (l1.length : Int) = (l2.length : Int) := by omega
    have hlb : ((l1.length : Int) != (l2.length : Int)) = true := by simpa using hl'
    have HX : Hid (decide (l1 = l2) = false) := Lib.hid (decide_eq_false (fun e => hl (by rw [e])))
    rw [HX.out]
    clear h1 h2 k1 k2 hl
    go_enter Try.func11, Try.ntmps11
    go_wp2_with fail
    go_ret
    exact ⟨rfl, Below.refl _ _⟩
def smallT : List Tw := [⟨1, 2, 0, ⟨#[102]⟩⟩, ⟨2, 0, 0, ⟨#[112]⟩⟩, ⟨3, 1, 0, ⟨#[]⟩⟩, ⟨4, 1, 0, ⟨#[97]⟩⟩, ⟨26, 0, 0, ⟨#[112]⟩⟩]
theorem small_wf : ∀ x ∈ smallT, (-9223372036854775808 ≤ x.kids ∧ x.kids ≤ 9223372036854775807) ∧ (-9223372036854775808 ≤ x.int ∧ x.int ≤ 9223372036854775807) ∧ x.op ≤ 255 ∧ x.text.size ≤ maxLen := by decide
theorem slots_small : slots smallT = .ok [-1, 0, -1, 1, 0] := by kernel_rfl
theorem small_any (w : World) : Calls Try.prog 22 #[] w fun e w' => ∃ a, e = .returned (.slice a 5 5) ∧ TreeIn w' a 5 5 smallT ∧ Below w.heap.size w w' := by
  go_enter Try.func22, Try.ntmps22
  go_wp2_with fail
  go_ret
  have hb := Blk.new w 34 (smallT.flatMap twC)
  refine ⟨_, rfl, ⟨⟨Nat.le_refl _, by decide⟩, ⟨rfl, fun i hi => ?_, fun i hi => ?_⟩⟩, Below.new w _⟩
  · have hi' : i < 5 := hi
    refine ⟨w.heap.size, 0, rfl, by simp, by simp, ?_⟩
    have h0 := hb.cell (0 + i * 4)
    have h1 := hb.cell (0 + i * 4 + 1)
    have h2 := hb.cell (0 + i * 4 + 2)
    have h3 := hb.cell (0 + i * 4 + 3)
    rcases i with _ | _ | _ | _ | _ | i
    · exact ⟨h0, h1, h2, h3⟩
    · exact ⟨h0, h1, h2, h3⟩
    · exact ⟨h0, h1, h2, h3⟩
    · exact ⟨h0, h1, h2, h3⟩
    · exact ⟨h0, h1, h2, h3⟩
    · omega
  · exact small_wf _ (List.getElem_mem hi)
theorem ins_lit (w : World) : Ins (w.alloc (.cells #[.int .i64 (-1), .int .i64 0, .int .i64 (-1), .int .i64 1, .int .i64 0] 3)) (.slice (some ⟨w.heap.size, 0, none⟩) 5 5) [-1, 0, -1, 1, 0] := by
  have hb := Blk.new w 3 ([-1, 0, -1, 1, 0].map intI)
  refine ⟨_, 5, rfl, by decide, by decide, fun i hi => ⟨w.heap.size, 0, rfl, by simp, ?_⟩⟩
  have hi' : i < 5 := hi
  have h0 := hb.cell (0 + i)
  rcases i with _ | _ | _ | _ | _ | i
  · exact h0
  · exact h0
  · exact h0
  · exact h0
  · exact h0
  · omega
theorem wakes_any (w : World) : Calls Try.prog 8 #[] w fun e w' => e = .returned (.bool true) ∧ Below w.heap.size w w' := by
  go_enter Try.func8, Try.ntmps8
  go_wp2_with (first | (go_at_call 22; refine (small_any _).mono ?_; rintro e w1 ⟨a, rfl, hT, hB1⟩; have HT := Lib.hid hT; have HB1 := Lib.hid hB1; clear hT hB1) | (go_at_call 9; refine (slots_any _ _ _ _ _ HT.out.cap HT.out.tw).mono ?_; rintro e w2 ⟨hB2, hS⟩; rw [slots_small] at hS; obtain ⟨v, rfl, hr⟩ := hS; have HI := Lib.hid (Ins.of hr); have HB2 := Lib.hid hB2; clear hB2 hr) | (go_at_call 11; refine (ints_any _ _ _ _ _ (HI.out.bel (Below.new w2 _)) (ins_lit w2)).mono ?_; rintro e w3 ⟨rfl, hB3⟩; have HB3 := Lib.hid hB3; clear hB3))
  go_ret
  refine ⟨rfl, ((HB1.out.trans (HB2.out.mono HB1.out.size)).trans ((Below.new w2 _).mono (Nat.le_trans HB1.out.size HB2.out.size))).trans (HB3.out.mono ?_)⟩
  have := HB1.out.size
  have := HB2.out.size
  simp
  omega
end Go.Proofs.Ytmacmejpcpdnnaa
