/- timers: the heap's All over the sorted row; the table's All. -/
import Derived.Test.YteondokncalbnaaTsSortedH
import Derived.Test.YteondokncalbnaaTsSortAny
import Derived.Test.YteondokncalbnaaTlPlain
namespace Go.Proofs.Yteondokncalbnaa
open Go.RowKit Go.Shelf

/-- a timer's cells -/
def tmV (x : Tri) : List Value := [.int .i64 x.2.2.1, .string x.2.2.2.1, .int .i64 x.2.2.2.2]
theorem tmV_len (x : Tri) : (tmV x).length = 3 := rfl
theorem info_tmr : (Try.prog.info? 31).map (fun i => (i.zero, i.size, i.bytes)) = some (some (.agg #[.int .i64 0, .string ⟨#[]⟩, .int .i64 0]), 3, 32) := by kernel_rfl
set_option maxRecDepth 20000 in
set_option maxHeartbeats 4000000 in
theorem all_of (w : World) (p n : Nat) (P : List Tri → Prop) (hn : n ≤ 1000000)
    (hs : Calls Try.prog 53 #[.pointer (some ⟨p, 0, none⟩)] w fun e w' => ∃ v ys, e = .returned v ∧ P ys ∧ ys.length = n ∧ w'.ownsRow w.heap.size 92 5 v n (ys.flatMap triC) ∧ Below w.heap.size w w') :
    Calls Try.prog 36 #[.pointer (some ⟨p, 0, none⟩)] w fun e w' => ∃ v, e = .returned v ∧ ∃ ys, P ys ∧ ys.length = n ∧ w'.ownsRow w.heap.size 31 3 v n (ys.flatMap tmV) ∧ Below w.heap.size w w' := by
  obtain ⟨i0, hi, hz0, hz1, hz2⟩ := info_parts info_tmr
  have HQ := Lib.hid hs
  clear hs
  go_enter Try.func36, Try.ntmps36
  go_wp2_with fail
  refine HQ.out.mono ?_
  rintro e w1 ⟨v, ys, rfl, hP, hl, ho, hb⟩
  obtain ⟨A1, c1, rfl⟩ := own_slice' ho
  have HP := Lib.hid hP
  have HL := Lib.hid hl
  have HO := Lib.hid ho
  have HB := Lib.hid hb
  clear hP hl ho hb
  go_wp2_with fail
  go_loopw [3, 5, 9] (fun out _ iv wr => ∃ k : Nat, k ≤ n ∧ iv = .int .i64 (k : Int) ∧ Hid (wr.ownsRow w1.heap.size 31 3 out k ((ys.take k).flatMap tmV)) ∧ Hid (Below w1.heap.size w1 wr)) (fun _ _ iv _ => n - (intOf iv).toNat)
  case atStart => exact ⟨0, by omega, rfl, Lib.hid (by simpa using World.ownsRow_nil _ _ _ _), Lib.hid (Below.refl _ _)⟩
  case round =>
    obtain ⟨k, hk, rfl, hO, hB⟩ := hrel
    by_cases hlt : k < n
    · have hlt1 : (k : Int) < (n : Int) := by omega
      obtain ⟨g, c0, he, hvb, hg, hnc, hcm⟩ := own_at HO.out (by omega)
      injection he with he1 he2 he3
      subst he1
      have hgl : g < w1.heap.size := by
        rcases HO.out.2 with ⟨h0, _⟩ | ⟨g', cap', cur, hv, _, hbb, _⟩
        · cases h0
        · cases hv; exact (Array.getElem?_eq_some_iff.1 hbb).1
      have hky : k < ys.length := by have := HL.out; omega
      obtain ⟨d0, d1, d2, d3, d4⟩ := (tri_cells HO.out HL.out).below hB.out hgl k hky
      have hsn : (ys.take (k + 1)).flatMap tmV = (ys.take k).flatMap tmV ++ tmV ys[k] := by rw [List.take_succ_eq_append_getElem hky, List.flatMap_append]; simp
      have HSn := Lib.hid hsn
      generalize ys[k] = y at *
      obtain ⟨y0, y1, y2, y3, y4⟩ := y
      simp only at d0 d1 d2 d3 d4
      clear hsn
      obtain ⟨A2, c2, rfl⟩ := own_slice' hO.out
      have HA := Lib.hid ((hO.out.alloc (.cells #[.int .i64 y0, .int .i64 y1, .int .i64 y2, .string y3, .int .i64 y4] 92)).alloc (.cells #[.int .i64 y2, .string y3, .int .i64 y4] 31))
      have HN := Lib.hid (Blk.news (Blk.new2 wr (.cells #[.int .i64 y0, .int .i64 y1, .int .i64 y2, .string y3, .int .i64 y4] 92) 31 [.int .i64 y2, .string y3, .int .i64 y4]))
      have HBA : Hid (Below w1.heap.size w1 ((wr.alloc (.cells #[.int .i64 y0, .int .i64 y1, .int .i64 y2, .string y3, .int .i64 y4] 92)).alloc (.cells #[.int .i64 y2, .string y3, .int .i64 y4] 31))) := Lib.hid ((hB.out.alloc hB.out.size _).alloc (by have := hB.out.size; simp; omega) _)
      have HM1 : Hid (k + 1 ≤ maxLen) := Lib.hid (by unfold maxLen; omega)
      have HM2 : Hid ((k + 1) * 32 ≤ 140737488355328) := Lib.hid (by omega)
      go_wp2_with (at_builtin; refine wpList_append_own_at _ rfl _ _ 28 rfl w1.heap.size 31 i0 _ 3 32 Try.underlying28 hi hz0 hz1 hz2 rfl (by decide) _ _ _ rfl HA.out ⟨wr.heap.size + 1, 0, none⟩ 1 1 [.int .i64 y2, .string y3, .int .i64 y4] rfl rfl HN.out (by intro u hu; simp at hu; rcases hu with rfl | rfl | rfl <;> rfl) HM1.out HM2.out HBA.out.size ?_; intro v1 y1' hown hgr _ _)
      go_roundw
      case measure => simp only [intOf]; omega
      case rel => exact ⟨v1, _, .int .i64 ((k : Int) + 1), ⟨k + 1, by omega, by go_num, Lib.hid (by rw [HSn.out]; exact hown), Lib.hid (HBA.out.grown hgr HBA.out.size (fun r e => (HA.out.lt r e).1))⟩, rfl, rfl, rfl⟩
    · obtain rfl : k = n := by omega
      have hlt1 : ¬ (k : Int) < (k : Int) := by omega
      have hO2 := hO.out
      rw [List.take_of_length_le (by have := HL.out; omega)] at hO2
      have HO2 := Lib.hid hO2
      clear hO hO2
      obtain ⟨A2, c2, rfl⟩ := own_slice' HO2.out
      go_wp2_with fail
      go_ret
      exact ⟨_, rfl, ys, HP.out, HL.out, ownsRow_base' HO2.out HB.out.size, HB.out.trans (hB.out.mono HB.out.size)⟩
set_option maxRecDepth 20000 in
theorem allTab (w : World) (t p : Nat) (v : Value) (M A : Nat) (xs : List Th) (nx : Nat) (h : TabS w t p v M A xs nx) :
    Calls Try.prog 17 #[.pointer (some ⟨t, 0, none⟩)] w fun e w' => ∃ c A' ys, e = .returned (.slice A' ys.length c) ∧ SortedT xs ys ∧ ys.length = xs.length ∧ w'.ownsRow w.heap.size 31 3 (.slice A' ys.length c) ys.length (ys.flatMap tmV) ∧ Below w.heap.size w w' := by
  have hm := Lib.hid (made1 w t p h.c0)
  have c0 := h.c0
  obtain ⟨m, _, hP⟩ := h.at_
  have hfew : xs.length ≤ 1000000 := by have := h.st.len; have := h.st.few; omega
  have HA := Lib.hid (all_of w p xs.length (SortedT xs) hfew (sorted_any sort_any w p v M xs nx h.st hP.tim))
  clear h hP
  go_enter Try.func17, Try.ntmps17
  go_wp2_with (go_at_call 32; refine hm.out.mono ?_; rintro e w' ⟨rfl, rfl⟩)
  refine HA.out.mono ?_
  rintro e w1 ⟨v1, rfl, ys, hs, hl, ho, hb⟩
  rw [← hl] at ho
  obtain ⟨A', c, rfl⟩ := own_slice' ho
  have HS := Lib.hid hs
  have HL := Lib.hid hl
  have HO := Lib.hid ho
  have HB := Lib.hid hb
  clear hs hl ho hb
  go_wp2_with fail
  go_ret
  exact ⟨c, A', ys, rfl, HS.out, HL.out, HO.out, HB.out⟩
end Go.Proofs.Yteondokncalbnaa
