/- Keys and All over the sorted row. -/
import Derived.Test.YtoihhckiacmfcaaHpSortsPlain
namespace Go.Proofs.Ytoihhckiacmfcaa
open Go.RowKit

theorem tri_cells {w : World} {base n g cap : Nat} {ys : List Tri} (h : w.ownsRow base 65 3 (.slice (some ⟨g, 0, none⟩) n cap) n (ys.flatMap triC)) (hn : ys.length = n) : TriRow w g ys := fun k hk => by
  have hx : ∀ j, j < 3 → w.cell? ⟨g, k * 3 + j, none⟩ = (triC ys[k])[j]? := fun j hj => by
    rw [h.cellAt _ (by omega), flat_get triC 3 triC_len ys k j hj, List.getElem?_eq_getElem hk]
    rfl
  have h0 := hx 0 (by omega)
  rw [Nat.add_zero] at h0
  exact ⟨h0, hx 1 (by omega), hx 2 (by omega)⟩
theorem info_i64 : (Try.prog.info? 2).map (fun i => (i.zero, i.size, i.bytes)) = some (some (.int .i64 0), 1, 8) := by kernel_rfl

theorem ownsRow_base' {W : World} {base base' : Nat} {e : TypeId} {size : Nat} {v : Value} {k : Nat} {xs : List Value} (h : W.ownsRow base e size v k xs) (hb : base' ≤ base) : W.ownsRow base' e size v k xs := by
  refine ⟨h.1, ?_⟩
  rcases h.2 with hn | ⟨g, cap, cur, hv, hbg, rest⟩
  · exact .inl hn
  · exact .inr ⟨g, cap, cur, hv, Nat.le_trans hb hbg, rest⟩
theorem info_int : (Try.prog.info? 3).map (fun i => (i.zero, i.size, i.bytes)) = some (some (.int .i64 0), 1, 8) := by kernel_rfl
set_option maxRecDepth 20000 in
set_option maxHeartbeats 1600000 in
theorem keys_of (w : World) (p n : Nat) (P : List Tri → Prop) (hn : n ≤ 1000)
    (hs : Calls Try.prog 33 #[.pointer (some ⟨p, 0, none⟩)] w fun e w' => ∃ v ys, e = .returned v ∧ P ys ∧ ys.length = n ∧ w'.ownsRow w.heap.size 65 3 v n (ys.flatMap triC) ∧ Below w.heap.size w w') :
    Calls Try.prog 13 #[.pointer (some ⟨p, 0, none⟩)] w fun e w' => ∃ v, e = .returned v ∧ ∃ ys, P ys ∧ ys.length = n ∧ w'.ownsRow w.heap.size 2 1 v n (ys.map fun y => .int .i64 y.1) ∧ Below w.heap.size w w' := by
  obtain ⟨i0, hi, hz0, hz1, hz2⟩ := info_parts info_i64
  have HQ := Lib.hid hs
  clear hs
  go_enter Try.func13, Try.ntmps13
  go_wp2_with fail
  refine HQ.out.mono ?_
  rintro e w1 ⟨v, ys, rfl, hP, hl, ho, hb⟩
  obtain ⟨A1, c1, rfl⟩ := own_slice' ho
  have HP := Lib.hid hP
  have HL := Lib.hid hl
  have HO := Lib.hid ho
  have HB := Lib.hid hb
  clear hP hl ho hb
  go_wp2_with fail
  go_loopw [3, 5, 9] (fun out _ iv wr => ∃ k : Nat, k ≤ n ∧ iv = .int .i64 (k : Int) ∧ Hid (wr.ownsRow w1.heap.size 2 1 out k ((ys.map fun y => Value.int .i64 y.1).take k)) ∧ Hid (Below w1.heap.size w1 wr)) (fun _ _ iv _ => n - (intOf iv).toNat)
  case atStart => exact ⟨0, by omega, rfl, Lib.hid (by simpa using World.ownsRow_nil _ _ _ _), Lib.hid (Below.refl _ _)⟩
  case round =>
    obtain ⟨k, hk, rfl, hO, hB⟩ := hrel
    by_cases hlt : k < n
    · have hlt1 : (k : Int) < (n : Int) := by omega
      obtain ⟨g, c0, he, hvb, hg, hnc, hcm⟩ := own_at HO.out (by omega)
      injection he with he1 he2 he3
      subst he1
      have hgl : g < w1.heap.size := by
        rcases HO.out.2 with ⟨h0, _⟩ | ⟨g', cap', cur, hv, _, hbb, _⟩
        · cases h0
        · cases hv; exact (Array.getElem?_eq_some_iff.1 hbb).1
      have hky : k < ys.length := by have := HL.out; omega
      obtain ⟨d0, d1, d2⟩ := (tri_cells HO.out HL.out).below hB.out hgl k hky
      have hsn : (ys.map fun y => Value.int .i64 y.1).take (k + 1) = (ys.map fun y => Value.int .i64 y.1).take k ++ [.int .i64 (ys[k]).1] := by rw [List.take_succ_eq_append_getElem (by simpa using hky), List.getElem_map]
      have HSn := Lib.hid hsn
      generalize ys[k] = y at *
      clear hsn
      obtain ⟨A2, c2, rfl⟩ := own_slice' hO.out
      have HA := Lib.hid ((hO.out.alloc (.cells #[.int .i64 y.1, .int .i64 y.2.1, .int .i64 y.2.2] 65)).alloc (.cells #[.int .i64 y.1] 2))
      have HN := Lib.hid (Blk.news (Blk.new2 wr (.cells #[.int .i64 y.1, .int .i64 y.2.1, .int .i64 y.2.2] 65) 2 [.int .i64 y.1]))
      have HBA : Hid (Below w1.heap.size w1 ((wr.alloc (.cells #[.int .i64 y.1, .int .i64 y.2.1, .int .i64 y.2.2] 65)).alloc (.cells #[.int .i64 y.1] 2))) := Lib.hid ((hB.out.alloc hB.out.size _).alloc (by have := hB.out.size; simp; omega) _)
      have HM1 : Hid (k + 1 ≤ maxLen) := Lib.hid (by unfold maxLen; omega)
      have HM2 : Hid ((k + 1) * 8 ≤ 140737488355328) := Lib.hid (by omega)
      go_wp2_with (at_builtin; refine wpList_append_own_at _ rfl _ _ 22 rfl w1.heap.size 2 i0 (.int .i64 0) 1 8 Try.underlying22 hi hz0 hz1 hz2 rfl (by decide) _ _ _ rfl HA.out ⟨wr.heap.size + 1, 0, none⟩ 1 1 [.int .i64 y.1] rfl rfl HN.out (by intro u hu; simp at hu; subst hu; rfl) HM1.out HM2.out HBA.out.size ?_; intro v1 y1 hown hgr _ _)
      go_roundw
      case measure => simp only [intOf]; omega
      case rel => exact ⟨v1, _, .int .i64 ((k : Int) + 1), ⟨k + 1, by omega, by go_num, Lib.hid (by rw [HSn.out]; exact hown), Lib.hid (HBA.out.grown hgr HBA.out.size (fun r e => (HA.out.lt r e).1))⟩, rfl, rfl, rfl⟩
    · obtain rfl : k = n := by omega
      have hlt1 : ¬ (k : Int) < (k : Int) := by omega
      have hO2 := hO.out
      rw [List.take_of_length_le (by have := HL.out; simp; omega)] at hO2
      have HO2 := Lib.hid hO2
      clear hO hO2
      obtain ⟨A2, c2, rfl⟩ := own_slice' HO2.out
      go_wp2_with fail
      go_ret
      exact ⟨_, rfl, ys, HP.out, HL.out, ownsRow_base' HO2.out HB.out.size, HB.out.trans (hB.out.mono HB.out.size)⟩
set_option maxRecDepth 20000 in
set_option maxHeartbeats 1600000 in
theorem all_of (w : World) (p n : Nat) (P : List Tri → Prop) (hn : n ≤ 1000)
    (hs : Calls Try.prog 33 #[.pointer (some ⟨p, 0, none⟩)] w fun e w' => ∃ v ys, e = .returned v ∧ P ys ∧ ys.length = n ∧ w'.ownsRow w.heap.size 65 3 v n (ys.flatMap triC) ∧ Below w.heap.size w w') :
    Calls Try.prog 14 #[.pointer (some ⟨p, 0, none⟩)] w fun e w' => ∃ v, e = .returned v ∧ ∃ ys, P ys ∧ ys.length = n ∧ w'.ownsRow w.heap.size 3 1 v n (ys.map fun y => .int .i64 y.2.2) ∧ Below w.heap.size w w' := by
  obtain ⟨i0, hi, hz0, hz1, hz2⟩ := info_parts info_int
  have HQ := Lib.hid hs
  clear hs
  go_enter Try.func14, Try.ntmps14
  go_wp2_with fail
  refine HQ.out.mono ?_
  rintro e w1 ⟨v, ys, rfl, hP, hl, ho, hb⟩
  obtain ⟨A1, c1, rfl⟩ := own_slice' ho
  have HP := Lib.hid hP
  have HL := Lib.hid hl
  have HO := Lib.hid ho
  have HB := Lib.hid hb
  clear hP hl ho hb
  go_wp2_with fail
  go_loopw [3, 5, 9] (fun out _ iv wr => ∃ k : Nat, k ≤ n ∧ iv = .int .i64 (k : Int) ∧ Hid (wr.ownsRow w1.heap.size 3 1 out k ((ys.map fun y => Value.int .i64 y.2.2).take k)) ∧ Hid (Below w1.heap.size w1 wr)) (fun _ _ iv _ => n - (intOf iv).toNat)
  case atStart => exact ⟨0, by omega, rfl, Lib.hid (by simpa using World.ownsRow_nil _ _ _ _), Lib.hid (Below.refl _ _)⟩
  case round =>
    obtain ⟨k, hk, rfl, hO, hB⟩ := hrel
    by_cases hlt : k < n
    · have hlt1 : (k : Int) < (n : Int) := by omega
      obtain ⟨g, c0, he, hvb, hg, hnc, hcm⟩ := own_at HO.out (by omega)
      injection he with he1 he2 he3
      subst he1
      have hgl : g < w1.heap.size := by
        rcases HO.out.2 with ⟨h0, _⟩ | ⟨g', cap', cur, hv, _, hbb, _⟩
        · cases h0
        · cases hv; exact (Array.getElem?_eq_some_iff.1 hbb).1
      have hky : k < ys.length := by have := HL.out; omega
      obtain ⟨d0, d1, d2⟩ := (tri_cells HO.out HL.out).below hB.out hgl k hky
      have hsn : (ys.map fun y => Value.int .i64 y.2.2).take (k + 1) = (ys.map fun y => Value.int .i64 y.2.2).take k ++ [.int .i64 (ys[k]).2.2] := by rw [List.take_succ_eq_append_getElem (by simpa using hky), List.getElem_map]
      have HSn := Lib.hid hsn
      generalize ys[k] = y at *
      clear hsn
      obtain ⟨A2, c2, rfl⟩ := own_slice' hO.out
      have HA := Lib.hid ((hO.out.alloc (.cells #[.int .i64 y.1, .int .i64 y.2.1, .int .i64 y.2.2] 65)).alloc (.cells #[.int .i64 y.2.2] 3))
      have HN := Lib.hid (Blk.news (Blk.new2 wr (.cells #[.int .i64 y.1, .int .i64 y.2.1, .int .i64 y.2.2] 65) 3 [.int .i64 y.2.2]))
      have HBA : Hid (Below w1.heap.size w1 ((wr.alloc (.cells #[.int .i64 y.1, .int .i64 y.2.1, .int .i64 y.2.2] 65)).alloc (.cells #[.int .i64 y.2.2] 3))) := Lib.hid ((hB.out.alloc hB.out.size _).alloc (by have := hB.out.size; simp; omega) _)
      have HM1 : Hid (k + 1 ≤ maxLen) := Lib.hid (by unfold maxLen; omega)
      have HM2 : Hid ((k + 1) * 8 ≤ 140737488355328) := Lib.hid (by omega)
      go_wp2_with (at_builtin; refine wpList_append_own_at _ rfl _ _ 23 rfl w1.heap.size 3 i0 (.int .i64 0) 1 8 Try.underlying23 hi hz0 hz1 hz2 rfl (by decide) _ _ _ rfl HA.out ⟨wr.heap.size + 1, 0, none⟩ 1 1 [.int .i64 y.2.2] rfl rfl HN.out (by intro u hu; simp at hu; subst hu; rfl) HM1.out HM2.out HBA.out.size ?_; intro v1 y1 hown hgr _ _)
      go_roundw
      case measure => simp only [intOf]; omega
      case rel => exact ⟨v1, _, .int .i64 ((k : Int) + 1), ⟨k + 1, by omega, by go_num, Lib.hid (by rw [HSn.out]; exact hown), Lib.hid (HBA.out.grown hgr HBA.out.size (fun r e => (HA.out.lt r e).1))⟩, rfl, rfl, rfl⟩
    · obtain rfl : k = n := by omega
      have hlt1 : ¬ (k : Int) < (k : Int) := by omega
      have hO2 := hO.out
      rw [List.take_of_length_le (by have := HL.out; simp; omega)] at hO2
      have HO2 := Lib.hid hO2
      clear hO hO2
      obtain ⟨A2, c2, rfl⟩ := own_slice' HO2.out
      go_wp2_with fail
      go_ret
      exact ⟨_, rfl, ys, HP.out, HL.out, ownsRow_base' HO2.out HB.out.size, HB.out.trans (hB.out.mono HB.out.size)⟩
end Go.Proofs.Ytoihhckiacmfcaa
