/- queue: tell: Outs and Expire; Waits. -/
import Derived.Test.YtpbheicfplpemaaGreatQuSorted
import Derived.Deep.OwnRows
import Derived.Deep.LoopGhost
namespace Go.Proofs.YtpbheicfplpemaaGreat
open Go.RowKit

def ouC (x : Ot) : List Value := [.string x.tk.key, .int .i64 x.token, .int .i64 x.tk.att]
theorem ouC_len (x : Ot) : (ouC x).length = 3 := rfl
theorem info_api : (Tryz.prog.info? 74).map (fun i => (i.zero, i.size, i.bytes)) = some (some (.agg #[.string ⟨#[]⟩, .int .i64 0, .int .i64 0]), 3, 32) := by kernel_rfl
theorem info_str : (Tryz.prog.info? 9).map (fun i => (i.zero, i.size, i.bytes)) = some (some (.string ⟨#[]⟩), 1, 16) := by kernel_rfl
set_option maxRecDepth 20000 in
theorem outsF (x : Ot) (w : World) : Calls Tryz.prog 71 #[otV x] w fun e w' => e = .returned (.bool true) ∧ Below w.heap.size w w' := by
  unfold otV
  go_enter Tryz.func71, Tryz.ntmps71
  go_wp2_with fail
  go_ret
  exact ⟨rfl, Below.new _ _⟩
set_option maxRecDepth 20000 in
theorem expireF (x : Ot) (w : World) (Bx : Nat) (now : Int) (hb : Bx < w.heap.size) (hc : w.cell? ⟨Bx, 0, none⟩ = some (.int .i64 now)) : Calls Tryz.prog 87 #[otV x, .pointer (some ⟨Bx, 0, none⟩)] w fun e w' => e = .returned (.bool (decide (x.until_ ≤ now))) ∧ Below w.heap.size w w' := by
  unfold otV
  go_enter Tryz.func87, Tryz.ntmps87
  go_wp2_with fail
  go_ret
  exact ⟨rfl, Below.new _ _⟩
theorem ot_cells {w : World} {base n g cap : Nat} {zs : List Ot} (h : w.ownsRow base 88 7 (.slice (some ⟨g, 0, none⟩) n cap) n (zs.flatMap otC)) (hn : zs.length = n) (k : Nat) (hk : k < zs.length) : ∀ j, j < 7 → w.cell? ⟨g, k * 7 + j, none⟩ = (otC zs[k])[j]? := fun j hj => by
  rw [h.cellAt _ (by omega), flat_get otC 7 otC_len zs k j hj, List.getElem?_eq_getElem hk]
  rfl
set_option maxRecDepth 20000 in
set_option maxHeartbeats 4000000 in
theorem tellO (w : World) (q : Nat) (zs : List Ot) (hl : zs.length ≤ 1000000)
    (hs : Calls Tryz.prog 72 #[.pointer (some ⟨q, 0, none⟩)] w fun e W' => ∃ v, e = .returned v ∧ W'.ownsRow w.heap.size 88 7 v zs.length (zs.flatMap otC) ∧ Below w.heap.size w W') :
    Calls Tryz.prog 70 #[.pointer (some ⟨q, 0, none⟩), .func (.func 71) #[] #[]] w fun e W' => ∃ v, e = .returned v ∧ W'.ownsRow w.heap.size 74 3 v zs.length (zs.flatMap ouC) ∧ Below w.heap.size w W' := by
  obtain ⟨i0, hi, hz0, hz1, hz2⟩ := info_parts info_api
  have HQ := Lib.hid hs
  clear hs
  go_enter Tryz.func70, Tryz.ntmps70
  go_wp2_with fail
  refine HQ.out.mono ?_
  rintro e w1 ⟨v, rfl, ho, hb⟩
  obtain ⟨A1, c1, rfl⟩ := own_slice' ho
  have HO := Lib.hid ho
  have HB := Lib.hid hb
  clear ho hb
  go_wp2_with fail
  go_loopw [5, 7, 11] (fun out _ iv wr => ∃ k : Nat, k ≤ zs.length ∧ iv = .int .i64 (k : Int) ∧ Hid (wr.ownsRow w1.heap.size 74 3 out k ((zs.take k).flatMap ouC)) ∧ Hid (Below w1.heap.size w1 wr)) (fun _ _ iv _ => zs.length - (intOf iv).toNat)
  case atStart => exact ⟨0, by omega, rfl, Lib.hid (by simpa using World.ownsRow_nil _ _ _ _), Lib.hid (Below.refl _ _)⟩
  case round =>
    obtain ⟨k, hk, rfl, hO, hB⟩ := hrel
    by_cases hlt : k < zs.length
    · have hlt1 : (k : Int) < (zs.length : Int) := by omega
      obtain ⟨g, c0, he, hvb, hg, hnc, hcm⟩ := own_at HO.out (by omega)
      injection he with he1 he2 he3
      subst he1 he3
      have hx := ot_cells HO.out rfl k hlt
      have d0 := ((hB.out.cell (p := ⟨g, k * 7, none⟩) hg).trans (hx 0 (by omega)))
      have d1 := ((hB.out.cell (p := ⟨g, k * 7 + 1, none⟩) hg).trans (hx 1 (by omega)))
      have d2 := ((hB.out.cell (p := ⟨g, k * 7 + 2, none⟩) hg).trans (hx 2 (by omega)))
      have d3 := ((hB.out.cell (p := ⟨g, k * 7 + 3, none⟩) hg).trans (hx 3 (by omega)))
      have d4 := ((hB.out.cell (p := ⟨g, k * 7 + 4, none⟩) hg).trans (hx 4 (by omega)))
      have d5 := ((hB.out.cell (p := ⟨g, k * 7 + 5, none⟩) hg).trans (hx 5 (by omega)))
      have d6 := ((hB.out.cell (p := ⟨g, k * 7 + 6, none⟩) hg).trans (hx 6 (by omega)))
      have hsn : (zs.take (k + 1)).flatMap ouC = (zs.take k).flatMap ouC ++ ouC zs[k] := by rw [List.take_succ_eq_append_getElem hlt, List.flatMap_append]; simp
      have HSn := Lib.hid hsn
      clear hx hsn
      generalize zs[k] = x at *
      simp only [otC, List.getElem?_cons_succ, List.getElem?_cons_zero] at d0 d1 d2 d3 d4 d5 d6
      obtain ⟨A2, c2, rfl⟩ := own_slice' hO.out
      have hbx := Below.new wr (.cells #[.string x.tk.key, .string x.tk.sticky, .int .i64 x.tk.ready, .int .i64 x.tk.att, .int .i64 x.token, .string x.worker, .int .i64 x.until_] 88)
      have KX := Lib.hid (Blk.new wr 88 [.string x.tk.key, .string x.tk.sticky, .int .i64 x.tk.ready, .int .i64 x.tk.att, .int .i64 x.token, .string x.worker, .int .i64 x.until_])
      have HX := Lib.hid (own_turns hO.out (.of_below (S := fun _ => False) hbx) (fun _ _ => id))
      have BX := Lib.hid (hB.out.trans (hbx.mono hB.out.size))
      clear hbx
      go_upto_region 5 with (fail)
      clear d0 d1 d2 d3 d4 d5 d6
      generalize wr.alloc (.cells #[.string x.tk.key, .string x.tk.sticky, .int .i64 x.tk.ready, .int .i64 x.tk.att, .int .i64 x.token, .string x.worker, .int .i64 x.until_] 88) = X at *
      have u0 := KX.out.cell 0
      have u1 := KX.out.cell 1
      have u2 := KX.out.cell 2
      have u3 := KX.out.cell 3
      have u4 := KX.out.cell 4
      have u5 := KX.out.cell 5
      have u6 := KX.out.cell 6
      simp only [List.getElem?_cons_succ, List.getElem?_cons_zero] at u0 u1 u2 u3 u4 u5 u6
      have hF := Lib.hid (outsF x X)
      unfold otV at hF
      go_upto_region 6 with (go_at_call 71; refine hF.out.mono ?_; rintro e X2 ⟨rfl, hb2⟩; have HB2 := Lib.hid hb2; clear hb2)
      have KX2 := Lib.hid (KX.out.bel HB2.out)
      have BX2 := Lib.hid (BX.out.trans (HB2.out.mono BX.out.size))
      have HX2 := Lib.hid (own_turns HX.out (.of_below (S := fun _ => False) HB2.out) (fun _ _ => id))
      clear u0 u1 u2 u3 u4 u5 u6 hF
      have u0 := KX2.out.cell 0
      have u3 := KX2.out.cell 3
      have u4 := KX2.out.cell 4
      simp only [List.getElem?_cons_succ, List.getElem?_cons_zero] at u0 u3 u4
      have HN := Lib.hid (Blk.news (Blk.new X2 74 (ouC x)))
      have hbz := Below.new X2 (.cells (ouC x).toArray 74)
      have HA := Lib.hid (own_turns HX2.out (.of_below (S := fun _ => False) hbz) (fun _ _ => id))
      have HBA := Lib.hid (BX2.out.trans (hbz.mono BX2.out.size))
      have HM1 : Hid (k + 1 ≤ maxLen) := Lib.hid (by unfold maxLen; omega)
      have HM2 : Hid ((k + 1) * 32 ≤ 140737488355328) := Lib.hid (by omega)
      clear hbz
      go_wp2_with (at_builtin; refine wpList_append_own_at _ rfl _ _ 70 rfl w1.heap.size 74 i0 _ 3 32 Tryz.underlying70 hi hz0 hz1 hz2 rfl (by decide) _ _ _ rfl HA.out ⟨X2.heap.size, 0, none⟩ 1 1 (ouC x) rfl rfl HN.out (by intro u hu; simp [ouC] at hu; rcases hu with rfl | rfl | rfl <;> rfl) HM1.out HM2.out HBA.out.size ?_; intro v1 y1 hown hgr _ _)
      go_roundw
      case measure =>
        change zs.length - (intOf (.int .i64 ((k : Int) + 1))).toNat < zs.length - (intOf (.int .i64 (k : Int))).toNat
        simp only [intOf]
        omega
      case rel => exact ⟨k + 1, by omega, by go_num, Lib.hid (by rw [HSn.out]; exact hown), Lib.hid (HBA.out.grown hgr HBA.out.size (fun r e => (HA.out.lt r e).1))⟩
    · obtain rfl : k = zs.length := by omega
      have hlt1 : ¬ (zs.length : Int) < (zs.length : Int) := by omega
      have hO2 := hO.out
      rw [List.take_length] at hO2
      have HO2 := Lib.hid hO2
      clear hO hO2
      obtain ⟨A2, c2, rfl⟩ := own_slice' HO2.out
      go_wp2_with fail
      go_ret
      exact ⟨_, rfl, ownsRow_base' HO2.out HB.out.size, HB.out.trans (hB.out.mono HB.out.size)⟩
end Go.Proofs.YtpbheicfplpemaaGreat
