/- queue: Outs, Expire, Waits. -/
import Derived.Test.YtpbheicfplpemaaGreatQuTellE
namespace Go.Proofs.YtpbheicfplpemaaGreat
open Go.RowKit

set_option maxRecDepth 20000 in
theorem outsQ (w : World) (q : Nat) (most grace next : Int) (wv : Value) (ts : List Tk) (O T : Nat) (om : Int → Option Ot) (tm : ByteArray → Option Int) (h : QS w q most grace next wv ts O T om tm) (zs : List Ot) (hz : OutsS om zs) (ho : ∀ x ∈ zs, OtOk x) (hle : zs.length ≤ 1000000) :
    Calls Tryz.prog 32 #[.pointer (some ⟨q, 0, none⟩)] w fun e W' => ∃ v, e = .returned v ∧ W'.ownsRow w.heap.size 74 3 v zs.length (zs.flatMap ouC) ∧ Below w.heap.size w W' := by
  have HT := Lib.hid (tellO w q zs hle (sortedQ w q most grace next wv ts O T om tm h zs hz ho hle))
  clear h hz
  go_enter Tryz.func32, Tryz.ntmps32
  go_wp2_with fail
  refine HT.out.mono ?_
  rintro e w2 ⟨v2, rfl, hown, hb⟩
  obtain ⟨A2, c2', rfl⟩ := own_slice' hown
  have HO := Lib.hid hown
  have HB := Lib.hid hb
  clear hown hb
  go_wp2_with fail
  go_ret
  exact ⟨_, rfl, HO.out, HB.out⟩
set_option maxRecDepth 20000 in
theorem expireQ (w : World) (q : Nat) (most grace next : Int) (wv : Value) (ts : List Tk) (O T : Nat) (om : Int → Option Ot) (tm : ByteArray → Option Int) (h : QS w q most grace next wv ts O T om tm) (zs : List Ot) (hz : OutsS om zs) (ho : ∀ x ∈ zs, OtOk x) (hle : zs.length ≤ 1000000) (now : Int) :
    Calls Tryz.prog 59 #[.pointer (some ⟨q, 0, none⟩), .int .i64 now] w fun e W' => ∃ v, e = .returned v ∧ W'.ownsRow w.heap.size 74 3 v (zs.filter (over now)).length ((zs.filter (over now)).flatMap ouC) ∧ Below w.heap.size w W' := by
  have hb0 := Below.new w (.cells #[.int .i64 now] 2)
  have hc := (Blk.new w 2 [.int .i64 now]).cell 0
  simp only [List.getElem?_cons_zero] at hc
  have HT := Lib.hid (tellE (w.alloc (.cells #[.int .i64 now] 2)) q zs hle w.heap.size now (by simp) hc (sortedQ _ q most grace next wv ts O T om tm (h.bel hb0) zs hz ho hle))
  have HB0 := Lib.hid hb0
  clear h hz hb0 hc
  go_enter Tryz.func59, Tryz.ntmps59
  go_wp2_with fail
  refine HT.out.mono ?_
  rintro e w2 ⟨v2, rfl, hown, hb⟩
  obtain ⟨A2, c2', rfl⟩ := own_slice' hown
  have HO := Lib.hid (ownsRow_base' hown HB0.out.size)
  have HB := Lib.hid (HB0.out.trans (hb.mono HB0.out.size))
  clear hown hb
  go_wp2_with fail
  go_ret
  exact ⟨_, rfl, HO.out, HB.out⟩
set_option maxRecDepth 20000 in
set_option maxHeartbeats 4000000 in
theorem waitsQ (w : World) (q : Nat) (most grace next : Int) (wv : Value) (ts : List Tk) (O T : Nat) (om : Int → Option Ot) (tm : ByteArray → Option Int) (h : QS w q most grace next wv ts O T om tm) :
    Calls Tryz.prog 30 #[.pointer (some ⟨q, 0, none⟩)] w fun e W' => ∃ v, e = .returned v ∧ W'.ownsRow w.heap.size 9 1 v ts.length (ts.map fun t => .string t.key) ∧ Below w.heap.size w W' := by
  obtain ⟨i0, hi, hz0, hz1, hz2⟩ := info_parts info_str
  have HL := Lib.hid (lenQ w q most grace next wv ts O T om tm h)
  have HH := Lib.hid h
  have hfew := h.few
  clear h
  go_enter Tryz.func30, Tryz.ntmps30
  go_wp2_with (go_at_call 19; refine HL.out.mono ?_; rintro e w' ⟨rfl, rfl⟩)
  go_loopw [3, 4, 7] (fun out _ iv wr => ∃ k : Nat, k ≤ ts.length ∧ iv = .int .i64 (k : Int) ∧ Hid (wr.ownsRow w'.heap.size 9 1 out k ((ts.map fun t => Value.string t.key).take k)) ∧ Hid (Below w'.heap.size w' wr)) (fun _ _ iv _ => ts.length - (intOf iv).toNat)
  case atStart => exact ⟨0, by omega, rfl, Lib.hid (by simpa using World.ownsRow_nil _ _ _ _), Lib.hid (Below.refl _ _)⟩
  case round =>
    obtain ⟨k, hk, rfl, hO, hB⟩ := hrel
    by_cases hlt : k < ts.length
    · have hlt1 : (k : Int) < (ts.length : Int) := by omega
      have hX := Lib.hid (HH.out.bel hB.out)
      obtain ⟨_, _, _, q3, _, _⟩ := hX.out.cells
      obtain ⟨g, c0, rfl, hvb, hg, hnc, hcm⟩ := own_at hX.out.row (by omega)
      have hc0 : wr.cell? ⟨g, k * 4, none⟩ = some (.string ts[k].key) := by
        have := hX.out.row.cellAt (k * 4) (by omega)
        rw [this, show k * 4 = k * 4 + 0 from rfl, flat_get tkC 4 tkC_len ts k 0 (by omega), List.getElem?_eq_getElem hlt]
        rfl
      have hsn : (ts.map fun t => Value.string t.key).take (k + 1) = (ts.map fun t => Value.string t.key).take k ++ [.string (ts[k]).key] := by rw [List.take_succ_eq_append_getElem (by simpa using hlt), List.getElem_map]
      have HSn := Lib.hid hsn
      generalize ts[k] = y at *
      clear hsn
      obtain ⟨A2, c2, rfl⟩ := own_slice' hO.out
      have hbz := Below.new wr (.cells #[.string y.key] 9)
      have HA := Lib.hid (own_turns hO.out (.of_below (S := fun _ => False) hbz) (fun _ _ => id))
      have HN := Lib.hid (Blk.news (Blk.new wr 9 [.string y.key]))
      have HBA := Lib.hid (hB.out.trans (hbz.mono hB.out.size))
      have HM1 : Hid (k + 1 ≤ maxLen) := Lib.hid (by unfold maxLen; omega)
      have HM2 : Hid ((k + 1) * 16 ≤ 140737488355328) := Lib.hid (by omega)
      have hkc : k < c0 := by omega
      clear hbz
      go_wp2_with (at_builtin; refine wpList_append_own_at _ rfl _ _ 68 rfl w'.heap.size 9 i0 (.string ⟨#[]⟩) 1 16 Tryz.underlying68 hi hz0 hz1 hz2 rfl (by decide) _ _ _ rfl HA.out ⟨wr.heap.size, 0, none⟩ 1 1 [.string y.key] rfl rfl HN.out (by intro u hu; simp at hu; subst hu; rfl) HM1.out HM2.out HBA.out.size ?_; intro v1 y1 hown hgr _ _)
      go_roundw
      case measure =>
        change ts.length - (intOf (.int .i64 ((k : Int) + 1))).toNat < ts.length - (intOf (.int .i64 (k : Int))).toNat
        simp only [intOf]
        omega
      case rel => exact ⟨k + 1, by omega, by go_num, Lib.hid (by rw [HSn.out]; exact hown), Lib.hid (HBA.out.grown hgr HBA.out.size (fun r e => (HA.out.lt r e).1))⟩
    · obtain rfl : k = ts.length := by omega
      have hlt1 : ¬ (ts.length : Int) < (ts.length : Int) := by omega
      have hO2 := hO.out
      rw [List.take_of_length_le (by simp)] at hO2
      have HO2 := Lib.hid hO2
      clear hO hO2
      obtain ⟨A2, c2, rfl⟩ := own_slice' HO2.out
      go_wp2_with fail
      go_ret
      exact ⟨_, rfl, HO2.out, hB.out⟩
end Go.Proofs.YtpbheicfplpemaaGreat
