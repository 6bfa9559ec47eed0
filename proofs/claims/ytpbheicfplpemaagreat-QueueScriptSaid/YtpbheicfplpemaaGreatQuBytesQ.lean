/- queue: Bytes: the walk. -/
import Derived.Test.YtpbheicfplpemaaGreatQuBytes
import Derived.Test.YtpbheicfplpemaaGreatQuTell
namespace Go.Proofs.YtpbheicfplpemaaGreat
open Go.RowKit

set_option maxRecDepth 20000 in
set_option maxHeartbeats 16000000 in
theorem bytesQ (w : World) (q : Nat) (most grace next : Int) (wv : Value) (ts : List Tk) (O T : Nat) (om : Int → Option Ot) (tm : ByteArray → Option Int) (h : QS w q most grace next wv ts O T om tm) (zs : List Ot) (hz : OutsS om zs) (hle : zs.length ≤ 100000) (ht : ∀ t ∈ ts, TkF t) (ho : ∀ x ∈ zs, OtF x) (hm : 0 ≤ most ∧ most ≤ 4611686018427387904) (hg : -9223372036854775808 ≤ grace ∧ grace ≤ 9223372036854775807) (hn : next ≤ 4611686018427387904) :
    Calls Tryz.prog 37 #[.pointer (some ⟨q, 0, none⟩)] w (Made w (qB most grace next ts zs)) := by
  have hfew := h.few
  have hpos := h.pos
  have HH := Lib.hid h
  have HZ := Lib.hid hz
  have HT := Lib.hid ht
  have HO := Lib.hid ho
  obtain ⟨_, _, c2, _, _, _⟩ := h.cells
  have hM := Lib.hid (made1 w q next h.pos c2)
  have HTL := Lib.hid (fun k => flat_le tkB 50000 (ts.take k) (fun t hx => tkB_len (ht t (List.mem_of_mem_take hx))))
  have HOL := Lib.hid (fun k => flat_le otB 50000 (zs.take k) (fun t hx => otB_len (ho t (List.mem_of_mem_take hx))))
  clear h hz ht ho c2
  go_enter Tryz.func37, Tryz.ntmps37
  go_upto_region 7 with (go_at_call 39; refine hM.out.mono ?_; rintro e w' ⟨rfl, rfl⟩)
  have HB := Lib.hid (show BS w' (w'.alloc (.cells #[.slice none 0 0] 22)) [] from ⟨Below.new _ _, _, Blk.new w' 22 [.slice none 0 0], World.ownsRow_nil _ _ _ _, Nat.le_refl _⟩)
  generalize w'.alloc (.cells #[.slice none 0 0] 22) = W0 at *
  clear hM
  have hql := HH.out.blk.lt
  obtain ⟨d0, d1, d2, d3, d4, d5⟩ := (HH.out.bel HB.out.bel).cells
  obtain ⟨M, rfl⟩ : ∃ M : Nat, most = (M : Int) := ⟨most.toNat, by omega⟩
  obtain ⟨N, rfl⟩ : ∃ N : Nat, next = (N : Int) := ⟨next.toNat, by omega⟩
  have hC := Lib.hid (bnum w' W0 [] HB.out M (by omega) (by simp))
  go_upto_region 8 with (go_at_call 73; refine hC.out.mono ?_; rintro e W1 ⟨rfl, hb, _⟩; have HB1 := Lib.hid hb; clear hb)
  clear d0 d1 d2 d3 d4 d5 hC
  obtain ⟨d0, d1, d2, d3, d4, d5⟩ := (HH.out.bel HB1.out.bel).cells
  have hl1 := Cd.uB_len10 (n := M) (by omega)
  have hC := Lib.hid (bwhen w' W1 _ HB1.out grace hg (by simp; omega))
  go_upto_region 9 with (go_at_call 75; refine hC.out.mono ?_; rintro e W2 ⟨rfl, hb, _⟩; have HB2 := Lib.hid hb; clear hb)
  clear d0 d1 d2 d3 d4 d5 hC
  obtain ⟨d0, d1, d2, d3, d4, d5⟩ := (HH.out.bel HB2.out.bel).cells
  have hl2 := zig_len hg
  have hC := Lib.hid (bnum w' W2 _ HB2.out N (by omega) (by simp; omega))
  go_upto_region 10 with (go_at_call 73; refine hC.out.mono ?_; rintro e W3 ⟨rfl, hb, _⟩; have HB3 := Lib.hid hb; clear hb)
  clear d0 d1 d2 d3 d4 d5 hC
  obtain ⟨d0, d1, d2, d3, d4, d5⟩ := (HH.out.bel HB3.out.bel).cells
  have hl3 := Cd.uB_len10 (n := N) (by omega)
  obtain ⟨AW, cW, rfl⟩ := own_slice' (HH.out.row)
  have hC := Lib.hid (bnum w' W3 _ HB3.out ts.length (by omega) (by simp; omega))
  go_upto_region 11 with (go_at_call 73; refine hC.out.mono ?_; rintro e W4 ⟨rfl, hb, _⟩; have HB4 := Lib.hid hb; clear hb)
  clear d0 d1 d2 d3 d4 d5 hC
  obtain ⟨d0, d1, d2, d3, d4, d5⟩ := (HH.out.bel HB4.out.bel).cells
  have hl4 := Cd.uB_len10 (n := ts.length) (by omega)
  simp only [List.nil_append] at HB4
  generalize hhd : Cd.uB M ++ Cd.uB (Cd.zig grace) ++ Cd.uB N ++ Cd.uB ts.length = L0 at *
  have HL0 := Lib.hid hhd
  have hL0 : L0.length ≤ 40 := by rw [← hhd]; simp; omega
  clear hhd HB HB1 HB2 HB3
  go_upto_region 12 with (fail)
  clear d0 d1 d2 d3 d4 d5
  have hB0 := HB4.out
  rw [show L0 = L0 ++ (ts.take 0).flatMap tkB from by simp] at hB0
  have HS0 := Lib.hid hB0
  clear hB0 HB4
  go_loopw [8, 47] (fun _ iv wr => ∃ k : Nat, k ≤ ts.length ∧ iv = .int .i64 (k : Int) ∧ Hid (BS w' wr (L0 ++ (ts.take k).flatMap tkB))) (fun _ iv _ => ts.length - (intOf iv).toNat)
  case atStart => exact ⟨0, by omega, rfl, HS0⟩
  case round =>
    clear HS0
    obtain ⟨k, hk, rfl, hB⟩ := hrel
    by_cases hlt : k < ts.length
    · have hlt1 : (k : Int) < (ts.length : Int) := by omega
      have hX := Lib.hid (HH.out.bel hB.out.bel)
      obtain ⟨g, c0, he, hvb, hgg, hnc, hcm⟩ := own_at hX.out.row (by omega)
      injection he with he1 he2 he3
      subst he1 he3
      have hx : ∀ j, j < 4 → wr.cell? ⟨g, k * 4 + j, none⟩ = (tkC ts[k])[j]? := fun j hj => by
        rw [hX.out.row.cellAt _ (by omega), flat_get tkC 4 tkC_len ts k j hj, List.getElem?_eq_getElem hlt]
        rfl
      have e0 : wr.cell? ⟨g, k * 4, none⟩ = some (.string (ts[k]).key) := hx 0 (by omega)
      have e1 : wr.cell? ⟨g, k * 4 + 1, none⟩ = some (.string (ts[k]).sticky) := hx 1 (by omega)
      have e2 : wr.cell? ⟨g, k * 4 + 2, none⟩ = some (.int .i64 (ts[k]).ready) := hx 2 (by omega)
      have e3 : wr.cell? ⟨g, k * 4 + 3, none⟩ = some (.int .i64 (ts[k]).att) := hx 3 (by omega)
      have hkc : k < cW := by omega
      have hsn : L0 ++ (ts.take (k + 1)).flatMap tkB = (L0 ++ (ts.take k).flatMap tkB) ++ Cd.textB (ts[k]).key.data.toList ++ Cd.textB (ts[k]).sticky.data.toList ++ Cd.uB (Cd.zig (ts[k]).ready) ++ Cd.uB (ts[k]).att.toNat := by
        rw [List.take_succ_eq_append_getElem hlt, List.flatMap_append]
        simp [tkB, List.append_assoc]
      have HSn := Lib.hid hsn
      have hF := HT.out _ (List.getElem_mem hlt)
      have hln := HTL.out k
      rw [List.length_take] at hln
      have hln2 : (L0 ++ (ts.take k).flatMap tkB).length ≤ 10000000000 := by
        rw [List.length_append]
        have : min k ts.length * 50000 ≤ 100000 * 50000 := Nat.mul_le_mul_right _ (by omega)
        omega
      generalize ts[k] = t at *
      generalize L0 ++ (ts.take k).flatMap tkB = L at *
      clear hx hsn hln
      have ha := hF.at_
      obtain ⟨AT, hAT⟩ : ∃ AT : Nat, t.att = (AT : Int) := ⟨t.att.toNat, by omega⟩
      rw [hAT] at e3 ha
      have HAT := Lib.hid hAT
      have hk1 := textB_20 _ hF.key
      have hk2 := textB_20 _ hF.st
      have hk3 := zig_len hF.rd
      have hbz := Below.new wr (.cells #[.string t.key, .string t.sticky, .int .i64 t.ready, .int .i64 (AT : Int)] 85)
      have KX := Lib.hid (Blk.new wr 85 [.string t.key, .string t.sticky, .int .i64 t.ready, .int .i64 (AT : Int)])
      have BX := Lib.hid (hB.out.belw hbz)
      clear hbz hAT
      go_upto_region 14 with (fail)
      clear e0 e1 e2 e3
      generalize wr.alloc (.cells #[.string t.key, .string t.sticky, .int .i64 t.ready, .int .i64 (AT : Int)] 85) = X at *
      generalize wr.heap.size = lx at *
      have u0 := KX.out.cell 0
      simp only [List.getElem?_cons_zero] at u0
      have hC := Lib.hid (btext w' X L BX.out t.key hF.key (by omega))
      go_upto_region 15 with (go_at_call 77; refine hC.out.mono ?_; rintro e X1 ⟨rfl, hb, ho⟩; have BX1 := Lib.hid hb; have KX1 := Lib.hid (ho.blk KX.out (by decide) (by decide)); clear hb ho)
      clear u0 hC
      have u1 := KX1.out.cell 1
      simp only [List.getElem?_cons_succ, List.getElem?_cons_zero] at u1
      have hC := Lib.hid (btext w' X1 _ BX1.out t.sticky hF.st (by rw [List.length_append]; omega))
      go_upto_region 16 with (go_at_call 77; refine hC.out.mono ?_; rintro e X2 ⟨rfl, hb, ho⟩; have BX2 := Lib.hid hb; have KX2 := Lib.hid (ho.blk KX1.out (by decide) (by decide)); clear hb ho)
      clear u1 hC
      have u2 := KX2.out.cell 2
      simp only [List.getElem?_cons_succ, List.getElem?_cons_zero] at u2
      have hC := Lib.hid (bwhen w' X2 _ BX2.out t.ready hF.rd (by rw [List.length_append, List.length_append]; omega))
      go_upto_region 17 with (go_at_call 75; refine hC.out.mono ?_; rintro e X3 ⟨rfl, hb, ho⟩; have BX3 := Lib.hid hb; have KX3 := Lib.hid (ho.blk KX2.out (by decide) (by decide)); clear hb ho)
      clear u2 hC
      have u3 := KX3.out.cell 3
      simp only [List.getElem?_cons_succ, List.getElem?_cons_zero] at u3
      have hC := Lib.hid (bnum w' X3 _ BX3.out AT (by omega) (by rw [List.length_append, List.length_append, List.length_append]; omega))
      go_wp2_with (go_at_call 73; refine hC.out.mono ?_; rintro e X4 ⟨rfl, hb, ho⟩; have BX4 := Lib.hid hb; clear hb ho)
      go_roundw
      case measure => simp only [intOf]; omega
      case rel => exact ⟨k + 1, by omega, by go_num, by rw [HSn.out, HAT.out]; exact BX4⟩
    · obtain rfl : k = ts.length := by omega
      have hlt1 : ¬ (ts.length : Int) < (ts.length : Int) := by omega
      have hB0 := hB.out
      rw [List.take_length] at hB0
      have HB5 := Lib.hid hB0
      have hln := HTL.out ts.length
      rw [List.take_length] at hln
      have hln2 : (L0 ++ ts.flatMap tkB).length ≤ 5000000040 := by
        rw [List.length_append]
        have : ts.length * 50000 ≤ 100000 * 50000 := Nat.mul_le_mul_right _ (by omega)
        omega
      generalize hL1 : L0 ++ ts.flatMap tkB = L1 at *
      have HL1 := Lib.hid hL1
      clear hB hB0 hln hL1
      obtain ⟨d0, d1, d2, d3, d4, d5⟩ := (HH.out.bel HB5.out.bel).cells
      obtain ⟨NO, hNO⟩ := HH.out.outs
      obtain rfl := map_eq hNO HZ.out
      have hlen := fun ty => (hNO.below HB5.out.bel).len (P := Tryz.prog) Tryz.underlying78 ty
      have hC := Lib.hid (bnum w' wr L1 HB5.out zs.length (by omega) (by omega))
      clear hNO
      go_upto_region 20 with (first | (go_at_call 73; refine hC.out.mono ?_; rintro e W6 ⟨rfl, hb, _⟩; have HB6 := Lib.hid hb; clear hb))
      clear d0 d1 d2 d3 d4 d5 hC hlen
      have hSo := Lib.hid (sortedQ W6 q M grace N _ ts O T om tm (HH.out.bel HB6.out.bel) zs HZ.out (fun x hx => (HO.out x hx).tok) (by omega))
      go_upto_region 21 with (go_at_call 72; refine hSo.out.mono ?_; rintro e W7 ⟨v7, rfl, r7, b7⟩; obtain ⟨A7, c7, rfl⟩ := own_slice' r7; have R7 := Lib.hid r7; have HB7 := Lib.hid (HB6.out.belw b7); clear r7 b7)
      clear hSo
      have hl5 := Cd.uB_len10 (n := zs.length) (by omega)
      have hB0 := HB7.out
      rw [show L1 ++ Cd.uB zs.length = L1 ++ Cd.uB zs.length ++ (zs.take 0).flatMap otB from by simp] at hB0
      have HS0 := Lib.hid hB0
      clear hB0 HB5 HB6 HB7
      go_loopw [10, 78] (fun _ iv wr' => ∃ k : Nat, k ≤ zs.length ∧ iv = .int .i64 (k : Int) ∧ Hid (BS w' wr' (L1 ++ Cd.uB zs.length ++ (zs.take k).flatMap otB)) ∧ Hid (wr'.ownsRow W6.heap.size 88 7 (.slice A7 zs.length c7) zs.length (zs.flatMap otC))) (fun _ iv _ => zs.length - (intOf iv).toNat)
      case atStart => exact ⟨0, by omega, rfl, HS0, R7⟩
      case round =>
        clear HS0 R7
        obtain ⟨k, hk, rfl, hB, hR⟩ := hrel
        by_cases hlt : k < zs.length
        · have hlt1 : (k : Int) < (zs.length : Int) := by omega
          obtain ⟨g, c0, he, hvb, hgg, hnc, hcm⟩ := own_at hR.out (by omega)
          injection he with he1 he2 he3
          subst he1 he3
          have hx := ot_cells hR.out rfl k hlt
          have e0 : wr.cell? ⟨g, k * 7, none⟩ = some (.string (zs[k]).tk.key) := hx 0 (by omega)
          have e1 : wr.cell? ⟨g, k * 7 + 1, none⟩ = some (.string (zs[k]).tk.sticky) := hx 1 (by omega)
          have e2 : wr.cell? ⟨g, k * 7 + 2, none⟩ = some (.int .i64 (zs[k]).tk.ready) := hx 2 (by omega)
          have e3 : wr.cell? ⟨g, k * 7 + 3, none⟩ = some (.int .i64 (zs[k]).tk.att) := hx 3 (by omega)
          have e4 : wr.cell? ⟨g, k * 7 + 4, none⟩ = some (.int .i64 (zs[k]).token) := hx 4 (by omega)
          have e5 : wr.cell? ⟨g, k * 7 + 5, none⟩ = some (.string (zs[k]).worker) := hx 5 (by omega)
          have e6 : wr.cell? ⟨g, k * 7 + 6, none⟩ = some (.int .i64 (zs[k]).until_) := hx 6 (by omega)
          have hkc : k < c7 := by omega
          have hsn : L1 ++ Cd.uB zs.length ++ (zs.take (k + 1)).flatMap otB = (L1 ++ Cd.uB zs.length ++ (zs.take k).flatMap otB) ++ Cd.textB (zs[k]).tk.key.data.toList ++ Cd.uB (zs[k]).token.toNat ++ Cd.textB (zs[k]).worker.data.toList ++ Cd.uB (Cd.zig (zs[k]).until_) ++ Cd.uB (zs[k]).tk.att.toNat := by
            rw [List.take_succ_eq_append_getElem hlt, List.flatMap_append]
            simp [otB, List.append_assoc]
          have HSn := Lib.hid hsn
          have hF := HO.out _ (List.getElem_mem hlt)
          have hln := HOL.out k
          rw [List.length_take] at hln
          have hln3 : (L1 ++ Cd.uB zs.length ++ (zs.take k).flatMap otB).length ≤ 20000000000 := by
            rw [List.length_append, List.length_append]
            have : min k zs.length * 50000 ≤ 100000 * 50000 := Nat.mul_le_mul_right _ (by omega)
            omega
          generalize zs[k] = t at *
          generalize L1 ++ Cd.uB zs.length ++ (zs.take k).flatMap otB = L at *
          clear hx hsn hln
          have ha := hF.at_
          have htk := hF.tok
          unfold OtOk at htk
          obtain ⟨AT, hAT⟩ : ∃ AT : Nat, t.tk.att = (AT : Int) := ⟨t.tk.att.toNat, by omega⟩
          obtain ⟨TK, hTK⟩ : ∃ TK : Nat, t.token = (TK : Int) := ⟨t.token.toNat, by omega⟩
          rw [hAT] at e3 ha
          rw [hTK] at e4 htk
          have HAT := Lib.hid hAT
          have HTK := Lib.hid hTK
          have hk1 := textB_20 _ hF.key
          have hk2 := textB_20 _ hF.who
          have hk3 := zig_len hF.un
          have hk4 := Cd.uB_len10 (n := TK) (by omega)
          have hbz := Below.new wr (.cells #[.string t.tk.key, .string t.tk.sticky, .int .i64 t.tk.ready, .int .i64 (AT : Int), .int .i64 (TK : Int), .string t.worker, .int .i64 t.until_] 88)
          have KX := Lib.hid (Blk.new wr 88 [.string t.tk.key, .string t.tk.sticky, .int .i64 t.tk.ready, .int .i64 (AT : Int), .int .i64 (TK : Int), .string t.worker, .int .i64 t.until_])
          have BX := Lib.hid (hB.out.belw hbz)
          have RX := Lib.hid (own_turns hR.out (.of_below (S := fun _ => False) hbz) (fun _ _ => id))
          clear hbz hAT hTK
          go_upto_region 23 with (fail)
          clear e0 e1 e2 e3 e4 e5 e6
          generalize wr.alloc (.cells #[.string t.tk.key, .string t.tk.sticky, .int .i64 t.tk.ready, .int .i64 (AT : Int), .int .i64 (TK : Int), .string t.worker, .int .i64 t.until_] 88) = X at *
          generalize wr.heap.size = lx at *
          have u0 := KX.out.cell 0
          simp only [List.getElem?_cons_zero] at u0
          have hC := Lib.hid (btext w' X L BX.out t.tk.key hF.key (by omega))
          go_upto_region 24 with (go_at_call 77; refine hC.out.mono ?_; rintro e X1 ⟨rfl, hb, ho⟩; have BX1 := Lib.hid hb; have KX1 := Lib.hid (ho.blk KX.out (by decide) (by decide)); have RX1 := Lib.hid (ho.row RX.out (by decide) (by decide)); clear hb ho)
          clear u0 hC
          have u4 := KX1.out.cell 4
          simp only [List.getElem?_cons_succ, List.getElem?_cons_zero] at u4
          have hC := Lib.hid (bnum w' X1 _ BX1.out TK (by omega) (by rw [List.length_append]; omega))
          go_upto_region 25 with (go_at_call 73; refine hC.out.mono ?_; rintro e X2 ⟨rfl, hb, ho⟩; have BX2 := Lib.hid hb; have KX2 := Lib.hid (ho.blk KX1.out (by decide) (by decide)); have RX2 := Lib.hid (ho.row RX1.out (by decide) (by decide)); clear hb ho)
          clear u4 hC
          have u5 := KX2.out.cell 5
          simp only [List.getElem?_cons_succ, List.getElem?_cons_zero] at u5
          have hC := Lib.hid (btext w' X2 _ BX2.out t.worker hF.who (by rw [List.length_append, List.length_append]; omega))
          go_upto_region 26 with (go_at_call 77; refine hC.out.mono ?_; rintro e X3 ⟨rfl, hb, ho⟩; have BX3 := Lib.hid hb; have KX3 := Lib.hid (ho.blk KX2.out (by decide) (by decide)); have RX3 := Lib.hid (ho.row RX2.out (by decide) (by decide)); clear hb ho)
          clear u5 hC
          have u6 := KX3.out.cell 6
          simp only [List.getElem?_cons_succ, List.getElem?_cons_zero] at u6
          have hC := Lib.hid (bwhen w' X3 _ BX3.out t.until_ hF.un (by rw [List.length_append, List.length_append, List.length_append]; omega))
          go_upto_region 27 with (go_at_call 75; refine hC.out.mono ?_; rintro e X4 ⟨rfl, hb, ho⟩; have BX4 := Lib.hid hb; have KX4 := Lib.hid (ho.blk KX3.out (by decide) (by decide)); have RX4 := Lib.hid (ho.row RX3.out (by decide) (by decide)); clear hb ho)
          clear u6 hC
          have u3 := KX4.out.cell 3
          simp only [List.getElem?_cons_succ, List.getElem?_cons_zero] at u3
          have hC := Lib.hid (bnum w' X4 _ BX4.out AT (by omega) (by rw [List.length_append, List.length_append, List.length_append, List.length_append]; omega))
          go_wp2_with (go_at_call 73; refine hC.out.mono ?_; rintro e X5 ⟨rfl, hb, ho⟩; have BX5 := Lib.hid hb; have RX5 := Lib.hid (ho.row RX4.out (by decide) (by decide)); clear hb ho)
          go_roundw
          case measure => simp only [intOf]; omega
          case rel => exact ⟨k + 1, by omega, by go_num, by rw [HSn.out, HAT.out, HTK.out]; exact BX5, RX5⟩
        · obtain rfl : k = zs.length := by omega
          have hlt1 : ¬ (zs.length : Int) < (zs.length : Int) := by omega
          have hB1 := hB.out
          rw [List.take_length] at hB1
          have HFin : Hid (L1 ++ Cd.uB zs.length ++ zs.flatMap otB = qB (M : Int) grace (N : Int) ts zs) := Lib.hid (by
            rw [← HL1.out, ← HL0.out]
            unfold qB
            simp only [Int.toNat_natCast])
          clear hB
          generalize L1 ++ Cd.uB zs.length ++ zs.flatMap otB = F at *
          obtain ⟨v, hv⟩ := hB1.buf
          have HBe := Lib.hid hB1.bel
          obtain ⟨AV, cV, rfl⟩ := own_slice' hv.row
          have hc := hv.blk.cell 0
          simp only [List.getElem?_cons_zero] at hc
          have HV := Lib.hid hv
          clear hv hB1
          go_wp2_with fail
          go_ret
          show Made w' (qB (M : Int) grace (N : Int) ts zs) _ _
          rw [← HFin.out]
          exact ⟨_, rfl, HV.out.row, HBe.out⟩
end Go.Proofs.YtpbheicfplpemaaGreat
