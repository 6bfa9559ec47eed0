/- The document's disk in memory: Crash. -/
import Derived.Test.YtoljnklceghcdaaRdApp
import Derived.BigRegion
namespace Go.Proofs.Ytoljnklceghcdaa
open Go.RowKit Go.Maps Go.Sort Go.Shelf

/-- a file of the row is put into another's place -/
theorem RS.turn {H : Nat} {w : World} {r g cv : Nat} {off : Bool} {left : Int} {L : List RF} (h : RS H w r (.slice (some ⟨g, 0, none⟩) L.length cv) off left L) {i : Nat} (hi : i < L.length) (fl fw : ByteArray) :
    RS H ((w.setCell ⟨g, i * 3 + 1, none⟩ (.string fl)).setCell ⟨g, i * 3 + 2, none⟩ (.string fw)) r (.slice (some ⟨g, 0, none⟩) L.length cv) off left (L.set i ⟨(gF L i).name, fl, fw⟩) := by
  have hgr : r ≠ g := fun e => h.ne (by rw [e]; rfl)
  have h1 := (h.row.stored (i * 3 + 1) (.string fl)).1
  have h2 := (h1.stored (i * 3 + 2) (.string fw)).1
  obtain ⟨A, B, hA, e1, e2⟩ := flat_split rfC 3 rfC_len L i hi
  have e3 : ((L.flatMap rfC).set (i * 3 + 1) (.string fl)).set (i * 3 + 2) (.string fw) = (L.set i ⟨(gF L i).name, fl, fw⟩).flatMap rfC := by
    rw [e1, e2, set_at hA, set_at hA, ← gF_of hi]
    rfl
  rw [e3] at h2
  refine ⟨?_, by simpa using h2, by simpa using h.few, h.lo, h.num⟩
  exact (h.blk.far (p := ⟨g, i * 3 + 1, none⟩) hgr _).far (p := ⟨g, i * 3 + 2, none⟩) hgr _
theorem gF_set_ne {L : List RF} {i j : Nat} (h : i ≠ j) (x : RF) : gF (L.set i x) j = gF L j := by simp [gF, List.getD, List.getElem?_set, h]
theorem crR_0 (f : RF) : crR f 0 = ⟨f.name, f.last, ⟨#[]⟩⟩ := by
  have e : f.last ++ f.waits.extract 0 0 = f.last := key_inj (by rw [toL_app, toL_ext, List.take_zero, List.append_nil])
  unfold crR
  rw [e]
def RCrashY (H : Nat) (w : World) (r : Nat) (v : Value) (n : Nat) (z : Nat → Int) (L : List RF) (e : Ending) (w' : World) : Prop :=
  e = .returned (.tuple #[]) ∧ ∃ L', RS H w' r v false (-1) L' ∧ Rise L' ∧ pOf L' = crashF n z (L.map nm) 0 (pOf L) ∧ L'.length = L.length ∧ Turns (RSet r v) w w'
set_option maxRecDepth 20000 in
set_option maxHeartbeats 8000000 in
theorem rcrash (H : Nat) (w : World) (r : Nat) (v : Value) (off : Bool) (left : Int) (L : List RF) (h : RS H w r v off left L) (hR : Rise L) (hS : Short (pOf L) 100000000) (A : Option Addr) (n c : Nat) (z : Nat → Int) (hk : KeepR w A n z) (hkd : ∀ b o, A = some (⟨b, o, none⟩ : Addr) → 0 < n → ¬ RSet r v b) (hnm : n ≤ maxLen) :
    Calls Try.prog 42 #[.pointer (some ⟨r, 0, none⟩), .slice A n c] w (RCrashY H w r v n z L) := by
  have HH := Lib.hid h
  have HR := Lib.hid hR
  have HSh := Lib.hid hS
  have HK := Lib.hid hk
  have HKD := Lib.hid hkd
  obtain ⟨A0, cv, rfl⟩ := own_slice' h.row
  unfold maxLen at hnm
  clear h hR hS hk hkd
  go_enter Try.func42, Try.ntmps42
  go_wp2_with fail
  go_loopw [4, 5] (fun kv iv wr => ∃ (i k : Nat) (M : List RF), i ≤ L.length ∧ k ≤ i ∧ M.length = L.length ∧ kv = .int .i64 (k : Int) ∧ iv = .int .i64 (i : Int) ∧ Hid (RS H wr r (.slice A0 M.length cv) off left M) ∧ Hid (Rise M) ∧ Hid (M.map nm = L.map nm) ∧ Hid (∀ j, i ≤ j → gF M j = gF L j) ∧ Hid (crashF n z (L.map nm) 0 (pOf L) = crashF n z ((M.map nm).drop i) k (pOf M)) ∧ Hid (Turns (RSet r (.slice A0 L.length cv)) w wr)) (fun _ iv _ => L.length - (intOf iv).toNat)
  case atStart => exact ⟨0, 0, L, by omega, by omega, rfl, rfl, rfl, HH, HR, Lib.hid rfl, Lib.hid (fun _ _ => rfl), Lib.hid (by rw [List.drop_zero]), Lib.hid (Turns.refl _ _)⟩
  case round =>
    obtain ⟨i, k, M, hi, hki, hML, rfl, rfl, HM, HRM, HNm, HSame, HCr, HT⟩ := hrel
    obtain ⟨q0, _, _⟩ := HM.out.cells
    have hml : M.length ≤ 1000 := HM.out.few
    by_cases hlt : i < M.length
    · have hlt1 : (i : Int) < (M.length : Int) := by omega
      obtain ⟨g, rfl, hg, hnc, hcm, b0, b1, b2⟩ := gF_cells HM.out.row i hlt
      unfold maxLen at hcm
      have HX : Hid (Blk (wr.alloc (.cells #[.string (gF M i).name, .string (gF M i).last, .string (gF M i).waits] 71)) wr.heap.size 71 [.string (gF M i).name, .string (gF M i).last, .string (gF M i).waits]) := Lib.hid (Blk.new wr 71 [.string (gF M i).name, .string (gF M i).last, .string (gF M i).waits])
      have HB : Hid (Below wr.heap.size wr (wr.alloc (.cells #[.string (gF M i).name, .string (gF M i).last, .string (gF M i).waits] 71))) := Lib.hid (Below.new wr _)
      have HM2 := Lib.hid (HM.out.bel HB.out)
      have HT2 := Lib.hid (HT.out.then (.of_below HB.out))
      have hz : (gF M i).last.size + (gF M i).waits.size ≤ 100000000 := by
        rw [HSame.out i (Nat.le_refl _)]
        exact pl_size HR.out HSh.out (by omega)
      have hrb : r < wr.heap.size := HM.out.blk.lt
      have hgr : r ≠ g := fun e => HM.out.ne (by rw [e]; rfl)
      have hwwr : w.heap.size ≤ wr.heap.size := HT.out.size
      go_upto_region 5 with (fail)
      clear b0 b1 b2 q0
      generalize wr.alloc (.cells #[.string (gF M i).name, .string (gF M i).last, .string (gF M i).waits] 71) = X at *
      generalize wr.heap.size = bx at *
      obtain ⟨q0, _, _⟩ := HM2.out.cells
      have k1 := HX.out.cell 1
      have k2 := HX.out.cell 2
      simp only [List.getElem?_cons_succ, List.getElem?_cons_zero] at k1 k2
      by_cases hw : (gF M i).waits.size = 0
      · have hst := crash_stay n z HRM.out i k hlt (by rw [← gF_of hlt]; exact hw)
        have HC2 := Lib.hid (HCr.out.trans hst)
        have hws : (gF M i).waits.toList = [] := by
          rw [Lib.toList_data]; have := size_toL (gF M i).waits; rw [hw] at this; exact List.eq_nil_of_length_eq_zero this
        clear hst hw
        go_wp2_with fail
        go_roundw
        case measure => simp only [intOf]; omega
        case rel => exact ⟨i + 1, k, M, by omega, by omega, hML, rfl, by go_num, HM2, HRM, HNm, Lib.hid (fun j hj => HSame.out j (by omega)), HC2, HT2⟩
      · have hws0 : ¬ (gF M i).waits.toList = [] := by
          rw [Lib.toList_data]; intro e; have := size_toL (gF M i).waits; rw [e] at this; exact hw this.symm
        have hws : (gF M i).waits.toList.isEmpty = false := by rw [List.isEmpty_eq_false_iff]; exact hws0
        clear hws0
        have hst := crash_turn n z HRM.out i k hlt (by rw [← gF_of hlt]; exact hw)
        have hrs := rise_set HRM.out hlt (crR M[i] (more n z k M[i].waits.size)) rfl
        rw [← gF_of hlt] at hst hrs
        have HC2 := Lib.hid (HCr.out.trans hst)
        have HRS := Lib.hid hrs
        have hmle := more_le n z k (gF M i).waits.size
        clear hst hrs hw
        by_cases hkn : k < n
        · obtain ⟨b, o, rfl, hbl, hkc⟩ := (HK.out.turns HT2.out (fun b o e h0 => HKD.out b o e h0)).cell k hkn
          have hki : -9223372036854775808 ≤ z k ∧ z k ≤ 9223372036854775807 := HK.out.num k hkn
          have hkn1 : (k : Int) < (n : Int) := by omega
          have HMq : Hid (more n z k (gF M i).waits.size = if z k < 0 then 0 else if ((gF M i).waits.size : Int) < z k then (gF M i).waits.size else (z k).toNat) := Lib.hid (if_pos hkn)
          generalize hK : more n z k (gF M i).waits.size = K at *
          have hKq : max 0 (min (z k) ((gF M i).waits.size : Int)) = (K : Int) := by
            have := HMq.out
            rw [this]
            split
            · omega
            · split <;> omega
          have HKq := Lib.hid hKq
          have HKK := Lib.hid hK
          generalize z k = zk at *
          have hk0 : (0 : Int) ≤ (k : Int) := by omega
          clear hKq hK HMq
          go_upto_region 8 with (fail)
          go_region
          rw [HKq.out]
          clear HKq hkc
          have HT3 : Hid (Turns (RSet r (.slice (some ⟨g, 0, none⟩) L.length cv)) w X.drew) := Lib.hid (HT2.out.drewN 1)
          have HM3 : Hid (RS H X.drew r (.slice (some ⟨g, 0, none⟩) M.length cv) off left M) := Lib.hid (HM2.out.bel (below_drewN' (Below.refl _ _) 1))
          have HX3 : Hid (Blk X.drew bx 71 [.string (gF M i).name, .string (gF M i).last, .string (gF M i).waits]) := Lib.hid (HX.out.drewN 1)
          clear k1 k2 q0
          generalize X.drew = V at *
          obtain ⟨q0, _, _⟩ := HM3.out.cells
          have k1 := HX3.out.cell 1
          have k2 := HX3.out.cell 2
          simp only [List.getElem?_cons_succ, List.getElem?_cons_zero] at k1 k2
          have hKI : ((K : Int) : Int) ≤ ((gF M i).waits.size : Int) := by omega
          have hKI0 : (0 : Int) ≤ ((K : Int) : Int) := by omega
          obtain ⟨g', hg', _, _, _, b0, b1, b2⟩ := gF_cells HM3.out.row i hlt
          injection hg' with hg'
          injection hg' with hg'
          subst hg'
          have z1 := HM3.out.row.frozenAt (i * 3 + 1)
          have z2 := HM3.out.row.frozenAt (i * 3 + 2)
          have hsum : ¬ 9223372036854775807 < (gF M i).last.size + ((gF M i).waits.extract 0 K).size := by rw [ByteArray.size_extract]; omega
          have hsum2 : ¬ 9223372036854775807 < (gF M i).last.size + K := by omega
          go_upto_region 10 with (fail)
          refine wp_tail 14 (by kernel_rfl) (by kernel_rfl) ?_
          simp only [List.take_succ_cons, List.take_zero, List.drop_succ_cons, List.drop_zero]
          repeat still_step
          refine wpStill_nil ?_
          have HM4 : Hid (RS H V.drew r (.slice (some ⟨g, 0, none⟩) M.length cv) off left M) := Lib.hid (HM3.out.bel (below_drewN' (Below.refl _ _) 1))
          have HT4 : Hid (Turns (RSet r (.slice (some ⟨g, 0, none⟩) L.length cv)) w V.drew) := Lib.hid (HT3.out.drewN 1)
          have HM5 := Lib.hid (HM4.out.turn hlt ((gF M i).last ++ (gF M i).waits.extract 0 K) ⟨#[]⟩)
          have HT5 := Lib.hid ((HT4.out.set ⟨g, i * 3 + 1, none⟩ (.string ((gF M i).last ++ (gF M i).waits.extract 0 K)) (fun _ => .inr rfl)).set ⟨g, i * 3 + 2, none⟩ (.string ⟨#[]⟩) (fun _ => .inr rfl))
          clear HM3 HT3 HM4 HT4 HM2 HT2
          go_wp2_with fail
          go_roundw
          case measure => simp only [intOf]; omega
          case rel =>
            have hm5 := HM5.out
            have el : (M.set i (crR (gF M i) K)).length = M.length := List.length_set
            refine ⟨i + 1, k + 1, M.set i (crR (gF M i) K), by omega, by omega, by omega, by go_num, by go_num, Lib.hid ?_, Lib.hid HRS.out.1, Lib.hid (HRS.out.2.trans HNm.out), Lib.hid (fun j hj => ?_), HC2, HT5⟩
            · rw [el]; exact hm5
            · rw [← HSame.out j (by omega)]
              exact gF_set_ne (by omega) _
        · have hkn1 : ¬ (k : Int) < (n : Int) := by omega
          have hK : more n z k (gF M i).waits.size = 0 := if_neg hkn
          have HKK := Lib.hid hK
          rw [hK] at hmle HRS HC2
          clear hK
          go_upto_region 10 with (fail)
          have HT3 := HT2
          have HM3 := HM2
          have HX3 := HX
          clear HT2 HM2 HX k1 k2 q0
          generalize X = V at *
          obtain ⟨q0, _, _⟩ := HM3.out.cells
          have k1 := HX3.out.cell 1
          have k2 := HX3.out.cell 2
          simp only [List.getElem?_cons_succ, List.getElem?_cons_zero] at k1 k2
          have hKI : (0 : Int) ≤ ((gF M i).waits.size : Int) := by omega
          obtain ⟨g', hg', _, _, _, b0, b1, b2⟩ := gF_cells HM3.out.row i hlt
          injection hg' with hg'
          injection hg' with hg'
          subst hg'
          have z1 := HM3.out.row.frozenAt (i * 3 + 1)
          have z2 := HM3.out.row.frozenAt (i * 3 + 2)
          have hsum : ¬ 9223372036854775807 < (gF M i).last.size + ((gF M i).waits.extract 0 0).size := by rw [ByteArray.size_extract]; omega
          have hsum2 : ¬ 9223372036854775807 < (gF M i).last.size := by omega
          refine wp_tail 14 (by kernel_rfl) (by kernel_rfl) ?_
          simp only [List.take_succ_cons, List.take_zero, List.drop_succ_cons, List.drop_zero]
          repeat still_step
          refine wpStill_nil ?_
          have HM4 : Hid (RS H V.drew r (.slice (some ⟨g, 0, none⟩) M.length cv) off left M) := Lib.hid (HM3.out.bel (below_drewN' (Below.refl _ _) 1))
          have HT4 : Hid (Turns (RSet r (.slice (some ⟨g, 0, none⟩) L.length cv)) w V.drew) := Lib.hid (HT3.out.drewN 1)
          have HM5 := Lib.hid (HM4.out.turn hlt (gF M i).last ⟨#[]⟩)
          have HT5 := Lib.hid ((HT4.out.set ⟨g, i * 3 + 1, none⟩ (.string (gF M i).last) (fun _ => .inr rfl)).set ⟨g, i * 3 + 2, none⟩ (.string ⟨#[]⟩) (fun _ => .inr rfl))
          clear HM3 HT3 HM4 HT4
          go_wp2_with fail
          go_roundw
          case measure => simp only [intOf]; omega
          case rel =>
            have hm5 := HM5.out
            have el : (M.set i (crR (gF M i) 0)).length = M.length := List.length_set
            refine ⟨i + 1, k + 1, M.set i (crR (gF M i) 0), by omega, by omega, by omega, by go_num, by go_num, Lib.hid ?_, Lib.hid HRS.out.1, Lib.hid (HRS.out.2.trans HNm.out), Lib.hid (fun j hj => ?_), HC2, HT5⟩
            · rw [el, crR_0]; exact hm5
            · rw [← HSame.out j (by omega)]
              exact gF_set_ne (by omega) _
    · obtain rfl : i = M.length := by omega
      have hlt1 : ¬ (M.length : Int) < (M.length : Int) := by omega
      have z1 := HM.out.blk.fz 1
      have z2 := HM.out.blk.fz 2
      have c1 := HM.out.cells.2.1
      have c2 := HM.out.cells.2.2
      have TS := Lib.hid ((Turns.refl (fun j => j = r) wr).set ⟨r, 1, none⟩ (.bool false) (fun _ => rfl) |>.set ⟨r, 2, none⟩ (.int .i64 (-1)) (fun _ => rfl))
      have HF := Lib.hid (HM.out.set false (-1) ((HM.out.blk.set 1 (.bool false)).set 2 (.int .i64 (-1))) TS.out (by omega))
      have HCE : Hid (pOf M = crashF n z (L.map nm) 0 (pOf L)) := Lib.hid (by rw [HCr.out, List.drop_eq_nil_of_le (by simp)]; rfl)
      go_wp2_with fail
      go_end0
      have HF2 := HF.out
      rw [hML] at HF2
      exact ⟨rfl, M, HF2, HRM.out, HCE.out, hML, HT.out.then (TS.out.mono (fun _ _ e => .inl e))⟩
end Go.Proofs.Ytoljnklceghcdaa
