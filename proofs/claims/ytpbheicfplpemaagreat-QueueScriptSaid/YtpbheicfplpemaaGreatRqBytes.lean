/- The document's queue (prompterref22): its bytes. -/
import Derived.Test.YtpbheicfplpemaaGreatRqMem
import Derived.Test.YtpbheicfplpemaaGreatBsMore
import Derived.Test.YtpbheicfplpemaaGreatCodeRefPuts
import Derived.Test.YtpbheicfplpemaaGreatQuBytes
namespace Go.Proofs.YtpbheicfplpemaaGreat
open Go.RowKit

def tkO (x : Ot) : List UInt8 := tkB x.tk
/-- what a task of the document's queue is, so that it can be written -/
structure IdF (x : Ot) : Prop where
  tk : TkF x.tk
structure AwF (x : Ot) : Prop where
  ot : OtF x
theorem cat_at {f : Ot → List UInt8} {L : List UInt8} {zs : List Ot} {k : Nat} (hk : k < zs.length) : L ++ (zs.take (k + 1)).flatMap f = (L ++ (zs.take k).flatMap f) ++ f zs[k] := by
  rw [List.take_succ_eq_append_getElem hk, List.flatMap_append]
  simp
set_option maxRecDepth 20000 in
set_option maxHeartbeats 16000000 in
theorem rqBytes (w : World) (r : Nat) (most grace last : Int) (iv av : Value) (I Z : List Ot) (h : RQ w r most grace last iv av I Z) (hi : ∀ x ∈ I, IdF x) (hz : ∀ x ∈ Z, AwF x) (hm : 0 ≤ most ∧ most ≤ 4611686018427387904) (hg : -9223372036854775808 ≤ grace ∧ grace ≤ 9223372036854775807) (hl : 0 ≤ last ∧ last ≤ 4611686018427387904) :
    Calls Tryz.prog 38 #[.pointer (some ⟨r, 0, none⟩)] w (Made w (qB most grace (last + 1) (I.map (·.tk)) Z)) := by
  have H := Lib.hid h
  have hfew := h.few
  have HI := Lib.hid hi
  have HZ := Lib.hid hz
  have HIL := Lib.hid (fun k => flat_le tkO 50000 (I.take k) (fun t hx => tkB_len (hi t (List.mem_of_mem_take hx)).tk))
  have HZL := Lib.hid (fun k => flat_le otB 50000 (Z.take k) (fun t hx => otB_len (hz t (List.mem_of_mem_take hx)).ot))
  obtain ⟨M, rfl⟩ : ∃ M : Nat, most = (M : Int) := ⟨most.toNat, by omega⟩
  obtain ⟨N, rfl⟩ : ∃ N : Nat, last = (N : Int) := ⟨last.toNat, by omega⟩
  have HQB : Hid (qB (M : Int) grace ((N : Int) + 1) (I.map (·.tk)) Z = (((Cd.uB M ++ Cd.uB (Cd.zig grace)) ++ Cd.uB (N + 1)) ++ Cd.uB I.length ++ I.flatMap tkO) ++ Cd.uB Z.length ++ Z.flatMap otB) := Lib.hid (by
    unfold qB
    rw [show ((N : Int) + 1).toNat = N + 1 from by omega, List.length_map, List.flatMap_map]
    rfl)
  obtain ⟨AI, cI, rfl⟩ := own_slice' h.idle
  obtain ⟨AZ, cZ, rfl⟩ := own_slice' h.away
  have hw1 : IntKind.u64.wrap (M : Int) = (M : Int) := by rw [IntKind.wrap_u64]; omega
  have hw2 : IntKind.u64.wrap (N : Int) = (N : Int) := by rw [IntKind.wrap_u64]; omega
  have hw3 : IntKind.u64.wrap ((N : Int) + 1) = (N : Int) + 1 := by rw [IntKind.wrap_u64]; omega
  have hw4 : IntKind.u64.wrap (I.length : Int) = (I.length : Int) := by rw [IntKind.wrap_u64]; omega
  have hw5 : IntKind.u64.wrap (Z.length : Int) = (Z.length : Int) := by rw [IntKind.wrap_u64]; omega
  have hb1 := Cd.uB_len10 (n := M) (by omega)
  have hb2 := zig_len hg
  have hb3 := Cd.uB_len10 (n := N + 1) (by omega)
  have hb4 := Cd.uB_len10 (n := I.length) (by omega)
  have hb5 := Cd.uB_len10 (n := Z.length) (by omega)
  obtain ⟨m0, m1, m2, m3, m4⟩ := h.cells
  have HPu := Lib.hid (refPutUint_any w M (by omega))
  clear h hi hz
  go_enter Tryz.func38, Tryz.ntmps38
  go_wp2_with (go_at_call 79; refine HPu.out.mono ?_; rintro e X0 ⟨bv, rfl, ho2, hb2⟩; have R0 := Lib.hid ho2; have B0 := Lib.hid hb2; clear ho2 hb2 m0 m1 m2 m3 m4; obtain ⟨m0, m1, m2, m3, m4⟩ := (H.out.bel B0.out).cells)
  clear hw1 HPu
  obtain ⟨bA0, bC0, rfl⟩ := own_slice' R0.out
  generalize hl0 : Cd.uB M = l0 at *
  have HL0 := Lib.hid hl0
  clear hl0
  have HP1 := Lib.hid (refPutInt_any X0 grace hg.1 hg.2)
  have HD1 := Lib.hid (show l0.length + (Cd.uB (Cd.zig grace)).length ≤ 100000000000 from by omega)
  go_wp2_with (first | (go_at_call 80; refine HP1.out.mono ?_; rintro e Y1 ⟨bv1, rfl, ho2, hb2⟩; clear HP1; obtain ⟨A1, c1, X1, l1, hl2, hrun2, hR2, hB2, _⟩ := more_bytes R0.out B0.out ho2 hb2 HD1.out 22; have HL1 := Lib.hid hl2; have HRun1 := Lib.hid hrun2; have R1 := Lib.hid hR2; have B1 := Lib.hid hB2; clear hl2 hrun2 hR2 hB2 ho2 hb2) | (at_builtin; refine wpl_append_run rfl _ _ 22 rfl _ _ rfl rfl _ _ HRun1.out ?_; clear m0 m1 m2 m3 m4; obtain ⟨m0, m1, m2, m3, m4⟩ := (H.out.bel B1.out).cells))
  clear HD1 HRun1
  have hn1 : l1.length ≤ 20 := by rw [HL1.out, List.length_append]; omega
  have HP2 := Lib.hid (show Calls Tryz.prog 79 #[.int .u64 ((N : Int) + 1)] X1 (Made X1 (Cd.uB (N + 1))) from by have := refPutUint_any X1 (N + 1) (by omega); rwa [show ((N + 1 : Nat) : Int) = (N : Int) + 1 from by omega] at this)
  have HD2 := Lib.hid (show l1.length + (Cd.uB (N + 1)).length ≤ 100000000000 from by omega)
  go_wp2_with (first | (go_at_call 79; refine HP2.out.mono ?_; rintro e Y2 ⟨bv2, rfl, ho2, hb2⟩; clear HP2; obtain ⟨A2, c2, X2, l2, hl2, hrun2, hR2, hB2, _⟩ := more_bytes R1.out B1.out ho2 hb2 HD2.out 22; have HL2 := Lib.hid hl2; have HRun2 := Lib.hid hrun2; have R2 := Lib.hid hR2; have B2 := Lib.hid hB2; clear hl2 hrun2 hR2 hB2 ho2 hb2) | (at_builtin; refine wpl_append_run rfl _ _ 22 rfl _ _ rfl rfl _ _ HRun2.out ?_; clear m0 m1 m2 m3 m4; obtain ⟨m0, m1, m2, m3, m4⟩ := (H.out.bel B2.out).cells))
  clear HD2 HRun2
  have hn2 : l2.length ≤ 30 := by rw [HL2.out, List.length_append]; omega
  have HP3 := Lib.hid (refPutUint_any X2 I.length (by omega))
  have HD3 := Lib.hid (show l2.length + (Cd.uB I.length).length ≤ 100000000000 from by omega)
  go_wp2_with (first | (go_at_call 79; refine HP3.out.mono ?_; rintro e Y3 ⟨bv3, rfl, ho2, hb2⟩; clear HP3; obtain ⟨A3, c3, X3, l3, hl2, hrun2, hR2, hB2, _⟩ := more_bytes R2.out B2.out ho2 hb2 HD3.out 22; have HL3 := Lib.hid hl2; have HRun3 := Lib.hid hrun2; have R3 := Lib.hid hR2; have B3 := Lib.hid hB2; clear hl2 hrun2 hR2 hB2 ho2 hb2) | (at_builtin; refine wpl_append_run rfl _ _ 22 rfl _ _ rfl rfl _ _ HRun3.out ?_; clear m0 m1 m2 m3 m4))
  clear HD3 HRun3
  have hn3 : l3.length ≤ 40 := by rw [HL3.out, List.length_append]; omega
  have HLA : Hid (l3 = ((l0 ++ Cd.uB (Cd.zig grace)) ++ Cd.uB (N + 1)) ++ Cd.uB I.length) := Lib.hid (by rw [HL3.out, HL2.out, HL1.out])
  clear HL1 HL2 HL3 hw2 hw3 hw4 hn1 hn2 hb1 hb2 hb3 hb4 B0 R0 R1 B1 R2 B2
  generalize l3 = L0 at *
  have hR0 := R3.out
  have e0 : L0 = L0 ++ (I.take 0).flatMap tkO := by simp
  rw [e0] at hR0
  have RS := Lib.hid hR0
  clear hR0 e0
  obtain ⟨bS, cS, hbs⟩ := own_slice' RS.out
  cases hbs
  go_loopw [3, 4] (fun bv iv wr => ∃ (k : Nat) (bA : Option Addr) (bC : Nat), k ≤ I.length ∧ bv = .slice bA (L0 ++ (I.take k).flatMap tkO).length bC ∧ iv = .int .i64 (k : Int) ∧ Hid (wr.ownsRow w.heap.size 5 1 (.slice bA (L0 ++ (I.take k).flatMap tkO).length bC) (L0 ++ (I.take k).flatMap tkO).length (Cd.bytesV (L0 ++ (I.take k).flatMap tkO))) ∧ Hid (Below w.heap.size w wr)) (fun _ iv _ => I.length - (intOf iv).toNat)
  case atStart => exact ⟨0, _, _, by omega, by simp, rfl, RS, B3⟩
  case round =>
    clear RS B3
    obtain ⟨k, bA, bC, hk, rfl, rfl, hR, hB⟩ := hrel
    obtain ⟨m0, m1, m2, m3, m4⟩ := (H.out.bel hB.out).cells
    by_cases hlt : k < I.length
    · have hlt1 : (k : Int) < (I.length : Int) := by omega
      obtain ⟨g, cg, he, hvb, hgl, hnc, hcm⟩ := own_at (H.out.bel hB.out).idle (by omega)
      injection he with he1 he2 he3
      subst he1 he3
      have hx := rq_cells (H.out.bel hB.out).idle rfl k hlt
      have d0 := hx 0 (by omega)
      have d1 := hx 1 (by omega)
      have d2 := hx 2 (by omega)
      have d3 := hx 3 (by omega)
      have d4 := hx 4 (by omega)
      have d5 := hx 5 (by omega)
      have d6 := hx 6 (by omega)
      have HLn : Hid ((L0 ++ (I.take (k + 1)).flatMap tkO).length ≤ 6000000000) := Lib.hid (by rw [List.length_append]; have := HIL.out (k + 1); have h3 : (I.take (k + 1)).length * 50000 ≤ 100000 * 50000 := Nat.mul_le_mul_right _ (by rw [List.length_take]; omega); omega)
      have HSn : Hid (L0 ++ (I.take (k + 1)).flatMap tkO = (L0 ++ (I.take k).flatMap tkO) ++ tkO I[k]) := Lib.hid (cat_at hlt)
      have hfit := HI.out I[k] (List.getElem_mem hlt)
      clear hx
      generalize I[k] = y at *
      simp only [otC, List.getElem?_cons_succ, List.getElem?_cons_zero, Nat.add_zero] at d0 d1 d2 d3 d4 d5 d6
      generalize L0 ++ (I.take k).flatMap tkO = lk at *
      obtain ⟨hf1, hf2, hf3, hf4⟩ := hfit.tk
      unfold tkRdy at hf3
      have hatn : Hid (((y.tk.att.toNat : Nat) : Int) = y.tk.att) := Lib.hid (by omega)
      have hwa : IntKind.u64.wrap y.tk.att = y.tk.att := by rw [IntKind.wrap_u64]; omega
      have hz1 := textB_20 _ hf1
      have hz2 := textB_20 _ hf2
      have hz3 := zig_len hf3
      have hz4 := uB_int hf4
      have hlk : lk.length ≤ 6000000000 := by have := HLn.out; rw [HSn.out, List.length_append] at this; omega
      have KX := Lib.hid (Blk.new wr 64 [.string y.tk.key, .string y.tk.sticky, .int .i64 y.tk.ready, .int .i64 y.tk.att, .int .i64 y.token, .string y.worker, .int .i64 y.until_])
      have RX := Lib.hid (own_turns hR.out (.of_below (S := fun _ => False) (Below.new wr (.cells #[.string y.tk.key, .string y.tk.sticky, .int .i64 y.tk.ready, .int .i64 y.tk.att, .int .i64 y.token, .string y.worker, .int .i64 y.until_] 64))) (fun _ _ => id))
      have BX := Lib.hid (hB.out.trans ((Below.new wr (.cells #[.string y.tk.key, .string y.tk.sticky, .int .i64 y.tk.ready, .int .i64 y.tk.att, .int .i64 y.token, .string y.worker, .int .i64 y.until_] 64)).mono hB.out.size))
      unfold maxLen at hcm
      go_upto_region 9 with (fail)
      clear d0 d1 d2 d3 d4 d5 d6 m0 m1 m2 m3 m4
      generalize wr.alloc (.cells #[.string y.tk.key, .string y.tk.sticky, .int .i64 y.tk.ready, .int .i64 y.tk.att, .int .i64 y.token, .string y.worker, .int .i64 y.until_] 64) = X at *
      generalize wr.heap.size = bx at *
      have t0 := KX.out.cell 0
      simp only [List.getElem?_cons_succ, List.getElem?_cons_zero] at t0
      have HP4 := Lib.hid (refPutText_any X y.tk.key (by omega))
      have HD4 : Hid (lk.length + (Cd.textB y.tk.key.data.toList).length ≤ 100000000000) := Lib.hid (Nat.le_trans (Nat.add_le_add hlk hz1) (by decide))
      go_wp2_with (first | (go_at_call 81; refine HP4.out.mono ?_; rintro e Y4 ⟨bv4, rfl, ho2, hb2⟩; clear HP4; obtain ⟨A4, c4, X4, l4, hl2, hrun2, hR2, hB2, hT2⟩ := more_bytes RX.out BX.out ho2 hb2 HD4.out 22; have HL4 := Lib.hid hl2; have HRun4 := Lib.hid hrun2; have R4 := Lib.hid hR2; have B4 := Lib.hid hB2; have K4 := Lib.hid (KX.out.turns hT2 (fun e => own_ne_blk RX.out e KX.out (by decide) rfl)); clear hl2 hrun2 hR2 hB2 ho2 hb2 hT2) | (at_builtin; refine wpl_append_run rfl _ _ 22 rfl _ _ rfl rfl _ _ HRun4.out ?_; clear t0; have t1 := K4.out.cell 1; simp only [List.getElem?_cons_succ, List.getElem?_cons_zero] at t1))
      clear HD4 HRun4
      have hq0 : Hid (l4.length ≤ 6000020010) := Lib.hid (by rw [HL4.out, List.length_append]; exact Nat.add_le_add hlk hz1)
      have HP5 := Lib.hid (refPutText_any X4 y.tk.sticky (by omega))
      have HD5 : Hid (l4.length + (Cd.textB y.tk.sticky.data.toList).length ≤ 100000000000) := Lib.hid (Nat.le_trans (Nat.add_le_add hq0.out hz2) (by decide))
      go_wp2_with (first | (go_at_call 81; refine HP5.out.mono ?_; rintro e Y5 ⟨bv5, rfl, ho2, hb2⟩; clear HP5; obtain ⟨A5, c5, X5, l5, hl2, hrun2, hR2, hB2, hT2⟩ := more_bytes R4.out B4.out ho2 hb2 HD5.out 22; have HL5 := Lib.hid hl2; have HRun5 := Lib.hid hrun2; have R5 := Lib.hid hR2; have B5 := Lib.hid hB2; have K5 := Lib.hid (K4.out.turns hT2 (fun e => own_ne_blk R4.out e K4.out (by decide) rfl)); clear hl2 hrun2 hR2 hB2 ho2 hb2 hT2) | (at_builtin; refine wpl_append_run rfl _ _ 22 rfl _ _ rfl rfl _ _ HRun5.out ?_; clear t1; have t2 := K5.out.cell 2; simp only [List.getElem?_cons_succ, List.getElem?_cons_zero] at t2))
      clear HD5 HRun5
      have hq1 : Hid (l5.length ≤ 6000040020) := Lib.hid (by rw [HL5.out, List.length_append]; exact Nat.add_le_add hq0.out hz2)
      have HP6 := Lib.hid (refPutInt_any X5 y.tk.ready hf3.1 hf3.2)
      have HD6 : Hid (l5.length + (Cd.uB (Cd.zig y.tk.ready)).length ≤ 100000000000) := Lib.hid (Nat.le_trans (Nat.add_le_add hq1.out hz3) (by decide))
      go_wp2_with (first | (go_at_call 80; refine HP6.out.mono ?_; rintro e Y6 ⟨bv6, rfl, ho2, hb2⟩; clear HP6; obtain ⟨A6, c6, X6, l6, hl2, hrun2, hR2, hB2, hT2⟩ := more_bytes R5.out B5.out ho2 hb2 HD6.out 22; have HL6 := Lib.hid hl2; have HRun6 := Lib.hid hrun2; have R6 := Lib.hid hR2; have B6 := Lib.hid hB2; have K6 := Lib.hid (K5.out.turns hT2 (fun e => own_ne_blk R5.out e K5.out (by decide) rfl)); clear hl2 hrun2 hR2 hB2 ho2 hb2 hT2) | (at_builtin; refine wpl_append_run rfl _ _ 22 rfl _ _ rfl rfl _ _ HRun6.out ?_; clear t2; have t3 := K6.out.cell 3; simp only [List.getElem?_cons_succ, List.getElem?_cons_zero] at t3))
      clear HD6 HRun6
      have hq2 : Hid (l6.length ≤ 6000040030) := Lib.hid (by rw [HL6.out, List.length_append]; exact Nat.add_le_add hq1.out hz3)
      have HP7 := Lib.hid (show Calls Tryz.prog 79 #[.int .u64 y.tk.att] X6 (Made X6 (Cd.uB y.tk.att.toNat)) from by have := refPutUint_any X6 y.tk.att.toNat (by omega); rwa [hatn.out] at this)
      have HD7 : Hid (l6.length + (Cd.uB y.tk.att.toNat).length ≤ 100000000000) := Lib.hid (Nat.le_trans (Nat.add_le_add hq2.out hz4) (by decide))
      go_wp2_with (first | (go_at_call 79; refine HP7.out.mono ?_; rintro e Y7 ⟨bv7, rfl, ho2, hb2⟩; clear HP7; obtain ⟨A7, c7, X7, l7, hl2, hrun2, hR2, hB2, hT2⟩ := more_bytes R6.out B6.out ho2 hb2 HD7.out 22; have HL7 := Lib.hid hl2; have HRun7 := Lib.hid hrun2; have R7 := Lib.hid hR2; have B7 := Lib.hid hB2; have K7 := Lib.hid (K6.out.turns hT2 (fun e => own_ne_blk R6.out e K6.out (by decide) rfl)); clear hl2 hrun2 hR2 hB2 ho2 hb2 hT2) | (at_builtin; refine wpl_append_run rfl _ _ 22 rfl _ _ rfl rfl _ _ HRun7.out ?_; clear t3))
      clear HD7 HRun7
      have hq3 : Hid (l7.length ≤ 6000040040) := Lib.hid (by rw [HL7.out, List.length_append]; exact Nat.add_le_add hq2.out hz4)
      have HE : Hid (L0 ++ (I.take (k + 1)).flatMap tkO = l7) := Lib.hid (by rw [HSn.out, HL7.out, HL6.out, HL5.out, HL4.out]; simp only [tkO, tkB, List.append_assoc])
      go_roundw
      case measure => simp only [intOf]; omega
      case rel => exact ⟨k + 1, _, _, by omega, by rw [HE.out], by go_num, by rw [HE.out]; exact R7, B7⟩
    · obtain rfl : k = I.length := by omega
      have hlt1 : ¬ (I.length : Int) < (I.length : Int) := by omega
      have hR1 := hR.out
      rw [List.take_length] at hR1
      have HLb : Hid ((L0 ++ I.flatMap tkO).length ≤ 6000000000) := Lib.hid (by have := HIL.out I.length; rw [List.take_length] at this; have h3 : I.length * 50000 ≤ 100000 * 50000 := Nat.mul_le_mul_right _ (by omega); rw [List.length_append]; omega)
      have HTk : Hid (I.take I.length = I) := Lib.hid List.take_length
      rw [HTk.out]
      generalize hla : L0 ++ I.flatMap tkO = La at *
      have HLa := Lib.hid hla
      have R9 := Lib.hid hR1
      have hlb := HLb.out
      clear hla hR1 hR HTk HLb
      have HP8 := Lib.hid (refPutUint_any wr Z.length (by omega))
      have HD8 := Lib.hid (show La.length + (Cd.uB Z.length).length ≤ 100000000000 from by omega)
      go_wp2_with (first | (go_at_call 79; refine HP8.out.mono ?_; rintro e Y8 ⟨bv8, rfl, ho2, hb2⟩; clear HP8; obtain ⟨A8, c8, X8, l8, hl2, hrun2, hR2, hB2, _⟩ := more_bytes R9.out hB.out ho2 hb2 HD8.out 22; have HL8 := Lib.hid hl2; have HRun8 := Lib.hid hrun2; have R8 := Lib.hid hR2; have B8 := Lib.hid hB2; clear hl2 hrun2 hR2 hB2 ho2 hb2) | (at_builtin; refine wpl_append_run rfl _ _ 22 rfl _ _ rfl rfl _ _ HRun8.out ?_; clear m0 m1 m2 m3 m4))
      clear HD8 HRun8
      have hn4 : l8.length ≤ 6000000010 := by rw [HL8.out, List.length_append]; omega
      have HLB := HL8
      clear HL8 hw5 hlt hlt1 hlb R9 hk
      generalize l8 = L1 at *
      have hR0 := R8.out
      have e0 : L1 = L1 ++ (Z.take 0).flatMap otB := by simp
      rw [e0] at hR0
      have RS := Lib.hid hR0
      clear hR0 e0
      obtain ⟨bS, cS, hbs⟩ := own_slice' RS.out
      cases hbs
      go_loopw [3, 6] (fun bv iv wr => ∃ (k : Nat) (bA : Option Addr) (bC : Nat), k ≤ Z.length ∧ bv = .slice bA (L1 ++ (Z.take k).flatMap otB).length bC ∧ iv = .int .i64 (k : Int) ∧ Hid (wr.ownsRow w.heap.size 5 1 (.slice bA (L1 ++ (Z.take k).flatMap otB).length bC) (L1 ++ (Z.take k).flatMap otB).length (Cd.bytesV (L1 ++ (Z.take k).flatMap otB))) ∧ Hid (Below w.heap.size w wr)) (fun _ iv _ => Z.length - (intOf iv).toNat)
      case atStart => exact ⟨0, _, _, by omega, by simp, rfl, RS, B8⟩
      case round =>
        clear RS B8
        obtain ⟨k, bA, bC, hk, rfl, rfl, hR, hB⟩ := hrel
        obtain ⟨m0, m1, m2, m3, m4⟩ := (H.out.bel hB.out).cells
        by_cases hlt : k < Z.length
        · have hlt1 : (k : Int) < (Z.length : Int) := by omega
          obtain ⟨g, cg, he, hvb, hgl, hnc, hcm⟩ := own_at (H.out.bel hB.out).away (by omega)
          injection he with he1 he2 he3
          subst he1 he3
          have hx := rq_cells (H.out.bel hB.out).away rfl k hlt
          have d0 := hx 0 (by omega)
          have d1 := hx 1 (by omega)
          have d2 := hx 2 (by omega)
          have d3 := hx 3 (by omega)
          have d4 := hx 4 (by omega)
          have d5 := hx 5 (by omega)
          have d6 := hx 6 (by omega)
          have HLn : Hid ((L1 ++ (Z.take (k + 1)).flatMap otB).length ≤ 12000000010) := Lib.hid (by rw [List.length_append]; have := HZL.out (k + 1); have h3 : (Z.take (k + 1)).length * 50000 ≤ 100000 * 50000 := Nat.mul_le_mul_right _ (by rw [List.length_take]; omega); omega)
          have HSn : Hid (L1 ++ (Z.take (k + 1)).flatMap otB = (L1 ++ (Z.take k).flatMap otB) ++ otB Z[k]) := Lib.hid (cat_at hlt)
          have hfit := HZ.out Z[k] (List.getElem_mem hlt)
          clear hx
          generalize Z[k] = y at *
          simp only [otC, List.getElem?_cons_succ, List.getElem?_cons_zero, Nat.add_zero] at d0 d1 d2 d3 d4 d5 d6
          generalize L1 ++ (Z.take k).flatMap otB = lk at *
          obtain ⟨hf1, hf2, hf3, hf4, hf5⟩ := hfit.ot
          unfold OtOk at hf2
          have hatn : Hid (((y.tk.att.toNat : Nat) : Int) = y.tk.att) := Lib.hid (by omega)
          have htok : Hid (((y.token.toNat : Nat) : Int) = y.token) := Lib.hid (by omega)
          have hwa : IntKind.u64.wrap y.tk.att = y.tk.att := by rw [IntKind.wrap_u64]; omega
          have hwt : IntKind.u64.wrap y.token = y.token := by rw [IntKind.wrap_u64]; omega
          have hz1 := textB_20 _ hf1
          have hz2 := textB_20 _ hf3
          have hz3 := zig_len hf4
          have hz4 := uB_int hf5
          have hz5 := uB_int (n := y.token) (by omega)
          have hlk : lk.length ≤ 12000000010 := by have := HLn.out; rw [HSn.out, List.length_append] at this; omega
          have KX := Lib.hid (Blk.new wr 64 [.string y.tk.key, .string y.tk.sticky, .int .i64 y.tk.ready, .int .i64 y.tk.att, .int .i64 y.token, .string y.worker, .int .i64 y.until_])
          have RX := Lib.hid (own_turns hR.out (.of_below (S := fun _ => False) (Below.new wr (.cells #[.string y.tk.key, .string y.tk.sticky, .int .i64 y.tk.ready, .int .i64 y.tk.att, .int .i64 y.token, .string y.worker, .int .i64 y.until_] 64))) (fun _ _ => id))
          have BX := Lib.hid (hB.out.trans ((Below.new wr (.cells #[.string y.tk.key, .string y.tk.sticky, .int .i64 y.tk.ready, .int .i64 y.tk.att, .int .i64 y.token, .string y.worker, .int .i64 y.until_] 64)).mono hB.out.size))
          unfold maxLen at hcm
          go_wp2_with fail
          clear d0 d1 d2 d3 d4 d5 d6 m0 m1 m2 m3 m4
          generalize wr.alloc (.cells #[.string y.tk.key, .string y.tk.sticky, .int .i64 y.tk.ready, .int .i64 y.tk.att, .int .i64 y.token, .string y.worker, .int .i64 y.until_] 64) = X at *
          generalize wr.heap.size = bx at *
          have HP9 := Lib.hid (refPutText_any X y.tk.key (by omega))
          have HD9 : Hid (lk.length + (Cd.textB y.tk.key.data.toList).length ≤ 100000000000) := Lib.hid (Nat.le_trans (Nat.add_le_add hlk hz1) (by decide))
          go_wp2_with (first | (go_at_call 81; refine HP9.out.mono ?_; rintro e Y9 ⟨bv9, rfl, ho2, hb2⟩; clear HP9; obtain ⟨A9, c9, X9, l9, hl2, hrun2, hR2, hB2, hT2⟩ := more_bytes RX.out BX.out ho2 hb2 HD9.out 22; have HL9 := Lib.hid hl2; have HRun9 := Lib.hid hrun2; have R9 := Lib.hid hR2; have B9 := Lib.hid hB2; have K9 := Lib.hid (KX.out.turns hT2 (fun e => own_ne_blk RX.out e KX.out (by decide) rfl)); clear hl2 hrun2 hR2 hB2 ho2 hb2 hT2) | (at_builtin; refine wpl_append_run rfl _ _ 22 rfl _ _ rfl rfl _ _ HRun9.out ?_; have t4 := K9.out.cell 4; simp only [List.getElem?_cons_succ, List.getElem?_cons_zero] at t4))
          clear HD9 HRun9
          have hq0 : Hid (l9.length ≤ 12000020020) := Lib.hid (by rw [HL9.out, List.length_append]; exact Nat.add_le_add hlk hz1)
          have HP10 := Lib.hid (show Calls Tryz.prog 79 #[.int .u64 y.token] X9 (Made X9 (Cd.uB y.token.toNat)) from by have := refPutUint_any X9 y.token.toNat (by omega); rwa [htok.out] at this)
          have HD10 : Hid (l9.length + (Cd.uB y.token.toNat).length ≤ 100000000000) := Lib.hid (Nat.le_trans (Nat.add_le_add hq0.out hz5) (by decide))
          go_wp2_with (first | (go_at_call 79; refine HP10.out.mono ?_; rintro e Y10 ⟨bv10, rfl, ho2, hb2⟩; clear HP10; obtain ⟨A10, c10, X10, l10, hl2, hrun2, hR2, hB2, hT2⟩ := more_bytes R9.out B9.out ho2 hb2 HD10.out 22; have HL10 := Lib.hid hl2; have HRun10 := Lib.hid hrun2; have R10 := Lib.hid hR2; have B10 := Lib.hid hB2; have K10 := Lib.hid (K9.out.turns hT2 (fun e => own_ne_blk R9.out e K9.out (by decide) rfl)); clear hl2 hrun2 hR2 hB2 ho2 hb2 hT2) | (at_builtin; refine wpl_append_run rfl _ _ 22 rfl _ _ rfl rfl _ _ HRun10.out ?_; clear t4; have t5 := K10.out.cell 5; simp only [List.getElem?_cons_succ, List.getElem?_cons_zero] at t5))
          clear HD10 HRun10
          have hq1 : Hid (l10.length ≤ 12000020030) := Lib.hid (by rw [HL10.out, List.length_append]; exact Nat.add_le_add hq0.out hz5)
          have HP11 := Lib.hid (refPutText_any X10 y.worker (by omega))
          have HD11 : Hid (l10.length + (Cd.textB y.worker.data.toList).length ≤ 100000000000) := Lib.hid (Nat.le_trans (Nat.add_le_add hq1.out hz2) (by decide))
          go_wp2_with (first | (go_at_call 81; refine HP11.out.mono ?_; rintro e Y11 ⟨bv11, rfl, ho2, hb2⟩; clear HP11; obtain ⟨A11, c11, X11, l11, hl2, hrun2, hR2, hB2, hT2⟩ := more_bytes R10.out B10.out ho2 hb2 HD11.out 22; have HL11 := Lib.hid hl2; have HRun11 := Lib.hid hrun2; have R11 := Lib.hid hR2; have B11 := Lib.hid hB2; have K11 := Lib.hid (K10.out.turns hT2 (fun e => own_ne_blk R10.out e K10.out (by decide) rfl)); clear hl2 hrun2 hR2 hB2 ho2 hb2 hT2) | (at_builtin; refine wpl_append_run rfl _ _ 22 rfl _ _ rfl rfl _ _ HRun11.out ?_; clear t5; have t6 := K11.out.cell 6; simp only [List.getElem?_cons_succ, List.getElem?_cons_zero] at t6))
          clear HD11 HRun11
          have hq2 : Hid (l11.length ≤ 12000040040) := Lib.hid (by rw [HL11.out, List.length_append]; exact Nat.add_le_add hq1.out hz2)
          have HP12 := Lib.hid (refPutInt_any X11 y.until_ hf4.1 hf4.2)
          have HD12 : Hid (l11.length + (Cd.uB (Cd.zig y.until_)).length ≤ 100000000000) := Lib.hid (Nat.le_trans (Nat.add_le_add hq2.out hz3) (by decide))
          go_wp2_with (first | (go_at_call 80; refine HP12.out.mono ?_; rintro e Y12 ⟨bv12, rfl, ho2, hb2⟩; clear HP12; obtain ⟨A12, c12, X12, l12, hl2, hrun2, hR2, hB2, hT2⟩ := more_bytes R11.out B11.out ho2 hb2 HD12.out 22; have HL12 := Lib.hid hl2; have HRun12 := Lib.hid hrun2; have R12 := Lib.hid hR2; have B12 := Lib.hid hB2; have K12 := Lib.hid (K11.out.turns hT2 (fun e => own_ne_blk R11.out e K11.out (by decide) rfl)); clear hl2 hrun2 hR2 hB2 ho2 hb2 hT2) | (at_builtin; refine wpl_append_run rfl _ _ 22 rfl _ _ rfl rfl _ _ HRun12.out ?_; clear t6; have t3 := K12.out.cell 3; simp only [List.getElem?_cons_succ, List.getElem?_cons_zero] at t3))
          clear HD12 HRun12
          have hq3 : Hid (l12.length ≤ 12000040050) := Lib.hid (by rw [HL12.out, List.length_append]; exact Nat.add_le_add hq2.out hz3)
          have HP13 := Lib.hid (show Calls Tryz.prog 79 #[.int .u64 y.tk.att] X12 (Made X12 (Cd.uB y.tk.att.toNat)) from by have := refPutUint_any X12 y.tk.att.toNat (by omega); rwa [hatn.out] at this)
          have HD13 : Hid (l12.length + (Cd.uB y.tk.att.toNat).length ≤ 100000000000) := Lib.hid (Nat.le_trans (Nat.add_le_add hq3.out hz4) (by decide))
          go_wp2_with (first | (go_at_call 79; refine HP13.out.mono ?_; rintro e Y13 ⟨bv13, rfl, ho2, hb2⟩; clear HP13; obtain ⟨A13, c13, X13, l13, hl2, hrun2, hR2, hB2, hT2⟩ := more_bytes R12.out B12.out ho2 hb2 HD13.out 22; have HL13 := Lib.hid hl2; have HRun13 := Lib.hid hrun2; have R13 := Lib.hid hR2; have B13 := Lib.hid hB2; have K13 := Lib.hid (K12.out.turns hT2 (fun e => own_ne_blk R12.out e K12.out (by decide) rfl)); clear hl2 hrun2 hR2 hB2 ho2 hb2 hT2) | (at_builtin; refine wpl_append_run rfl _ _ 22 rfl _ _ rfl rfl _ _ HRun13.out ?_; clear t3))
          clear HD13 HRun13
          have hq4 : Hid (l13.length ≤ 12000040060) := Lib.hid (by rw [HL13.out, List.length_append]; exact Nat.add_le_add hq3.out hz4)
          have HE : Hid (L1 ++ (Z.take (k + 1)).flatMap otB = l13) := Lib.hid (by rw [HSn.out, HL13.out, HL12.out, HL11.out, HL10.out, HL9.out]; simp only [otB, List.append_assoc])
          go_roundw
          case measure => simp only [intOf]; omega
          case rel => exact ⟨k + 1, _, _, by omega, by rw [HE.out], by go_num, by rw [HE.out]; exact R13, B13⟩
        · obtain rfl : k = Z.length := by omega
          have hlt1 : ¬ (Z.length : Int) < (Z.length : Int) := by omega
          have hR1 := hR.out
          rw [List.take_length] at hR1
          have HTk : Hid (Z.take Z.length = Z) := Lib.hid List.take_length
          rw [HTk.out]
          generalize hlf : L1 ++ Z.flatMap otB = Lf at *
          have HLf := Lib.hid hlf
          have R9 := Lib.hid hR1
          clear hlf hR1 hR HTk
          go_wp2_with fail
          go_ret
          have hfin : qB (M : Int) grace ((N : Int) + 1) (I.map (·.tk)) Z = Lf := by rw [HQB.out, ← HLA.out, HLa.out, ← HLB.out, HLf.out]
          unfold Made
          rw [hfin]
          exact ⟨_, rfl, R9.out, hB.out⟩
end Go.Proofs.YtpbheicfplpemaaGreat
