/- timers: one timer read of bytes: the walk. -/
import Derived.Test.YteondokncalbnaaTlOne
namespace Go.Proofs.Yteondokncalbnaa
open Go.RowKit

def tz : List Value := [.int .i64 0, .string ⟨#[]⟩, .int .i64 0]
set_option maxRecDepth 20000 in
set_option maxHeartbeats 8000000 in
theorem one_any (w : World) (A : Option Addr) (c : Nat) (l : List UInt8) (a : Nat) (h : In w A l.length c l) (ha : a ≤ l.length) (hl : l.length ≤ 1000000) :
    Calls Try.prog 41 #[.slice A l.length c, .int .i64 (a : Int)] w (OneY w l a) := by
  have hB1 := Below.new w (.cells #[.int .i64 0, .string ⟨#[]⟩, .int .i64 0] 31)
  have K1 := Lib.hid (Blk.new w 31 [.int .i64 0, .string ⟨#[]⟩, .int .i64 0])
  have hI1 := h.below hB1
  have HI := Lib.hid hI1
  have HB1 := Lib.hid hB1
  have hcap := h.cap_le
  have hcm : c ≤ 9223372036854775807 := by have := hcap.2; unfold maxLen at this; omega
  have hac : (a : Int) ≤ (c : Int) := by omega
  have hlc : (l.length : Int) ≤ (c : Int) := by omega
  have ha0 : (0 : Int) ≤ (a : Int) := by omega
  have hal : (a : Int) ≤ (l.length : Int) := by omega
  have HD1 := Lib.hid (in_drop hI1 ha)
  clear h hI1 hB1 hcap
  rcases h1 : Cd.rdInt (l.drop a) 0 with ⟨p, en⟩ | ⟨d, n1⟩
  · obtain ⟨e1, e2, e3⟩ := one_er1 ha h1
    have HE := Lib.hid e1
    have HR1 := Lib.hid h1
    have hen : (((en : Nat) : Int) != 0) = true := by rw [bne_iff_ne]; omega
    have hen2 : Hid ((((en : Nat) : Int) == 0) = false) := Lib.hid (by rw [beq_eq_false_iff_ne]; omega)
    have hp : (a : Int) + (p : Int) ≤ 9223372036854775807 := by omega
    clear h1 e1 e2 e3
    go_enter Try.func41, Try.ntmps41
    go_upto_region 1 with (fail)
    have HRI := Lib.hid (readInt_any _ _ _ _ _ HD1.out)
    rw [HR1.out] at HRI
    unfold Gets at HRI
    generalize w.alloc (.cells #[.int .i64 0, .string ⟨#[]⟩, .int .i64 0] 31) = W at *
    go_upto_region 2 with (go_at_call 59; refine HRI.out.mono ?_; rintro e W2 ⟨rfl, hb⟩; generalize (if c = a then A else Option.map (fun x => x.add a) A) = A2)
    have K2 := Lib.hid (K1.out.bel hb)
    have HB2 := Lib.hid (below_trans' HB1.out hb)
    have c0 := K2.out.cell 0
    have c1 := K2.out.cell 1
    have c2 := K2.out.cell 2
    have z0 := K2.out.fz 0
    have z1 := K2.out.fz 1
    have z2 := K2.out.fz 2
    simp only [List.getElem?_cons_succ, List.getElem?_cons_zero] at c0 c1 c2
    clear hb
    go_wp2_with fail
    have K4 := ((K2.out.set 0 (.int .i64 0)).set 1 (.string ⟨#[]⟩)).set 2 (.int .i64 0)
    refine bodyPost_ret (results_T3 (h := rfl) (g := w.heap.size) (t := 31) (cs := ([.int .i64 0, .string ⟨#[]⟩, .int .i64 0] : List Value).toArray) (fr := (0, 0)) (hp := rfl) (hg := K4) (hu := Try.underlying31) (hd := rfl) (hi := by kernel_rfl) _ _) rfl ?_
    exact ⟨⟨0, ⟨#[]⟩, 0, a + p, en, by first | rfl | (simp; omega), .inr ⟨hen2.out, HE.out⟩⟩, ((HB2.out.setCell (p := ⟨w.heap.size, 0, none⟩) (Nat.le_refl _) _).setCell (p := ⟨w.heap.size, 1, none⟩) (Nat.le_refl _) _).setCell (p := ⟨w.heap.size, 2, none⟩) (Nat.le_refl _) _⟩
  · have n1le : n1 ≤ l.length - a := by have := rdInt_le h1; rwa [List.length_drop] at this
    have hR1 := Lib.hid h1
    have hb1 : a + n1 ≤ l.length := by omega
    have hbc : (a : Int) + (n1 : Int) ≤ (c : Int) := by omega
    have hb0 : (0 : Int) ≤ (a : Int) + (n1 : Int) := by omega
    have hbl : (a : Int) + (n1 : Int) ≤ (l.length : Int) := by omega
    have hbm : (a : Int) + (n1 : Int) ≤ 9223372036854775807 := by omega
    have htn : ((a : Int) + (n1 : Int)).toNat = a + n1 := by omega
    rcases h2 : Cd.rdText (l.drop (a + n1)) 0 with ⟨p, en⟩ | ⟨s, n2⟩
    · obtain ⟨_, e1, e2, e3⟩ := one_er2 ha h1 h2
      have HE := Lib.hid e1
      have HR2 := Lib.hid h2
      have hen : (((en : Nat) : Int) != 0) = true := by rw [bne_iff_ne]; omega
      have hen2 : Hid ((((en : Nat) : Int) == 0) = false) := Lib.hid (by rw [beq_eq_false_iff_ne]; omega)
      have hp : (a : Int) + (n1 : Int) + (p : Int) ≤ 9223372036854775807 := by omega
      clear h1 h2 e1 e2 e3
      go_enter Try.func41, Try.ntmps41
      go_upto_region 1 with (fail)
      have HRI := Lib.hid (readInt_any _ _ _ _ _ HD1.out)
      rw [hR1.out] at HRI
      unfold Gets i64V at HRI
      generalize w.alloc (.cells #[.int .i64 0, .string ⟨#[]⟩, .int .i64 0] 31) = W at *
      go_upto_region 2 with (go_at_call 59; refine HRI.out.mono ?_; rintro e W2 ⟨rfl, hb⟩; generalize (if c = a then A else Option.map (fun x => x.add a) A) = A2)
      have K2 := Lib.hid (K1.out.bel hb)
      have HB2 := Lib.hid (below_trans' HB1.out hb)
      have HD2 := Lib.hid (in_drop (HI.out.below hb) hb1)
      have HRT := Lib.hid (readText_any _ _ _ _ _ HD2.out)
      rw [HR2.out] at HRT
      unfold Gets at HRT
      clear hb
      go_upto_region 5 with (fail)
      go_upto_region 6 with (go_at_call 60; refine HRT.out.mono ?_; rintro e W3 ⟨rfl, hb⟩; generalize (if c = a + n1 then A else Option.map (fun x => x.add (a + n1)) A) = A3)
      have K3 := Lib.hid (K2.out.bel hb)
      have HB3 := Lib.hid (below_trans' HB2.out hb)
      have c0 := K3.out.cell 0
      have c1 := K3.out.cell 1
      have c2 := K3.out.cell 2
      have z0 := K3.out.fz 0
      have z1 := K3.out.fz 1
      have z2 := K3.out.fz 2
      simp only [List.getElem?_cons_succ, List.getElem?_cons_zero] at c0 c1 c2
      clear hb
      go_wp2_with fail
      have K4 := ((K3.out.set 0 (.int .i64 0)).set 1 (.string ⟨#[]⟩)).set 2 (.int .i64 0)
      refine bodyPost_ret (results_T3 (h := rfl) (g := w.heap.size) (t := 31) (cs := ([.int .i64 0, .string ⟨#[]⟩, .int .i64 0] : List Value).toArray) (fr := (0, 0)) (hp := rfl) (hg := K4) (hu := Try.underlying31) (hd := rfl) (hi := by kernel_rfl) _ _) rfl ?_
      exact ⟨⟨0, ⟨#[]⟩, 0, a + n1 + p, en, by first | rfl | (simp; omega), .inr ⟨hen2.out, HE.out⟩⟩, ((HB3.out.setCell (p := ⟨w.heap.size, 0, none⟩) (Nat.le_refl _) _).setCell (p := ⟨w.heap.size, 1, none⟩) (Nat.le_refl _) _).setCell (p := ⟨w.heap.size, 2, none⟩) (Nat.le_refl _) _⟩
    · have hR2 := Lib.hid h2
      have hc1 : a + n1 + n2 ≤ l.length := by have := (rdText_le h2).1; rw [List.length_drop] at this; omega
      have hcc : (a : Int) + (n1 : Int) + (n2 : Int) ≤ (c : Int) := by omega
      have hc0 : (0 : Int) ≤ (a : Int) + (n1 : Int) + (n2 : Int) := by omega
      have hcl : (a : Int) + (n1 : Int) + (n2 : Int) ≤ (l.length : Int) := by omega
      have hcm2 : (a : Int) + (n1 : Int) + (n2 : Int) ≤ 9223372036854775807 := by omega
      have htn2 : ((a : Int) + (n1 : Int) + (n2 : Int)).toNat = a + n1 + n2 := by omega
      rcases h3 : Cd.rdUint (l.drop (a + n1 + n2)) 0 with ⟨p, en⟩ | ⟨n, n3⟩
      · obtain ⟨e1, e2, e3⟩ := one_er3 ha h1 h2 h3
        have HE := Lib.hid e1
        have hR3 := Lib.hid h3
        have hen : (((en : Nat) : Int) == 0) = false := by rw [beq_eq_false_iff_ne]; omega
        have hen2 : Hid ((((en : Nat) : Int) == 0) = false) := Lib.hid hen
        have hp : (a : Int) + (n1 : Int) + (n2 : Int) + (p : Int) ≤ 9223372036854775807 := by omega
        clear h1 h2 h3 e1 e2 e3
        go_enter Try.func41, Try.ntmps41
        go_upto_region 1 with (fail)
        have HRI := Lib.hid (readInt_any _ _ _ _ _ HD1.out)
        rw [hR1.out] at HRI
        unfold Gets i64V at HRI
        generalize w.alloc (.cells #[.int .i64 0, .string ⟨#[]⟩, .int .i64 0] 31) = W at *
        go_upto_region 2 with (go_at_call 59; refine HRI.out.mono ?_; rintro e W2 ⟨rfl, hb⟩; generalize (if c = a then A else Option.map (fun x => x.add a) A) = A2)
        have K2 := Lib.hid (K1.out.bel hb)
        have HB2 := Lib.hid (below_trans' HB1.out hb)
        have HI2 := Lib.hid (HI.out.below hb)
        have HD2 := Lib.hid (in_drop HI2.out hb1)
        have HRT := Lib.hid (readText_any _ _ _ _ _ HD2.out)
        rw [hR2.out] at HRT
        unfold Gets strV at HRT
        clear hb
        go_upto_region 5 with (fail)
        go_upto_region 6 with (go_at_call 60; refine HRT.out.mono ?_; rintro e W3 ⟨rfl, hb⟩; generalize (if c = a + n1 then A else Option.map (fun x => x.add (a + n1)) A) = A3)
        have K3 := Lib.hid (K2.out.bel hb)
        have HB3 := Lib.hid (below_trans' HB2.out hb)
        have HD3 := Lib.hid (in_drop (HI2.out.below hb) hc1)
        have HRU := Lib.hid (readUint_any _ _ _ _ _ HD3.out)
        rw [hR3.out] at HRU
        unfold Gets at HRU
        clear hb
        go_upto_region 9 with (fail)
        go_upto_region 10 with (go_at_call 40; refine HRU.out.mono ?_; rintro e W4 ⟨rfl, hb⟩; generalize (if c = a + n1 + n2 then A else Option.map (fun x => x.add (a + n1 + n2)) A) = A4)
        have K5 := Lib.hid (K3.out.bel hb)
        have HB5 := Lib.hid (below_trans' HB3.out hb)
        have c0 := K5.out.cell 0
        have c1 := K5.out.cell 1
        have c2 := K5.out.cell 2
        have z0 := K5.out.fz 0
        have z1 := K5.out.fz 1
        have z2 := K5.out.fz 2
        simp only [List.getElem?_cons_succ, List.getElem?_cons_zero] at c0 c1 c2
        clear hb
        have hand : bits .and .u64 0 9223372036854775807 = 0 := by have := and_max 0 (by decide); simpa using this
        go_wp2_with fail
        have K6 := ((K5.out.set 0 (.int .i64 d)).set 1 (.string ⟨s.toArray⟩)).set 2 (.int .i64 0)
        refine bodyPost_ret (results_T3 (h := rfl) (g := w.heap.size) (t := 31) (cs := ([.int .i64 d, .string ⟨s.toArray⟩, .int .i64 0] : List Value).toArray) (fr := (0, 0)) (hp := rfl) (hg := K6) (hu := Try.underlying31) (hd := rfl) (hi := by kernel_rfl) _ _) rfl ?_
        exact ⟨⟨d, ⟨s.toArray⟩, 0, a + n1 + n2 + p, en, by first | rfl | (simp; omega), .inr ⟨hen2.out, HE.out⟩⟩, ((HB5.out.setCell (p := ⟨w.heap.size, 0, none⟩) (Nat.le_refl _) _).setCell (p := ⟨w.heap.size, 1, none⟩) (Nat.le_refl _) _).setCell (p := ⟨w.heap.size, 2, none⟩) (Nat.le_refl _) _⟩
      · obtain ⟨⟨_, _, q3, q4, q5, q6⟩, hok⟩ := one_ok ha h1 h2 h3
        have hR3 := Lib.hid h3
        have HOk := Lib.hid hok
        have HQ6 := Lib.hid q6
        have hs0 : Hid ((⟨s.toArray⟩ : ByteArray).size = s.length) := Lib.hid (by simp [ByteArray.size])
        have hn3 : (a : Int) + (n1 : Int) + (n2 : Int) + (n3 : Int) ≤ 9223372036854775807 := by omega
        have hand := and_max n q5
        clear h1 h2 h3 hok q6
        by_cases hbig : 9223372036854775807 < n
        · have hgt : (9223372036854775807 : Int) < (n : Int) := by omega
          obtain ⟨m, hm⟩ : ∃ m, m = n % 9223372036854775808 := ⟨_, rfl⟩
          have hw : IntKind.i64.wrap (m : Int) = (m : Int) := wrap_i64' _ (by omega) (by omega)
          have HE : Hid (rdTm l a = .error (a + n1 + n2, 1)) := Lib.hid (by rw [HOk.out, if_pos hbig])
          rw [← hm] at hand
          clear hm hbig
          go_enter Try.func41, Try.ntmps41
          go_upto_region 1 with (fail)
          have HRI := Lib.hid (readInt_any _ _ _ _ _ HD1.out)
          rw [hR1.out] at HRI
          unfold Gets i64V at HRI
          generalize w.alloc (.cells #[.int .i64 0, .string ⟨#[]⟩, .int .i64 0] 31) = W at *
          go_upto_region 2 with (go_at_call 59; refine HRI.out.mono ?_; rintro e W2 ⟨rfl, hb⟩; generalize (if c = a then A else Option.map (fun x => x.add a) A) = A2)
          have K2 := Lib.hid (K1.out.bel hb)
          have HB2 := Lib.hid (below_trans' HB1.out hb)
          have HI2 := Lib.hid (HI.out.below hb)
          have HD2 := Lib.hid (in_drop HI2.out hb1)
          have HRT := Lib.hid (readText_any _ _ _ _ _ HD2.out)
          rw [hR2.out] at HRT
          unfold Gets strV at HRT
          clear hb
          go_upto_region 5 with (fail)
          go_upto_region 6 with (go_at_call 60; refine HRT.out.mono ?_; rintro e W3 ⟨rfl, hb⟩; generalize (if c = a + n1 then A else Option.map (fun x => x.add (a + n1)) A) = A3)
          have K3 := Lib.hid (K2.out.bel hb)
          have HB3 := Lib.hid (below_trans' HB2.out hb)
          have HD3 := Lib.hid (in_drop (HI2.out.below hb) hc1)
          have HRU := Lib.hid (readUint_any _ _ _ _ _ HD3.out)
          rw [hR3.out] at HRU
          unfold Gets u64V at HRU
          clear hb
          go_upto_region 9 with (fail)
          go_upto_region 10 with (go_at_call 40; refine HRU.out.mono ?_; rintro e W4 ⟨rfl, hb⟩; generalize (if c = a + n1 + n2 then A else Option.map (fun x => x.add (a + n1 + n2)) A) = A4)
          have K5 := Lib.hid (K3.out.bel hb)
          have HB5 := Lib.hid (below_trans' HB3.out hb)
          have c0 := K5.out.cell 0
          have c1 := K5.out.cell 1
          have c2 := K5.out.cell 2
          have z0 := K5.out.fz 0
          have z1 := K5.out.fz 1
          have z2 := K5.out.fz 2
          simp only [List.getElem?_cons_succ, List.getElem?_cons_zero] at c0 c1 c2
          clear hb
          go_wp2_with fail
          have K6 := ((K5.out.set 0 (.int .i64 d)).set 1 (.string ⟨s.toArray⟩)).set 2 (.int .i64 (m : Int))
          refine bodyPost_ret (results_T3 (h := rfl) (g := w.heap.size) (t := 31) (cs := ([.int .i64 d, .string ⟨s.toArray⟩, .int .i64 (m : Int)] : List Value).toArray) (fr := (0, 0)) (hp := rfl) (hg := K6) (hu := Try.underlying31) (hd := rfl) (hi := by kernel_rfl) _ _) rfl ?_
          exact ⟨⟨d, ⟨s.toArray⟩, (m : Int), a + n1 + n2, 1, by first | rfl | (simp; omega), .inr ⟨rfl, HE.out⟩⟩, ((HB5.out.setCell (p := ⟨w.heap.size, 0, none⟩) (Nat.le_refl _) _).setCell (p := ⟨w.heap.size, 1, none⟩) (Nat.le_refl _) _).setCell (p := ⟨w.heap.size, 2, none⟩) (Nat.le_refl _) _⟩
        · have hgt : ¬ (9223372036854775807 : Int) < (n : Int) := by omega
          have hm : n % 9223372036854775808 = n := Nat.mod_eq_of_lt (by omega)
          rw [hm] at hand
          have hw : IntKind.i64.wrap (n : Int) = (n : Int) := wrap_i64' _ (by omega) (by omega)
          have HE : Hid (rdTm l a = .ok ((d, ⟨s.toArray⟩, (n : Int)), a + n1 + n2 + n3)) := Lib.hid (by rw [HOk.out, if_neg hbig])
          clear hm hbig
          go_enter Try.func41, Try.ntmps41
          go_upto_region 1 with (fail)
          have HRI := Lib.hid (readInt_any _ _ _ _ _ HD1.out)
          rw [hR1.out] at HRI
          unfold Gets i64V at HRI
          generalize w.alloc (.cells #[.int .i64 0, .string ⟨#[]⟩, .int .i64 0] 31) = W at *
          go_upto_region 2 with (go_at_call 59; refine HRI.out.mono ?_; rintro e W2 ⟨rfl, hb⟩; generalize (if c = a then A else Option.map (fun x => x.add a) A) = A2)
          have K2 := Lib.hid (K1.out.bel hb)
          have HB2 := Lib.hid (below_trans' HB1.out hb)
          have HI2 := Lib.hid (HI.out.below hb)
          have HD2 := Lib.hid (in_drop HI2.out hb1)
          have HRT := Lib.hid (readText_any _ _ _ _ _ HD2.out)
          rw [hR2.out] at HRT
          unfold Gets strV at HRT
          clear hb
          go_upto_region 5 with (fail)
          go_upto_region 6 with (go_at_call 60; refine HRT.out.mono ?_; rintro e W3 ⟨rfl, hb⟩; generalize (if c = a + n1 then A else Option.map (fun x => x.add (a + n1)) A) = A3)
          have K3 := Lib.hid (K2.out.bel hb)
          have HB3 := Lib.hid (below_trans' HB2.out hb)
          have HD3 := Lib.hid (in_drop (HI2.out.below hb) hc1)
          have HRU := Lib.hid (readUint_any _ _ _ _ _ HD3.out)
          rw [hR3.out] at HRU
          unfold Gets u64V at HRU
          clear hb
          go_upto_region 9 with (fail)
          go_upto_region 10 with (go_at_call 40; refine HRU.out.mono ?_; rintro e W4 ⟨rfl, hb⟩; generalize (if c = a + n1 + n2 then A else Option.map (fun x => x.add (a + n1 + n2)) A) = A4)
          have K5 := Lib.hid (K3.out.bel hb)
          have HB5 := Lib.hid (below_trans' HB3.out hb)
          have c0 := K5.out.cell 0
          have c1 := K5.out.cell 1
          have c2 := K5.out.cell 2
          have z0 := K5.out.fz 0
          have z1 := K5.out.fz 1
          have z2 := K5.out.fz 2
          simp only [List.getElem?_cons_succ, List.getElem?_cons_zero] at c0 c1 c2
          clear hb
          go_wp2_with fail
          have K6 := ((K5.out.set 0 (.int .i64 d)).set 1 (.string ⟨s.toArray⟩)).set 2 (.int .i64 (n : Int))
          refine bodyPost_ret (results_T3 (h := rfl) (g := w.heap.size) (t := 31) (cs := ([.int .i64 d, .string ⟨s.toArray⟩, .int .i64 (n : Int)] : List Value).toArray) (fr := (0, 0)) (hp := rfl) (hg := K6) (hu := Try.underlying31) (hd := rfl) (hi := by kernel_rfl) _ _) rfl ?_
          exact ⟨⟨d, ⟨s.toArray⟩, (n : Int), a + n1 + n2 + n3, 0, by first | rfl | (simp; omega), .inl ⟨rfl, HE.out, q3, by rw [hs0.out]; exact q4, HQ6.out, by omega⟩⟩, ((HB5.out.setCell (p := ⟨w.heap.size, 0, none⟩) (Nat.le_refl _) _).setCell (p := ⟨w.heap.size, 1, none⟩) (Nat.le_refl _) _).setCell (p := ⟨w.heap.size, 2, none⟩) (Nat.le_refl _) _⟩
end Go.Proofs.Yteondokncalbnaa
