/- wal: run: a record as frames. -/
import Derived.Test.YteihedfmmiihiaaGreatWlLook
import Derived.Test.YteihedfmmiihiaaGreatWmD
namespace Go.Proofs.YteihedfmmiihiaaGreat
open Go.RowKit

theorem own_one (w : World) (x : UInt8) : OwnB (w.alloc (.cells #[.int .u8 (x.toNat : Int)] 5)) w.heap.size (some ⟨w.heap.size, 0, none⟩) 1 [x] :=
  ⟨rfl, .inr ⟨w.heap.size, 1, _, rfl, Nat.le_refl _, heap_alloc_new w _, Nat.le_refl _, by unfold maxLen; omega, rfl, rfl⟩⟩
theorem take_len_le {r : List UInt8} {n : Nat} (h : n ≤ r.length) : (r.take n).length = n := by rw [List.length_take]; omega
set_option maxRecDepth 20000 in
set_option maxHeartbeats 4000000 in
theorem run_any (w : World) (A : Option Addr) (c : Nat) (r : List UInt8) (h : Bs w A r.length r) (hc : r.length ≤ c) (hr : r.length ≤ 50000000) :
    Calls Tryz.prog 29 #[.slice A r.length c] w (GiveB w w.heap.size (runB r)) := by
  have H := Lib.hid h
  have HC := Lib.hid hc
  have HR := Lib.hid hr
  have hRL := Lib.hid (runB_len r)
  clear h hc hr
  go_enter Tryz.func29, Tryz.ntmps29
  go_wp2_with fail
  go_loopw [0, 3] (fun rv ov wr => ∃ (A1 : Option Addr) (c1 m : Nat) (rem : List UInt8) (A2 : Option Addr) (c2 k : Nat) (acc : List UInt8), rv = .slice A1 m c1 ∧ ov = .slice A2 k c2 ∧ Hid (m = rem.length) ∧ Hid (k = acc.length) ∧ Hid (Bs w A1 rem.length rem) ∧ Hid (m ≤ c1) ∧ Hid (OwnB wr w.heap.size A2 c2 acc) ∧ Hid (Below w.heap.size w wr) ∧ Hid (acc ++ runB rem = runB r) ∧ Hid (m ≤ 50000000)) (fun rv _ _ => match rv with | .slice _ n _ => n | _ => 0)
  case atStart => exact ⟨A, c, _, r, none, 0, _, [], rfl, rfl, Lib.hid rfl, Lib.hid rfl, H, HC, Lib.hid (.nil _ _), Lib.hid (Below.refl _ _), Lib.hid rfl, HR⟩
  case round =>
    obtain ⟨A1, c1, m, rem, A2, c2, k, acc, rfl, rfl, hm, hk, hB, hC, hO, hW, hE, hL⟩ := hrel
    clear H HC
    by_cases hle : m ≤ 60000
    · have q1 : (m : Int) ≤ 60000 := by omega
      have HX := Lib.hid hle
      clear hle
      have hmin : min (60000 : Int) (m : Int) = (m : Int) := by omega
      obtain ⟨r1, hr1⟩ : ∃ x, x = [(1 : UInt8)] ++ rem := ⟨_, rfl⟩
      obtain ⟨r2, hr2⟩ : ∃ x, x = acc ++ frameB r1 := ⟨_, rfl⟩
      obtain ⟨f1, hf1⟩ : ∃ x, x = frameB r1 := ⟨_, rfl⟩
      have HB0 := Below.new wr (.cells #[.int .u8 1] 5)
      have hlr : rem.length ≤ 60000 := by have := hm.out; have := HX.out; omega
      have hl1 : r1.length = rem.length + 1 := by rw [hr1]; simp
      have hlf : f1.length ≤ 60013 := by rw [hf1, frameB_len, hl1]; omega
      have hla : acc.length ≤ 51000000 := by
        have h1 := congrArg List.length hE.out
        rw [List.length_append] at h1
        have h2 := hRL.out
        have h3 := HR.out
        omega
      have HBm := Lib.hid (show Bs w A1 m rem from by have := hB.out; rwa [← hm.out] at this)
      obtain ⟨A3, c3, w3, h1, h2, h3⟩ := append_b (wr.alloc (.cells #[.int .u8 1] 5)) wr.heap.size (some ⟨wr.heap.size, 0, none⟩) 1 [1] (own_one wr 1) (by simp) A1 m c1 rem ((HBm.out.below hW.out).below HB0) (by simp; omega) 30 r1 hr1
      have HR1 := Lib.hid h1
      have O3 := Lib.hid h2
      have B3 := Lib.hid (below_trans' hW.out (HB0.trans h3))
      have O30 := Lib.hid (hO.out.bel (HB0.trans h3))
      have HLF := Lib.hid hlf
      have HLA := Lib.hid hla
      have HF1 := Lib.hid hf1
      have HR2 := Lib.hid hr2
      have HL1 : Hid (r1.length ≤ 65536) := Lib.hid (by omega)
      have HEQ : Hid (runB r = r2) := Lib.hid (by
        rw [hr2, ← hE.out, runB_le hlr, hr1]; rfl)
      have HAK := Lib.hid hk.out
      clear h1 h2 h3 hl1 hlf hla hf1 hr2 hr1 hlr HB0 HBm
      go_wp2_with (at_builtin; refine wpl_append_run rfl _ _ 30 rfl _ _ rfl rfl _ _ HR1.out ?_)
      refine (frame_any w3 A3 c3 r1 O3.out.bs HL1.out).mono ?_
      rintro e w4 ⟨A4, c4, rfl, ho4, hb4⟩
      rw [← HF1.out] at ho4
      have E1 : (frameB r1).length = f1.length := by rw [HF1.out]
      rw [E1]
      have O4 := Lib.hid ho4
      have B4 := Lib.hid (below_trans' B3.out hb4)
      have O40 := Lib.hid (O30.out.bel hb4)
      clear ho4 hb4 E1
      obtain ⟨A5, c5, w5, h1, h2, h3⟩ := append_b w4 w.heap.size A2 c2 acc O40.out B4.out.size A4 f1.length c4 f1 O4.out.bs (by have := HLA.out; have := HLF.out; omega) 30 r2 (by rw [HF1.out]; exact HR2.out)
      rw [← HAK.out] at h1
      have HR5 := Lib.hid h1
      have O5 := Lib.hid h2
      have B5 := Lib.hid (B4.out.trans h3)
      clear h1 h2 h3
      go_wp2_with (at_builtin; refine wpl_append_run rfl _ _ 30 rfl _ _ rfl rfl _ _ HR5.out ?_)
      all_goals
        go_ret
        unfold GiveB
        rw [HEQ.out]
        exact ⟨A5, c5, rfl, O5.out, B5.out⟩
    · have q1 : ¬ (m : Int) ≤ 60000 := by omega
      have HX := Lib.hid hle
      clear hle
      obtain ⟨P, hP⟩ : ∃ P, P = 60000 := ⟨_, rfl⟩
      have hmin : min (60000 : Int) (m : Int) = (P : Int) := by omega
      have q2 : (P : Int) ≤ (m : Int) := by omega
      have q3 : ¬ (P : Int) = (m : Int) := by omega
      have q4 : ¬ c1 = P := by have := hC.out; have := HX.out; omega
      have q5 : (P : Int) ≤ (c1 : Int) := by have := hC.out; have := HX.out; omega
      have HP := Lib.hid hP
      have hmr := hm.out
      obtain ⟨ad, rfl, hbl, hcz⟩ := hB.out.cell 0 (by have := HX.out; omega)
      clear hcz
      obtain ⟨r1, hr1⟩ : ∃ x, x = [(0 : UInt8)] ++ rem.take P := ⟨_, rfl⟩
      obtain ⟨r2, hr2⟩ : ∃ x, x = acc ++ frameB r1 := ⟨_, rfl⟩
      obtain ⟨f1, hf1⟩ : ∃ x, x = frameB r1 := ⟨_, rfl⟩
      have HB0 := Below.new wr (.cells #[.int .u8 0] 5)
      have ht6 : (rem.take P).length = P := take_len_le (by have := HX.out; omega)
      have hl1 : r1.length = 60001 := by rw [hr1, List.length_append, ht6, hP]; rfl
      have hlf : f1.length = 60013 := by rw [hf1, frameB_len, hl1]
      have hla : acc.length ≤ 51000000 := by
        have h1 := congrArg List.length hE.out
        rw [List.length_append] at h1
        have h2 := hRL.out
        have h3 := HR.out
        omega
      have HBm := Lib.hid (show Bs w (some ad) m rem from by have := hB.out; rwa [← hm.out] at this)
      obtain ⟨A3, c3, w3, h1, h2, h3⟩ := append_b (wr.alloc (.cells #[.int .u8 0] 5)) wr.heap.size (some ⟨wr.heap.size, 0, none⟩) 1 [0] (own_one wr 0) (by simp) (some ad) P c1 (rem.take P) (((HBm.out.below hW.out).below HB0).pre P (by have := HX.out; omega)) (by rw [ht6]; simp; omega) 30 r1 hr1
      have HR1 := Lib.hid h1
      have O3 := Lib.hid h2
      have B3 := Lib.hid (below_trans' hW.out (HB0.trans h3))
      have O30 := Lib.hid (hO.out.bel (HB0.trans h3))
      have HLF := Lib.hid hlf
      have HLA := Lib.hid hla
      have HF1 := Lib.hid hf1
      have HR2 := Lib.hid hr2
      have HL1 : Hid (r1.length ≤ 65536) := Lib.hid (by omega)
      have HEQ : Hid (r2 ++ runB (rem.drop P) = runB r) := Lib.hid (by
        rw [hr2, ← hE.out, runB_gt (r := rem) (by have := HX.out; omega), hr1, List.append_assoc, hP]; rfl)
      have HAK := Lib.hid hk.out
      have HBT : Hid (Bs w (some (ad.add P)) (rem.drop P).length (rem.drop P)) := Lib.hid (by
        have := hB.out.tail P (by have := HX.out; omega)
        rwa [← List.length_drop] at this)
      have HDL : Hid (m - P = (rem.drop P).length) := Lib.hid (by rw [List.length_drop, ← hm.out])
      clear h1 h2 h3 hl1 hlf hla hf1 hr2 hr1 HB0 HBm ht6 hmr hP q1
      go_wp2_with (at_builtin; refine wpl_append_run rfl _ _ 30 rfl _ _ rfl rfl _ _ HR1.out ?_)
      refine (frame_any w3 A3 c3 r1 O3.out.bs HL1.out).mono ?_
      rintro e w4 ⟨A4, c4, rfl, ho4, hb4⟩
      rw [← HF1.out] at ho4
      have E1 : (frameB r1).length = f1.length := by rw [HF1.out]
      rw [E1]
      have O4 := Lib.hid ho4
      have B4 := Lib.hid (below_trans' B3.out hb4)
      have O40 := Lib.hid (O30.out.bel hb4)
      clear ho4 hb4 E1
      obtain ⟨A5, c5, w5, h1, h2, h3⟩ := append_b w4 w.heap.size A2 c2 acc O40.out B4.out.size A4 f1.length c4 f1 O4.out.bs (by have := HLA.out; have := HLF.out; omega) 30 r2 (by rw [HF1.out]; exact HR2.out)
      rw [← HAK.out] at h1
      have HR5 := Lib.hid h1
      have O5 := Lib.hid h2
      have B5 := Lib.hid (B4.out.trans h3)
      clear h1 h2 h3
      go_wp2_with (at_builtin; refine wpl_append_run rfl _ _ 30 rfl _ _ rfl rfl _ _ HR5.out ?_)
      refine ⟨⟨_, _, _, rem.drop P, A5, c5, _, r2, rfl, rfl, HDL, Lib.hid rfl, HBT, Lib.hid (by have := hC.out; omega), O5, B5, HEQ, Lib.hid (by have := hL.out; omega)⟩, ?_⟩
      show m - P < m
      have := HX.out
      have := HP.out
      omega
end Go.Proofs.YteihedfmmiihiaaGreat
