/- DiskLasts: the walk. -/
import Derived.Test.YtoljnklceghcdaaDkLasts
namespace Go.Proofs.Ytoljnklceghcdaa
open Go.RowKit Go.Maps Go.Sort Go.Shelf
variable {Xs : Nat → Prop}

set_option maxRecDepth 20000 in
set_option maxHeartbeats 8000000 in
theorem lasts_in (w : World) (a : Option Addr) (n c : Nat) (S : Nat → Stp) (h : Stps w a n S) (hn40 : n ≤ 40) : Calls Try.prog 3 #[.slice a n c] w fun e w' => e = .returned (.bool true) ∧ Below w.heap.size w w' := by
  have HS := Lib.hid h
  have HA := Lib.hid (awake_any w)
  have hn40' : ¬ 40 < n := by omega
  have hn41 : decide (40 < (n : Int)) = false := decide_eq_false (by omega)
  clear h
  go_enter Try.func3, Try.ntmps3
  go_upto_region 3 with (go_at_call 7; refine HA.out.mono ?_; rintro e w1 ⟨rfl, hb1⟩; have HB1 := Lib.hid hb1; clear hb1)
  have HL := Lib.hid (long_any w1 a n c S (HS.out.bel HB1.out))
  go_wp2_with (go_at_call 8; refine HL.out.mono ?_; rintro e w1' ⟨b, rfl, hb, rfl⟩; have HBL := Lib.hid hb; clear hb)
  · go_ret
    exact ⟨rfl, HB1.out⟩
  refine (newD (Xs := fun g => (Value.slice none 0 0).ownBlock = some g) w1').mono ?_
  rintro e w2 ⟨rfl, d2, b2⟩
  obtain ⟨hn80, hSd⟩ := HBL.out (by simpa using (by assumption : ¬ b = true))
  have HSD := Lib.hid hSd
  have hd0 : ∃ d, d = w1'.heap.size + 1 := ⟨_, rfl⟩
  obtain ⟨d, hd0⟩ := hd0
  obtain ⟨F, hF0⟩ : ∃ F, F = w1'.heap.size := ⟨_, rfl⟩
  rw [← hd0, ← hF0] at d2
  rw [← hd0]
  have hlo : w.heap.size ≤ d ∧ w.heap.size ≤ F := by have := HB1.out.size; omega
  have D2 := Lib.hid d2
  have B2 := Lib.hid (below_trans' HB1.out b2)
  have HP := Lib.hid (appendD w2 d F 0 s0 d2 kF none 0 0 [] (Bs.nil _) (by omega) (by simp [s0, pl]) (fun g hg => by simp [Value.ownBlock] at hg))
  rw [show apC s0 = 0 from rfl, show apS s0 kF [] = stF [] 0 by simp [apS, s0, lessF, pl, stF, pF]] at HP
  clear d2 b2 hSd hn80 hd0 hF0
  go_upto_region 10 with (go_at_call 10; refine HP.out.mono ?_; rintro e w3 ⟨rfl, s3, t3⟩; have S3 := Lib.hid s3; have T3 := Lib.hid t3; clear s3 t3)
  have hK : Below w.heap.size w w3 := (((Turns.of_below (S := fun g => w.heap.size ≤ g) B2.out).then (T3.out.mono (fun g _ e => by rcases e with e | e <;> (have := hlo; omega))))).below (Nat.le_refl _) (fun _ _ e => e)
  have HK := Lib.hid hK
  have hL0 : LaS w.heap.size d F w3 0 (.slice none 0 0) [] none 0 0 := ⟨S3.out, World.ownsRow_nil _ _ _ _, ⟨Bs.nil _, ⟨Nat.le_refl _, Nat.zero_le _⟩, fun ad e => by cases e⟩, Nat.le_refl _, Nat.zero_le _, hlo⟩
  have HL0 := Lib.hid hL0
  clear hK hL0 hlo
  generalize hH : w.heap.size = H at *
  have HH := Lib.hid hH
  clear hH
  go_wp2_with fail
  go_loopw [4, 5, 6] (fun sv av iv wr => ∃ (i : Nat) (A : Option Addr) (cA : Nat) (all : List UInt8) (sA : Option Addr) (sl sc : Nat), i ≤ n ∧ sv = .slice sA sl sc ∧ av = .slice A all.length cA ∧ iv = .int .i64 (i : Int) ∧ Hid (LaS H d F wr i (.slice A all.length cA) all sA sl sc) ∧ Hid (Below H w wr)) (fun _ _ iv _ => n - (intOf iv).toNat)
  case atStart => exact ⟨0, none, 0, [], none, 0, 0, by omega, rfl, rfl, rfl, HL0, HK⟩
  case round =>
    obtain ⟨i, A, cA, all, sA, sl, sc, hi, rfl, rfl, rfl, HLa, HBe⟩ := hrel
    by_cases hlt : i < n
    · have hlt1 : (i : Int) < (n : Int) := by omega
      obtain ⟨b, o, rfl, hbl, c0, c1, c2, c3, c4, c5⟩ := (HS.out.bel (by rw [HH.out]; exact HBe.out)).cell i hlt
      have KW : Hid (Blk (wr.alloc (.cells #[.int .u8 (S i).d, .string (S i).name, .string (S i).to_, .slice (S i).dA (S i).dn (S i).dc, .int .i64 (S i).num, .slice (S i).kA (S i).kn (S i).kc] 32)) wr.heap.size 32 [.int .u8 (S i).d, .string (S i).name, .string (S i).to_, .slice (S i).dA (S i).dn (S i).dc, .int .i64 (S i).num, .slice (S i).kA (S i).kn (S i).kc]) := Lib.hid (Blk.new wr 32 [.int .u8 (S i).d, .string (S i).name, .string (S i).to_, .slice (S i).dA (S i).dn (S i).dc, .int .i64 (S i).num, .slice (S i).kA (S i).kn (S i).kc])
      have TW : Hid (Turns (fun _ => False) wr (wr.alloc (.cells #[.int .u8 (S i).d, .string (S i).name, .string (S i).to_, .slice (S i).dA (S i).dn (S i).dc, .int .i64 (S i).num, .slice (S i).kA (S i).kn (S i).kc] 32))) := Lib.hid (.of_below (Below.new wr (.cells #[.int .u8 (S i).d, .string (S i).name, .string (S i).to_, .slice (S i).dA (S i).dn (S i).dc, .int .i64 (S i).num, .slice (S i).kA (S i).kn (S i).kc] 32)))
      have LW : Hid (LaS H d F (wr.alloc (.cells #[.int .u8 (S i).d, .string (S i).name, .string (S i).to_, .slice (S i).dA (S i).dn (S i).dc, .int .i64 (S i).num, .slice (S i).kA (S i).kn (S i).kc] 32)) i (.slice A all.length cA) all sA sl sc) := Lib.hid (HLa.out.bel (Below.new wr (.cells #[.int .u8 (S i).d, .string (S i).name, .string (S i).to_, .slice (S i).dA (S i).dn (S i).dc, .int .i64 (S i).num, .slice (S i).kA (S i).kn (S i).kc] 32)))
      obtain ⟨hbs, hdc, hdm⟩ := HS.out.data i hlt
      have HBs := Lib.hid hbs
      obtain ⟨hks, hkc, hkm⟩ := HS.out.keep i hlt
      have HKs := Lib.hid hks
      have hnum := (HS.out.num i hlt).1
      have hdl := (HSD.out i hlt).1
      have hfew := HLa.out.few
      have hdF := HLa.out.ds.lts
      have HLT := Lib.hid HLa.out.lt
      unfold maxLen at hdm hkm
      clear hbs hks
      go_upto_region 14 with (fail)
      generalize wr.alloc (.cells #[.int .u8 (S i).d, .string (S i).name, .string (S i).to_, .slice (S i).dA (S i).dn (S i).dc, .int .i64 (S i).num, .slice (S i).kA (S i).kn (S i).kc] 32) = W at *
      generalize wr.heap.size = g at *
      clear c0 c1 c2 c3 c4 c5
      have hwW : Below H w W := ((Turns.of_below (S := fun r => H ≤ r) (by rw [HH.out]; exact HBe.out)).then (TW.out.mono (fun _ _ e => e.elim))).below (by rw [HH.out]; exact Nat.le_refl _) (fun _ _ e => e)
      have HBW := Lib.hid hwW
      have HBsW := Lib.hid (HBs.out.below (by rw [HH.out]; exact hwW))
      clear hwW
      have HP := Lib.hid (appendD W d F (i + 1) (stF all sl) LW.out.ds kF (S i).dA (S i).dn (S i).dc (S i).data HBsW.out hdc (by have e := pF_pl all sl; show (pl (pF all sl) kF).1.length + _ ≤ _; rw [e]; simp only; omega) LW.out.lt)
      rw [apC_F, ap_F] at HP
      have k3 := KW.out.cell 3
      simp only [List.getElem?_cons_succ, List.getElem?_cons_zero] at k3
      go_upto_region 16 with (go_at_call 10; refine HP.out.mono ?_; rintro e W2 ⟨rfl, s4, t4⟩; have S4 := Lib.hid s4; have T4 := Lib.hid t4; clear s4 t4)
      have hgl : ∀ r, (Value.slice A all.length cA).ownBlock = some r → r < g := HLT.out
      have K2 := Lib.hid (KW.out.turns T4.out (by unfold DSet; omega))
      have hB0 : ∀ ad, (S i).dA = some ad → 0 < (S i).data.length → ad.block < H := fun ad e h0 => by
        obtain ⟨ad', e', hlt', _⟩ := HBs.out.cell 0 h0
        obtain rfl : ad' = ad := Option.some.inj (e'.symm.trans e)
        rw [HH.out] at hlt'
        exact hlt'
      obtain ⟨A', c', W3, hrun, l3, t3⟩ := lasA LW.out (by omega) (S i).dA (S i).dn (S i).dc (S i).data HBsW.out hB0 hdl S4.out T4.out 29
      have HR := Lib.hid hrun
      have L3 := Lib.hid l3
      have T3' := Lib.hid t3
      have K3 := Lib.hid (K2.out.turns t3 (fun e => by have := hgl _ e; omega))
      have BW3 : Hid (Below H w W3) := Lib.hid ((((Turns.of_below (S := fun r => H ≤ r) (by rw [HH.out]; exact HBW.out)).then (T4.out.mono (fun r _ e => by have := HLa.out.lo; rcases e with e | e <;> omega))).then (t3.mono (fun r _ e => by
        rcases HLa.out.row.2 with ⟨e1, _⟩ | ⟨g', cap, cur, e1, h3, _⟩
        · rw [e1] at e; simp [Value.ownBlock] at e
        · rw [e1] at e; simp [Value.ownBlock] at e; omega))).below (by rw [HH.out]; exact Nat.le_refl _) (fun _ _ e => e))
      have k3 := K2.out.cell 3
      simp only [List.getElem?_cons_succ, List.getElem?_cons_zero] at k3
      clear hrun l3 t3 hB0
      generalize all ++ (S i).data = al at *
      go_upto_region 17 with (at_builtin; refine wpl_append_run rfl _ _ 29 rfl _ _ rfl rfl _ _ HR.out ?_)
      clear k3
      have k0 := K3.out.cell 0
      have k5 := K3.out.cell 5
      simp only [List.getElem?_cons_succ, List.getElem?_cons_zero] at k0 k5
      by_cases hm1 : ((S i).d % 3 == 1) = true
      · have hm2 : ((S i).d % 3 == 2) = false := by
          rw [beq_iff_eq] at hm1
          rw [beq_eq_false_iff_ne]
          omega
        have HSy := Lib.hid (syncD W3 d F (i + 1 + 1) (stF al sl) L3.out.ds kF)
        rw [chC_F, sy_F] at HSy
        go_upto_region 20 with (go_at_call 11; refine HSy.out.mono ?_; rintro e W4 ⟨rfl, s4, t4⟩; have S4' := Lib.hid s4; have T4' := Lib.hid t4; clear s4 t4)
        have hr4 := row_dF L3.out.ds L3.out.row T4'.out
        have hfw := L3.out.few
        obtain ⟨cS, W5, hcv, l5, b5⟩ := lasS S4'.out hr4 L3.out.lo hfw (by omega)
        have q0 := run_conv_bs (P := Try.prog) (Bs.of_own hr4 rfl) 29 9 5 Try.underlying29 Try.underlying5 Try.underlying9 c'
        have HCv := Lib.hid hcv
        have L5 := Lib.hid l5
        have K5 := Lib.hid ((K3.out.turns T4'.out (by unfold DSet; omega)).bel b5)
        have B5 : Hid (Below H w W5) := Lib.hid (((((Turns.of_below (S := fun r => H ≤ r) (by rw [HH.out]; exact BW3.out)).then (T4'.out.mono (fun r _ e => by have := HLa.out.lo; rcases e with e | e <;> omega))).then (.of_below b5))).below (by rw [HH.out]; exact Nat.le_refl _) (fun _ _ e => e))
        clear hcv l5 b5 hr4 hfw
        generalize W4.heap.size = gS at *
        go_upto_region 21 with (refine wpl_conv_run rfl 9 29 _ rfl _ rfl _ _ HCv.out ?_)
        clear q0 k0
        have k0 := K5.out.cell 0
        simp only [List.getElem?_cons_succ, List.getElem?_cons_zero] at k0
        go_upto_region 29 with (fail)
        have hlx := L5.out.few
        have HRd := Lib.hid (readOk _ d F (i + 1 + 1) (stF al al.length) L5.out.ds kF al al.length rfl (pF_is al al.length) (by omega))
        go_upto_region 30 with (go_at_call 13; refine HRd.out.mono ?_; rintro e W6 ⟨A6, c6, rfl, hb6, ho6⟩; have HO6 := Lib.hid ho6; have HB6 := Lib.hid hb6; clear hb6 ho6)
        have l6 := L5.out.bel HB6.out
        have L6 := Lib.hid l6
        have hcap6 := own_caps HO6.out
        have hbs6 := Bs.of_own HO6.out rfl
        have q1 := run_conv_bs (P := Try.prog) hbs6 29 9 5 Try.underlying29 Try.underlying5 Try.underlying9 c6
        have q2 := run_conv_bs (P := Try.prog) (Bs.of_own l6.row rfl) 29 9 5 Try.underlying29 Try.underlying5 Try.underlying9 c'
        unfold strV at q1 q2
        have HBg := Lib.hid (begins_yes W6 A6 _ c6 al hbs6 hcap6.1 hcap6.2 (some ⟨gS, 0, none⟩) al.length cS (al.take al.length) l6.sure.bs (by have := l6.le; rw [List.length_take]; exact ⟨by omega, by rw [Nat.min_eq_left this]⟩) (fun _ _ _ => trivial))
        have hle6 := l6.le
        clear hbs6 l6
        go_wp2_with (first | (go_at_call 14; refine HBg.out.mono ?_; rintro e W7 ⟨rfl, hb7⟩; have HB7 := Lib.hid hb7; have HWt := Lib.hid (waitsD W7 d F (i + 1 + 1) false (-1) (pF al al.length) (L6.out.bel hb7).ds kF); rw [pF_pl] at HWt; simp only at HWt; clear hb7) | (go_at_call 15; refine HWt.out.mono ?_; rintro e W8 ⟨rfl, hb8⟩; have HB8 := Lib.hid hb8; clear hb8))
        have hfin := (L6.out.bel HB7.out).bel HB8.out
        have HFin := Lib.hid hfin
        have hBf : Below H w W8 := by
          have h1 := B5.out
          rw [← HH.out] at h1 ⊢
          exact below_trans' (below_trans' (below_trans' h1 HB6.out) HB7.out) HB8.out
        have HBf := Lib.hid hBf
        clear hfin hBf q1 q2
        go_roundw
        case measure => simp only [intOf]; omega
        case rel => first | exact ⟨i + 1, A', c', al, (some ⟨gS, 0, none⟩), al.length, cS, by omega, rfl, rfl, by go_num, HFin, HBf⟩ | ((repeat apply Exists.intro); exact ⟨⟨i + 1, A', c', al, (some ⟨gS, 0, none⟩), al.length, cS, by omega, rfl, rfl, by go_num, HFin, HBf⟩, rfl⟩)
      · rw [Bool.not_eq_true] at hm1
        by_cases hm2 : ((S i).d % 3 == 2) = true
        · have hkb : ∀ b o, (S i).kA = some (⟨b, o, none⟩ : Addr) → 0 < (S i).kn → b ≠ d := fun b o e h0 => by
            obtain ⟨b', o', e', hlt', _⟩ := HKs.out.cell 0 h0
            rw [e] at e'
            injection e' with e'
            injection e' with e1 _ _
            have := HLa.out.lo
            have := HH.out
            omega
          have hkw : KeepR W3 (S i).kA (S i).kn (S i).z := HKs.out.turns (.of_below (S := fun _ => False) (by rw [HH.out]; exact BW3.out)) (fun _ _ _ _ => id)
          have HKW := Lib.hid hkw
          have hle3 := L3.out.le
          have hfw := L3.out.few
          have HCr := Lib.hid (crashD W3 d F (i + 1 + 1) (stF al sl) L3.out.ds (by omega) (S i).kA (S i).kn (S i).kc (S i).z hkw hkb (by unfold maxLen; omega) (stF_short _ _ _ (by omega)))
          clear hkw hkb
          obtain ⟨K, hK⟩ : ∃ K, K = more (S i).kn (S i).z 0 (al.length - sl) := ⟨_, rfl⟩
          have hKl : K ≤ al.length - sl := by rw [hK]; exact more_le _ _ _ _
          have HKq := Lib.hid hK
          by_cases hk0 : 0 < (S i).kn
          · obtain ⟨b9, o9, hkA, hb9, hc9⟩ := HKW.out.cell 0 hk0
            have hn9 := HKW.out.num 0 hk0
            have hKv : max 0 (min ((S i).z 0) ((al.length : Int) - (sl : Int))) = (K : Int) := by
              rw [hK]
              unfold more
              rw [if_pos hk0]
              split
              · omega
              · split <;> omega
            clear hK
            rw [Nat.add_zero] at hc9
            rw [hkA] at k5 HCr
            have hk1 : 0 < ((S i).kn : Int) := by omega
            have HKv := Lib.hid hKv
            clear hKv
            go_upto_region 25 with (fail)
            rw [HKv.out]
            go_upto_region 27 with (go_at_call 12; refine HCr.out.mono ?_; rintro e W4 ⟨rfl, ks, hks, s4, t4⟩; have hkeq := hks.one (pF_keys al sl); have S4' := Lib.hid s4; have T4' := Lib.hid t4; have HKeq := Lib.hid hkeq; clear s4 t4 hks hkeq)
            have hs4 := S4'.out
            rw [HKeq.out, show (stF al sl).p = pF al sl from rfl, crash_F al sl hle3, ← HKq.out] at hs4
            have hr4 := own_cut (m := sl + K) (row_dF L3.out.ds L3.out.row T4'.out) (by omega)
            have hlen : (al.take (sl + K)).length = sl + K := by rw [List.length_take]; omega
            have e5 : ((sl : Int) + (K : Int)) = ((sl + K : Nat) : Int) := by omega
            have hcap := own_caps L3.out.row
            have hcap1 : ((sl + K : Nat) : Int) ≤ (c' : Int) := by omega
            have hcap2 := hcap.2
            unfold maxLen at hcap2
            have hd4 : DS (fun r => (Value.slice A' (al.take (sl + K)).length c').ownBlock = some r) W4 d F false (-1) (pF (al.take (sl + K)) (al.take (sl + K)).length) (i + 1 + 1) := by
              rw [hlen]
              exact hs4.avoid (fun j _ e => by cases A' <;> exact e)
            have hr5 : W4.ownsRow H 5 1 (.slice A' (al.take (sl + K)).length c') (al.take (sl + K)).length (Cd.bytesV (al.take (sl + K))) := by
              rw [hlen]
              exact hr4
            obtain ⟨cS, W5, hcv, l5, b5⟩ := lasS hd4 hr5 L3.out.lo (by rw [hlen]; omega) (by omega)
            have q0 := run_conv_bs (P := Try.prog) (Bs.of_own hr5 rfl) 29 9 5 Try.underlying29 Try.underlying5 Try.underlying9 c'
            have HCv := Lib.hid hcv
            have L5 := Lib.hid l5
            have B5 : Hid (Below H w W5) := Lib.hid (((((Turns.of_below (S := fun r => H ≤ r) (by rw [HH.out]; exact BW3.out)).then (T4'.out.mono (fun r _ e => by have := HLa.out.lo; rcases e with e | e <;> omega))).then (.of_below b5))).below (by rw [HH.out]; exact Nat.le_refl _) (fun _ _ e => e))
            have Hlen := Lib.hid hlen
            have ham : (al.take (sl + K)).length ≤ 1000000 := by rw [hlen]; omega
            clear hcv l5 b5 hr4 hr5 hd4 hs4 hfw hcap hcap2 hlen
            generalize al.take (sl + K) = am at *
            rw [← Hlen.out] at e5 hcap1
            go_upto_region 28 with (fail)
            clear e5 hcap1 ham
            go_upto_region 29 with (refine wpl_conv_run rfl 9 29 _ rfl _ rfl _ _ HCv.out ?_)
            clear q0
            generalize W4.heap.size = gS at *
            have hlx := L5.out.few
            have HRd := Lib.hid (readOk _ d F (i + 1 + 1) (stF am am.length) L5.out.ds kF am am.length rfl (pF_is am am.length) (by omega))
            go_upto_region 30 with (go_at_call 13; refine HRd.out.mono ?_; rintro e W6 ⟨A6, c6, rfl, hb6, ho6⟩; have HO6 := Lib.hid ho6; have HB6 := Lib.hid hb6; clear hb6 ho6)
            have l6 := L5.out.bel HB6.out
            have L6 := Lib.hid l6
            have hcap6 := own_caps HO6.out
            have hbs6 := Bs.of_own HO6.out rfl
            have q1 := run_conv_bs (P := Try.prog) hbs6 29 9 5 Try.underlying29 Try.underlying5 Try.underlying9 c6
            have q2 := run_conv_bs (P := Try.prog) (Bs.of_own l6.row rfl) 29 9 5 Try.underlying29 Try.underlying5 Try.underlying9 c'
            unfold strV at q1 q2
            have HBg := Lib.hid (begins_yes W6 A6 _ c6 am hbs6 hcap6.1 hcap6.2 (some ⟨gS, 0, none⟩) am.length cS (am.take am.length) l6.sure.bs (by have := l6.le; rw [List.length_take]; exact ⟨by omega, by rw [Nat.min_eq_left this]⟩) (fun _ _ _ => trivial))
            have hle6 := l6.le
            clear hbs6 l6
            go_wp2_with (first | (go_at_call 14; refine HBg.out.mono ?_; rintro e W7 ⟨rfl, hb7⟩; have HB7 := Lib.hid hb7; have HWt := Lib.hid (waitsD W7 d F (i + 1 + 1) false (-1) (pF am am.length) (L6.out.bel hb7).ds kF); rw [pF_pl] at HWt; simp only at HWt; clear hb7) | (go_at_call 15; refine HWt.out.mono ?_; rintro e W8 ⟨rfl, hb8⟩; have HB8 := Lib.hid hb8; clear hb8))
            have hfin := (L6.out.bel HB7.out).bel HB8.out
            have HFin := Lib.hid hfin
            have hBf : Below H w W8 := by
              have h1 := B5.out
              rw [← HH.out] at h1 ⊢
              exact below_trans' (below_trans' (below_trans' h1 HB6.out) HB7.out) HB8.out
            have HBf := Lib.hid hBf
            clear hfin hBf q1 q2
            go_roundw
            case measure => simp only [intOf]; omega
            case rel => first | exact ⟨i + 1, A', c', am, (some ⟨gS, 0, none⟩), am.length, cS, by omega, rfl, rfl, by go_num, HFin, HBf⟩ | ((repeat apply Exists.intro); exact ⟨⟨i + 1, A', c', am, (some ⟨gS, 0, none⟩), am.length, cS, by omega, rfl, rfl, by go_num, HFin, HBf⟩, rfl⟩)
          · have hk1 : ¬ 0 < ((S i).kn : Int) := by omega
            have hK0 : K = 0 := by rw [hK]; unfold more; rw [if_neg hk0]
            clear hK
            go_upto_region 27 with (go_at_call 12; refine HCr.out.mono ?_; rintro e W4 ⟨rfl, ks, hks, s4, t4⟩; have hkeq := hks.one (pF_keys al sl); have S4' := Lib.hid s4; have T4' := Lib.hid t4; have HKeq := Lib.hid hkeq; clear s4 t4 hks hkeq)
            have hs4 := S4'.out
            rw [HKeq.out, show (stF al sl).p = pF al sl from rfl, crash_F al sl hle3, ← HKq.out] at hs4
            have hr4 := own_cut (m := sl + K) (row_dF L3.out.ds L3.out.row T4'.out) (by omega)
            have hlen : (al.take (sl + K)).length = sl + K := by rw [List.length_take]; omega
            have e5 : (sl : Int) = ((sl + K : Nat) : Int) := by omega
            have hcap := own_caps L3.out.row
            have hcap1 : ((sl + K : Nat) : Int) ≤ (c' : Int) := by omega
            have hcap2 := hcap.2
            unfold maxLen at hcap2
            have hd4 : DS (fun r => (Value.slice A' (al.take (sl + K)).length c').ownBlock = some r) W4 d F false (-1) (pF (al.take (sl + K)) (al.take (sl + K)).length) (i + 1 + 1) := by
              rw [hlen]
              exact hs4.avoid (fun j _ e => by cases A' <;> exact e)
            have hr5 : W4.ownsRow H 5 1 (.slice A' (al.take (sl + K)).length c') (al.take (sl + K)).length (Cd.bytesV (al.take (sl + K))) := by
              rw [hlen]
              exact hr4
            obtain ⟨cS, W5, hcv, l5, b5⟩ := lasS hd4 hr5 L3.out.lo (by rw [hlen]; omega) (by omega)
            have q0 := run_conv_bs (P := Try.prog) (Bs.of_own hr5 rfl) 29 9 5 Try.underlying29 Try.underlying5 Try.underlying9 c'
            have HCv := Lib.hid hcv
            have L5 := Lib.hid l5
            have B5 : Hid (Below H w W5) := Lib.hid (((((Turns.of_below (S := fun r => H ≤ r) (by rw [HH.out]; exact BW3.out)).then (T4'.out.mono (fun r _ e => by have := HLa.out.lo; rcases e with e | e <;> omega))).then (.of_below b5))).below (by rw [HH.out]; exact Nat.le_refl _) (fun _ _ e => e))
            have Hlen := Lib.hid hlen
            have ham : (al.take (sl + K)).length ≤ 1000000 := by rw [hlen]; omega
            clear hcv l5 b5 hr4 hr5 hd4 hs4 hfw hcap hcap2 hlen
            generalize al.take (sl + K) = am at *
            rw [← Hlen.out] at e5 hcap1
            go_upto_region 28 with (fail)
            clear e5 hcap1 ham
            go_upto_region 29 with (refine wpl_conv_run rfl 9 29 _ rfl _ rfl _ _ HCv.out ?_)
            clear q0
            generalize W4.heap.size = gS at *
            have hlx := L5.out.few
            have HRd := Lib.hid (readOk _ d F (i + 1 + 1) (stF am am.length) L5.out.ds kF am am.length rfl (pF_is am am.length) (by omega))
            go_upto_region 30 with (go_at_call 13; refine HRd.out.mono ?_; rintro e W6 ⟨A6, c6, rfl, hb6, ho6⟩; have HO6 := Lib.hid ho6; have HB6 := Lib.hid hb6; clear hb6 ho6)
            have l6 := L5.out.bel HB6.out
            have L6 := Lib.hid l6
            have hcap6 := own_caps HO6.out
            have hbs6 := Bs.of_own HO6.out rfl
            have q1 := run_conv_bs (P := Try.prog) hbs6 29 9 5 Try.underlying29 Try.underlying5 Try.underlying9 c6
            have q2 := run_conv_bs (P := Try.prog) (Bs.of_own l6.row rfl) 29 9 5 Try.underlying29 Try.underlying5 Try.underlying9 c'
            unfold strV at q1 q2
            have HBg := Lib.hid (begins_yes W6 A6 _ c6 am hbs6 hcap6.1 hcap6.2 (some ⟨gS, 0, none⟩) am.length cS (am.take am.length) l6.sure.bs (by have := l6.le; rw [List.length_take]; exact ⟨by omega, by rw [Nat.min_eq_left this]⟩) (fun _ _ _ => trivial))
            have hle6 := l6.le
            clear hbs6 l6
            go_wp2_with (first | (go_at_call 14; refine HBg.out.mono ?_; rintro e W7 ⟨rfl, hb7⟩; have HB7 := Lib.hid hb7; have HWt := Lib.hid (waitsD W7 d F (i + 1 + 1) false (-1) (pF am am.length) (L6.out.bel hb7).ds kF); rw [pF_pl] at HWt; simp only at HWt; clear hb7) | (go_at_call 15; refine HWt.out.mono ?_; rintro e W8 ⟨rfl, hb8⟩; have HB8 := Lib.hid hb8; clear hb8))
            have hfin := (L6.out.bel HB7.out).bel HB8.out
            have HFin := Lib.hid hfin
            have hBf : Below H w W8 := by
              have h1 := B5.out
              rw [← HH.out] at h1 ⊢
              exact below_trans' (below_trans' (below_trans' h1 HB6.out) HB7.out) HB8.out
            have HBf := Lib.hid hBf
            clear hfin hBf q1 q2
            go_roundw
            case measure => simp only [intOf]; omega
            case rel => first | exact ⟨i + 1, A', c', am, (some ⟨gS, 0, none⟩), am.length, cS, by omega, rfl, rfl, by go_num, HFin, HBf⟩ | ((repeat apply Exists.intro); exact ⟨⟨i + 1, A', c', am, (some ⟨gS, 0, none⟩), am.length, cS, by omega, rfl, rfl, by go_num, HFin, HBf⟩, rfl⟩)
        · rw [Bool.not_eq_true] at hm2
          go_upto_region 29 with (fail)
          have hlx := L3.out.few
          have HRd := Lib.hid (readOk _ d F (i + 1 + 1) (stF al sl) L3.out.ds kF al sl rfl (pF_is al sl) (by omega))
          go_upto_region 30 with (go_at_call 13; refine HRd.out.mono ?_; rintro e W6 ⟨A6, c6, rfl, hb6, ho6⟩; have HO6 := Lib.hid ho6; have HB6 := Lib.hid hb6; clear hb6 ho6)
          have l6 := L3.out.bel HB6.out
          have L6 := Lib.hid l6
          have hcap6 := own_caps HO6.out
          have hbs6 := Bs.of_own HO6.out rfl
          have q1 := run_conv_bs (P := Try.prog) hbs6 29 9 5 Try.underlying29 Try.underlying5 Try.underlying9 c6
          have q2 := run_conv_bs (P := Try.prog) (Bs.of_own l6.row rfl) 29 9 5 Try.underlying29 Try.underlying5 Try.underlying9 c'
          unfold strV at q1 q2
          have HBg := Lib.hid (begins_yes W6 A6 _ c6 al hbs6 hcap6.1 hcap6.2 sA sl sc (al.take sl) l6.sure.bs (by have := l6.le; rw [List.length_take]; exact ⟨by omega, by rw [Nat.min_eq_left this]⟩) (fun _ _ _ => trivial))
          have hle6 := l6.le
          clear hbs6 l6
          go_wp2_with (first | (go_at_call 14; refine HBg.out.mono ?_; rintro e W7 ⟨rfl, hb7⟩; have HB7 := Lib.hid hb7; have HWt := Lib.hid (waitsD W7 d F (i + 1 + 1) false (-1) (pF al sl) (L6.out.bel hb7).ds kF); rw [pF_pl] at HWt; simp only at HWt; clear hb7) | (go_at_call 15; refine HWt.out.mono ?_; rintro e W8 ⟨rfl, hb8⟩; have HB8 := Lib.hid hb8; clear hb8))
          have hfin := (L6.out.bel HB7.out).bel HB8.out
          have HFin := Lib.hid hfin
          have hBf : Below H w W8 := by
            have h1 := BW3.out
            rw [← HH.out] at h1 ⊢
            exact below_trans' (below_trans' (below_trans' h1 HB6.out) HB7.out) HB8.out
          have HBf := Lib.hid hBf
          clear hfin hBf q1 q2
          go_roundw
          case measure => simp only [intOf]; omega
          case rel => first | exact ⟨i + 1, A', c', al, sA, sl, sc, by omega, rfl, rfl, by go_num, HFin, HBf⟩ | ((repeat apply Exists.intro); exact ⟨⟨i + 1, A', c', al, sA, sl, sc, by omega, rfl, rfl, by go_num, HFin, HBf⟩, rfl⟩)
    · obtain rfl : i = n := by omega
      have hlt1 : ¬ (i : Int) < (i : Int) := by omega
      go_wp2_with fail
      go_ret
      exact ⟨rfl, by rw [HH.out]; exact HBe.out⟩
end Go.Proofs.Ytoljnklceghcdaa
