/- wal: Keep, where it may. -/
import Derived.Test.YteihedfmmiihiaaGreatWmI
namespace Go.Proofs.YteihedfmmiihiaaGreat
open Go.RowKit
variable {Xs : Nat → Prop}

theorem turns_set4 (W : World) (g : Nat) (u1 u2 u3 : Value) : Turns (fun i => i = g) W (((W.setCell ⟨g, 1, none⟩ u1).setCell ⟨g, 2, none⟩ u2).setCell ⟨g, 3, none⟩ u3) :=
  Turns.set (S := fun i => i = g) (Turns.set (S := fun i => i = g) (Turns.of_set (S := fun i => i = g) W ⟨g, 1, none⟩ u1 rfl) ⟨g, 2, none⟩ u2 (fun _ => rfl)) ⟨g, 3, none⟩ u3 (fun _ => rfl)
set_option maxRecDepth 20000 in
set_option maxHeartbeats 4000000 in
theorem keep_ok (w : World) (d F N wl : Nat) (dk : Dk) (hd : dk.Is Xs w d F N) (hoff : dk.off = false) (hxs : ∀ g, Xs g → g < w.heap.size) (old : Sv) (A0 : Option Addr) (c0 size : Nat) (hb : Blk w wl 41 (walC d old.term old.vote (.slice A0 old.log.length c0) false size)) (hl0 : Lg w A0 old.log.length c0 old.log) (hold : old.log.length ≤ 4096)
    (hsz : size ≤ 90000000 ∧ (pl dk.p kW).1.length = size) (A : Option Addr) (n c : Nat) (s : Sv) (hl : Lg w A n c s.log) (hs : SvOk s) (hwt : wt s ≤ 4000000)
    (rc : Int) (rd : Dk) (hr : keepR dk old s size = (rc, rd)) (sz2 : Nat) (hs2 : keepN old s size = sz2) :
    Calls Tryz.prog 12 #[.pointer (some ⟨wl, 0, none⟩), svV s.term s.vote A n c] w fun e w' => KeepY Xs w d F N wl old s A0 c0 size e w' rc rd sz2 := by
  have B0 := Lib.hid (Below.new w (.cells #[.int .i64 s.term, .int .i64 s.vote, .slice A n c] 27))
  have K0 := Lib.hid (Blk.new w 27 [.int .i64 s.term, .int .i64 s.vote, .slice A n c])
  have HM := may_any _ A n c s (hl.bel B0.out)
  rw [(mayB_iff s).2 hs] at HM
  unfold svV at HM ⊢
  have HM := Lib.hid HM
  have HW := Lib.hid (hb.bel B0.out)
  have HD := Lib.hid (DS.bel hd B0.out)
  have HL := Lib.hid (hl.bel B0.out)
  have HL0 := Lib.hid (hl0.bel B0.out)
  have HN := Lib.hid hl.len
  have HS := Lib.hid hs
  have HWT := Lib.hid hwt
  have HSZ := Lib.hid hsz
  have HOLD := Lib.hid hold
  have HXS := Lib.hid hxs
  have HR := Lib.hid hr
  have HS2 := Lib.hid hs2
  have HOFF := Lib.hid hoff
  obtain ⟨n0, hn0⟩ : ∃ m, old.log.length = m := ⟨_, rfl⟩
  have HN0 := Lib.hid hn0
  rw [hn0] at HW HL0
  have hwl := hb.lt
  have hdl := hd.lts
  obtain ⟨r1, hr1⟩ : ∃ r, r = recB old s := ⟨_, rfl⟩
  obtain ⟨r2, hr2⟩ : ∃ r, r = recB none0 s := ⟨_, rfl⟩
  obtain ⟨B1, hB1⟩ : ∃ r, r = runB r1 := ⟨_, rfl⟩
  obtain ⟨B2, hB2⟩ : ∃ r, r = runB r2 := ⟨_, rfl⟩
  have hrl1 : r1.length ≤ 50000000 := by rw [hr1]; have := recB_len old s hs; omega
  have hrl2 : r2.length ≤ 50000000 := by rw [hr2]; have := recB_len none0 s hs; omega
  have hbl1 : B1.length ≤ 9000000 := by rw [hB1, hr1]; have := run_len old s hs; omega
  have hbl2 : B2.length ≤ 9000000 := by rw [hB2, hr2]; have := run_len none0 s hs; omega
  have HFU : Hid (full s = B2.length) := Lib.hid (by rw [hB2, hr2]; rfl)
  have R1 := Lib.hid hr1
  have R2 := Lib.hid hr2
  have RB1 := Lib.hid hB1
  have RB2 := Lib.hid hB2
  have RL1 := Lib.hid hrl1
  have RL2 := Lib.hid hrl2
  have BL1 := Lib.hid hbl1
  have BL2 := Lib.hid hbl2
  clear hl hs hb hd hl0 hwt hsz hold hxs hr hs2 hoff hn0 hr1 hr2 hB1 hB2 hrl1 hrl2 hbl1 hbl2
  go_enter Tryz.func12, Tryz.ntmps12
  go_upto_region 1 with (fail)
  generalize w.alloc (.cells #[.int .i64 s.term, .int .i64 s.vote, .slice A n c] 27) = X at *
  obtain ⟨g, hg⟩ : ∃ g, w.heap.size = g := ⟨_, rfl⟩
  have HG := Lib.hid hg
  rw [hg] at K0 B0 hwl hdl ⊢
  have k0 : X.cell? ⟨g, 0, none⟩ = some (.int .i64 s.term) := K0.out.cell 0
  have k1 : X.cell? ⟨g, 1, none⟩ = some (.int .i64 s.vote) := K0.out.cell 1
  have k2 : X.cell? ⟨g, 2, none⟩ = some (.slice A n c) := K0.out.cell 2
  have w0 : X.cell? ⟨wl, 0, none⟩ = some (.pointer (some ⟨d, 0, none⟩)) := HW.out.cell 0
  clear hg
  go_wp2_with fail
  refine HM.out.mono ?_
  rintro e W ⟨rfl, hb2⟩
  have HXW := Lib.hid hb2
  have HB := Lib.hid (show Below g w W from B0.out.trans (hb2.mono (by have := K0.out.lt; omega)))
  clear hb2 k0 k1 k2 w0
  have KW0 := Lib.hid (K0.out.bel HXW.out)
  have NW := Lib.hid (HW.out.bel HXW.out)
  have ND := Lib.hid (DS.bel HD.out HXW.out)
  have w0 : W.cell? ⟨wl, 0, none⟩ = some (.pointer (some ⟨d, 0, none⟩)) := NW.out.cell 0
  have w5 : W.cell? ⟨wl, 5, none⟩ = some (.bool false) := NW.out.cell 5
  have HO := offD W d F N dk.off dk.fuse dk.p ND.out
  rw [HOFF.out] at HO
  have HO := Lib.hid HO
  go_wp2_with fail
  refine HO.out.mono ?_
  rintro e W2 ⟨rfl, rfl⟩
  go_upto_region 8 with (fail)
  clear w5 HO HM
  have w1 : W2.cell? ⟨wl, 1, none⟩ = some (.int .i64 old.term) := NW.out.cell 1
  have w2 : W2.cell? ⟨wl, 2, none⟩ = some (.int .i64 old.vote) := NW.out.cell 2
  have w3 : W2.cell? ⟨wl, 3, none⟩ = some (.slice A0 n0 c0) := NW.out.cell 3
  have k0 : W2.cell? ⟨g, 0, none⟩ = some (.int .i64 s.term) := KW0.out.cell 0
  have k1 : W2.cell? ⟨g, 1, none⟩ = some (.int .i64 s.vote) := KW0.out.cell 1
  have k2 : W2.cell? ⟨g, 2, none⟩ = some (.slice A n c) := KW0.out.cell 2
  have hdr := below_drewN' (Below.refl W2.heap.size W2) 1
  have HDR := Lib.hid hdr
  have NL := Lib.hid (HL.out.bel HXW.out)
  have NL0 := Lib.hid (HL0.out.bel HXW.out)
  have HRE := record_any W2.drew old s A0 A n0 c0 n c (NL0.out.bel hdr) (NL.out.bel hdr) HS.out HOLD.out r1 R1.out
  unfold svV at HRE
  have HRE := Lib.hid HRE
  clear hdr
  go_region_law (first | (go_simp; go_at_call 30; refine HRE.out.mono ?_; rintro e W3 ⟨A1, a1, rfl, ho3, hb3⟩; have O3 := Lib.hid ho3; have B3 := Lib.hid (below_trans' HDR.out hb3); have HRUN := Lib.hid (run_any W3 A1 a1 r1 ho3.bs ho3.cap.1 RL1.out); clear ho3 hb3) | (go_simp; go_at_call 29; refine HRUN.out.mono ?_; rintro e W4 ⟨A2, a2, rfl, ho4, hb4⟩; rw [← RB1.out] at ho4 ⊢; have O4 := Lib.hid ho4; have B4 := Lib.hid (below_trans' B3.out hb4); clear ho4 hb4))
  all_goals
    have HBW4 : Hid (Below g w W4) := Lib.hid (HB.out.trans (B4.out.mono (by have := HB.out.size; have := HG.out; omega)))
    have KW4 := Lib.hid (KW0.out.bel B4.out)
    have NL4 := Lib.hid (NL.out.bel B4.out)
    have k0' : W4.cell? ⟨g, 0, none⟩ = some (.int .i64 s.term) := KW4.out.cell 0
    have k1' : W4.cell? ⟨g, 1, none⟩ = some (.int .i64 s.vote) := KW4.out.cell 1
    have k2' : W4.cell? ⟨g, 2, none⟩ = some (.slice A n c) := KW4.out.cell 2
    have HRE2 := record_any W4 none0 s none A 0 0 n c (Lg.none _) NL4.out HS.out (by simp [none0]) r2 R2.out
    unfold svV none0 at HRE2
    have HRE2 := Lib.hid HRE2
    clear w0 w1 w2 w3 k0 k1 k2 HRE HRUN
    go_wp2_with fail
    refine HRE2.out.mono ?_
    rintro e W5 ⟨A5, a5, rfl, ho5, hb5⟩
    have O5 := Lib.hid ho5
    have B5 := Lib.hid hb5
    clear ho5 hb5 k0' k1' k2' HRE2
    go_wp2_with fail
    refine (run_any W5 A5 a5 r2 O5.out.bs O5.out.cap.1 RL2.out).mono ?_
    rintro e W6 ⟨A6, a6, rfl, ho6, hb6⟩
    rw [← RB2.out] at ho6 ⊢
    have B46 := Lib.hid (below_trans' B5.out hb6)
    have HBW6 : Hid (Below g w W6) := Lib.hid (HBW4.out.trans (B46.out.mono (by have := HBW4.out.size; have := HG.out; omega)))
    have KW6 := Lib.hid (KW4.out.bel B46.out)
    have NL6 := Lib.hid (NL4.out.bel B46.out)
    have B26 := Lib.hid (below_trans' B4.out B46.out)
    have NW6 : Hid (Blk W6 wl 41 (walC d old.term old.vote (.slice A0 n0 c0) false size)) := Lib.hid (NW.out.bel B26.out)
    have ND6 := Lib.hid (DS.bel ND.out B26.out)
    have NL06 := Lib.hid (NL0.out.bel B26.out)
    have RB6 := Lib.hid ((Rb.of_own O4.out).bel B46.out)
    have XS6 : Hid (∀ q, Xs q → q < W6.heap.size) := Lib.hid (fun q hq => by have h1 := HXS.out q hq; have h2 := HBW6.out.size; have := HG.out; omega)
    clear ho6 hb6
    have q1 : (size : Int) ≤ 90000000 := by have := HSZ.out.1; omega
    have q2 : (B1.length : Int) ≤ 9000000 := by have := BL1.out; omega
    have q3 : (B2.length : Int) ≤ 9000000 := by have := BL2.out; omega
    have v4 : W6.cell? ⟨wl, 4, none⟩ = some (.int .i64 (size : Int)) := NW6.out.cell 4
    have k0' : W6.cell? ⟨g, 0, none⟩ = some (.int .i64 s.term) := KW6.out.cell 0
    have k1' : W6.cell? ⟨g, 1, none⟩ = some (.int .i64 s.vote) := KW6.out.cell 1
    have k2' : W6.cell? ⟨g, 2, none⟩ = some (.slice A n c) := KW6.out.cell 2
    have hkR := HR.out
    have hkN := HS2.out
    unfold keepR at hkR
    unfold keepN at hkN
    rw [← R1.out, ← RB1.out, HFU.out] at hkR hkN
    by_cases hbig : 4096 + 2 * B2.length < size + B1.length
    · have hbigI : (4096 : Int) + 2 * (B2.length : Int) < (size : Int) + (B1.length : Int) := by omega
      rw [if_pos hbig] at hkR hkN
      have HAN := anew_any W6 d F N wl dk ND6.out XS6.out old.term old.vote (.slice A0 n0 c0) false size NW6.out A n c s NL6.out HS.out (by have := HWT.out; omega)
      rw [hkR, HFU.out, hkN] at HAN
      unfold svV WroteY at HAN
      dsimp only at HAN
      have HAN := Lib.hid HAN
      clear hkR hkN hbig
      go_wp2_with fail
      refine HAN.out.mono ?_
      rintro e W7 ⟨rfl, h1, h2, h3⟩
      have V1 := Lib.hid h1
      have V2 := Lib.hid h2
      have V3 := Lib.hid h3
      clear h1 h2 h3 HAN hbigI v4 k0' k1' k2' q1 q2 q3
      have L7 := Lib.hid (NL6.out.keep V3.out (fun q cs hq _ => en_far ND6.out NW6.out q ⟨cs, hq⟩))
      have K7 := Lib.hid (KW6.out.turns V3.out (by unfold AnS; omega))
      have TW : Hid (Turns (AnS d F wl) w W7) := Lib.hid ((Turns.of_below (S := AnS d F wl) (by rw [HG.out]; exact HBW6.out)).then V3.out)
      have hgW7 : Hid (g < W7.heap.size) := Lib.hid K7.out.lt
      by_cases hc : rc = 0
      · have V2b := V2.out
        rw [if_pos hc] at V2b
        have V2b := Lib.hid V2b
        have HCL := Lib.hid (clone_en W7 A n c s.log L7.out (by have := HS.out.log; omega))
        have k2 : W7.cell? ⟨g, 2, none⟩ = some (.slice A n c) := K7.out.cell 2
        go_wp2_with fail
        refine HCL.out.mono ?_
        rintro e W8 ⟨A8, c8, rfl, ho8, hb8⟩
        have O8 := Lib.hid ho8
        have B8 := Lib.hid hb8
        have K8 := Lib.hid (K7.out.bel hb8)
        have V8 := Lib.hid (V2b.out.bel hb8)
        clear ho8 hb8 k2
        have d0 : W8.cell? ⟨g, 0, none⟩ = some (.int .i64 s.term) := K8.out.cell 0
        have d1 : W8.cell? ⟨g, 1, none⟩ = some (.int .i64 s.vote) := K8.out.cell 1
        have d2 : W8.cell? ⟨g, 2, none⟩ = some (.slice A n c) := K8.out.cell 2
        have z2 := K8.out.fz 2
        have v1 : W8.cell? ⟨wl, 1, none⟩ = some (.int .i64 old.term) := V8.out.cell 1
        have v2 : W8.cell? ⟨wl, 2, none⟩ = some (.int .i64 old.vote) := V8.out.cell 2
        have v3 : W8.cell? ⟨wl, 3, none⟩ = some (.slice A0 n0 c0) := V8.out.cell 3
        have y1 := V8.out.fz 1
        have y2 := V8.out.fz 2
        have y3 := V8.out.fz 3
        go_wp2_with fail
        go_ret
        have TS := Turns.of_set (S := fun i => i = g ∨ i = wl) W8 ⟨g, 2, none⟩ (.slice A8 s.log.length c8) (.inl rfl)
        have T4 := (turns_set4 (W8.setCell ⟨g, 2, none⟩ (.slice A8 s.log.length c8)) wl (.int .i64 s.term) (.int .i64 s.vote) (.slice A8 s.log.length c8)).mono (T := fun i => i = g ∨ i = wl) (fun i _ e => .inr e)
        have T8 := TS.then T4
        have T78 := (Turns.of_below (S := fun i => i = g ∨ i = wl) B8.out).then T8
        have PK := (((V8.out.far (p := ⟨g, 2, none⟩) (show wl ≠ g by omega) (.slice A8 s.log.length c8)).set 1 (.int .i64 s.term)).set 2 (.int .i64 s.vote)).set 3 (.slice A8 s.log.length c8)
        refine ⟨by subst hc; rfl, DS.keep V1.out T78 (fun e => ?_) (fun e => ?_) (fun q cur hq _ e => ?_), TW.out.trans T78 (fun i hi e => ?_), .inl ⟨hc, A8, c8, PK, O8.out.lg.keep T8 (fun q cs hq _ e => ?_), fun q hq => ?_⟩⟩
        · rcases e with e | e
          · omega
          · have h1 := V2b.out; rw [← e] at h1; exact no_wal V1.out h1
        · rcases e with e | e
          · omega
          · have h1 := V2b.out; rw [← e] at h1; exact no_wal2 V1.out h1
        · rcases e with e | e
          · exact IsU8.ne ⟨cur, hq⟩ K7.out (by decide) e
          · exact IsU8.ne ⟨cur, hq⟩ V2b.out (by decide) e
        · rcases e with e | e
          · have := HG.out; omega
          · exact .inr (.inr e)
        · rcases e with e | e
          · exact IsEn.ne ⟨cs, hq⟩ K8.out (by decide) e
          · exact IsEn.ne ⟨cs, hq⟩ V8.out (by decide) e
        · have h1 := O8.out.ge q hq
          have h2 := hgW7.out
          have h3 := HG.out
          omega
      · have hb : (rc == 0) = false := by simpa using hc
        have hb' : (rc != 0) = true := by simp [hc]
        have V2b := V2.out
        rw [if_neg hc] at V2b
        have V2b := Lib.hid V2b
        have y5 := V2b.out.fz 5
        have v5 : W7.cell? ⟨wl, 5, none⟩ = some (.bool false) := V2b.out.cell 5
        go_wp2_with fail
        go_ret
        have T5 := Turns.of_set (S := fun i => i = wl) W7 ⟨wl, 5, none⟩ (.bool true) rfl
        refine ⟨rfl, DS.keep V1.out T5 (fun e => ?_) (fun e => ?_) (fun q cur hq _ e => IsU8.ne ⟨cur, hq⟩ V2b.out (by decide) e), TW.out.then (T5.mono (T := AnS d F wl) (fun i _ e => .inr (.inr e))), .inr ⟨hc, ?_⟩⟩
        · have h1 := V2b.out; rw [← e] at h1; exact no_wal V1.out h1
        · have h1 := V2b.out; rw [← e] at h1; exact no_wal2 V1.out h1
        · rw [HN0.out]; exact V2b.out.set 5 (.bool true)
    · have hbigI : ¬ (4096 : Int) + 2 * (B2.length : Int) < (size : Int) + (B1.length : Int) := by omega
      rw [if_neg hbig] at hkR hkN
      clear hbig
      have v1 : W6.cell? ⟨wl, 1, none⟩ = some (.int .i64 old.term) := NW6.out.cell 1
      have v2 : W6.cell? ⟨wl, 2, none⟩ = some (.int .i64 old.vote) := NW6.out.cell 2
      have v3 : W6.cell? ⟨wl, 3, none⟩ = some (.slice A0 n0 c0) := NW6.out.cell 3
      have HEQ : Hid (∀ p : BelowW W6, Calls Tryz.prog 32 #[.slice A n c, .slice A0 n0 c0] p.w fun e w' => e = .returned (.bool (decide (s.log = old.log))) ∧ Below p.w.heap.size p.w w') := Lib.hid (fun p => equal_en p.w A A0 n c n0 c0 s.log old.log (NL6.out.bel p.h) (NL06.out.bel p.h) (by have := HS.out.log; omega))
      have q0 := fun p : BelowW W6 => (p.h.cell (World.block_lt_of_cell? W6 _ k0')).trans k0'
      have q00 := fun p : BelowW W6 => (p.h.cell (World.block_lt_of_cell? W6 _ k1')).trans k1'
      have q01 := fun p : BelowW W6 => (p.h.cell (World.block_lt_of_cell? W6 _ k2')).trans k2'
      have q4 := fun p : BelowW W6 => (p.h.cell (World.block_lt_of_cell? W6 _ v1)).trans v1
      have q5 := fun p : BelowW W6 => (p.h.cell (World.block_lt_of_cell? W6 _ v2)).trans v2
      have q6 := fun p : BelowW W6 => (p.h.cell (World.block_lt_of_cell? W6 _ v3)).trans v3
      by_cases hsame : s.term = old.term ∧ s.vote = old.vote ∧ s.log = old.log
      · have hss : sameSv s old = true := by unfold sameSv; rw [decide_eq_true hsame.1, decide_eq_true hsame.2.1, decide_eq_true hsame.2.2]; rfl
        rw [hss] at hkR hkN
        simp only [if_true] at hkR hkN
        obtain ⟨rfl, rfl⟩ := Prod.mk.inj hkR
        subst hkN
        obtain ⟨ht, hv, hlg⟩ := hsame
        rw [decide_eq_true hlg] at HEQ
        have b1 : (s.term == old.term) = true := by simpa using ht
        have b2 : (s.vote == old.vote) = true := by simpa using hv
        have b1' : (s.term != old.term) = false := by simp [ht]
        have b2' : (s.vote != old.vote) = false := by simp [hv]
        clear hss hkR hlg ht hv
        go_wp2_with fail
        refine wp_region_quiet_below (by kernel_rfl) (by kernel_rfl) ?_
        repeat (go_big_quiet_step ((go_at_call 32; exact Calls.below_of (HEQ.out _))))
        refine wpQuiet_nil ?_
        intro W7 hw'
        have HQ := Lib.hid (belowW_out hw')
        clear hw' q0 q00 q01 q4 q5 q6 v1 v2 v3 v4 k0' k1' k2' q1 q2 q3 hbigI HEQ
        have V1 := Lib.hid (DS.wide (DS.bel ND6.out HQ.out) (show N ≤ N + 5 by omega))
        have V2 : Hid (Blk W7 wl 41 (walC d old.term old.vote (.slice A0 n0 c0) false size)) := Lib.hid (NW6.out.bel HQ.out)
        have V3 : Hid (Turns (AnS d F wl) W6 W7) := Lib.hid (Turns.of_below HQ.out)
        have L7 := Lib.hid (NL6.out.keep V3.out (fun q cs hq _ => en_far ND6.out NW6.out q ⟨cs, hq⟩))
        have K7 := Lib.hid (KW6.out.turns V3.out (by unfold AnS; omega))
        have TW : Hid (Turns (AnS d F wl) w W7) := Lib.hid ((Turns.of_below (S := AnS d F wl) (by rw [HG.out]; exact HBW6.out)).then V3.out)
        have hgW7 : Hid (g < W7.heap.size) := Lib.hid K7.out.lt
        have V2b := Lib.hid V2.out
        have HCL := Lib.hid (clone_en W7 A n c s.log L7.out (by have := HS.out.log; omega))
        have k2 : W7.cell? ⟨g, 2, none⟩ = some (.slice A n c) := K7.out.cell 2
        go_wp2_with fail
        refine HCL.out.mono ?_
        rintro e W8 ⟨A8, c8, rfl, ho8, hb8⟩
        have O8 := Lib.hid ho8
        have B8 := Lib.hid hb8
        have K8 := Lib.hid (K7.out.bel hb8)
        have V8 := Lib.hid (V2b.out.bel hb8)
        clear ho8 hb8 k2
        have d0 : W8.cell? ⟨g, 0, none⟩ = some (.int .i64 s.term) := K8.out.cell 0
        have d1 : W8.cell? ⟨g, 1, none⟩ = some (.int .i64 s.vote) := K8.out.cell 1
        have d2 : W8.cell? ⟨g, 2, none⟩ = some (.slice A n c) := K8.out.cell 2
        have z2 := K8.out.fz 2
        have v1 : W8.cell? ⟨wl, 1, none⟩ = some (.int .i64 old.term) := V8.out.cell 1
        have v2 : W8.cell? ⟨wl, 2, none⟩ = some (.int .i64 old.vote) := V8.out.cell 2
        have v3 : W8.cell? ⟨wl, 3, none⟩ = some (.slice A0 n0 c0) := V8.out.cell 3
        have y1 := V8.out.fz 1
        have y2 := V8.out.fz 2
        have y3 := V8.out.fz 3
        go_wp2_with fail
        go_ret
        have TS := Turns.of_set (S := fun i => i = g ∨ i = wl) W8 ⟨g, 2, none⟩ (.slice A8 s.log.length c8) (.inl rfl)
        have T4 := (turns_set4 (W8.setCell ⟨g, 2, none⟩ (.slice A8 s.log.length c8)) wl (.int .i64 s.term) (.int .i64 s.vote) (.slice A8 s.log.length c8)).mono (T := fun i => i = g ∨ i = wl) (fun i _ e => .inr e)
        have T8 := TS.then T4
        have T78 := (Turns.of_below (S := fun i => i = g ∨ i = wl) B8.out).then T8
        have PK := (((V8.out.far (p := ⟨g, 2, none⟩) (show wl ≠ g by omega) (.slice A8 s.log.length c8)).set 1 (.int .i64 s.term)).set 2 (.int .i64 s.vote)).set 3 (.slice A8 s.log.length c8)
        refine ⟨rfl, DS.keep V1.out T78 (fun e => ?_) (fun e => ?_) (fun q cur hq _ e => ?_), TW.out.trans T78 (fun i hi e => ?_), .inl ⟨rfl, A8, c8, PK, O8.out.lg.keep T8 (fun q cs hq _ e => ?_), fun q hq => ?_⟩⟩
        · rcases e with e | e
          · omega
          · have h1 := V2b.out; rw [← e] at h1; exact no_wal V1.out h1
        · rcases e with e | e
          · omega
          · have h1 := V2b.out; rw [← e] at h1; exact no_wal2 V1.out h1
        · rcases e with e | e
          · exact IsU8.ne ⟨cur, hq⟩ K7.out (by decide) e
          · exact IsU8.ne ⟨cur, hq⟩ V2b.out (by decide) e
        · rcases e with e | e
          · have := HG.out; omega
          · exact .inr (.inr e)
        · rcases e with e | e
          · exact IsEn.ne ⟨cs, hq⟩ K8.out (by decide) e
          · exact IsEn.ne ⟨cs, hq⟩ V8.out (by decide) e
        · have h1 := O8.out.ge q hq
          have h2 := hgW7.out
          have h3 := HG.out
          omega
      · have hss : sameSv s old = false := by
          unfold sameSv
          cases h1 : decide (s.term = old.term)
          · rfl
          · cases h2 : decide (s.vote = old.vote)
            · rfl
            · cases h3 : decide (s.log = old.log)
              · rfl
              · exact absurd ⟨of_decide_eq_true h1, of_decide_eq_true h2, of_decide_eq_true h3⟩ hsame
        rw [hss] at hkR hkN
        simp only [Bool.false_eq_true, if_false] at hkR hkN
        have HKR := Lib.hid hkR
        have HKN := Lib.hid hkN
        clear hss hkR hkN
        by_cases ht : s.term = old.term
        · have b1 : (s.term == old.term) = true := by simpa using ht
          have b1' : (s.term != old.term) = false := by simp [ht]
          by_cases hv : s.vote = old.vote
          · have b2 : (s.vote == old.vote) = true := by simpa using hv
            have b2' : (s.vote != old.vote) = false := by simp [hv]
            have hlg : ¬ s.log = old.log := fun e => hsame ⟨ht, hv, e⟩
            rw [decide_eq_false hlg] at HEQ
            clear hsame hlg ht hv
            go_wp2_with fail
            refine wp_region_quiet_below (by kernel_rfl) (by kernel_rfl) ?_
            repeat (go_big_quiet_step ((go_at_call 32; exact Calls.below_of (HEQ.out _))))
            refine wpQuiet_nil ?_
            intro X7 hw'
            have HQ := Lib.hid (belowW_out hw')
            clear hw' q0 q00 q01 q4 q5 q6 v1 v2 v3 v4 k0' k1' k2' q1 q2 q3 hbigI HEQ
            have hgrow := HQ.out.size
            have HM7 := more_any X7 d F N wl dk (DS.bel ND6.out HQ.out) (fun q hq => by have := XS6.out q hq; omega) old.term old.vote (.slice A0 n0 c0) false size (NW6.out.bel HQ.out) A2 a2 B1 (RB6.out.bel HQ.out) (by have := HSZ.out; have := BL1.out; omega) (by have := HSZ.out.1; omega)
            rw [HKR.out, HKN.out] at HM7
            unfold WroteY at HM7
            dsimp only at HM7
            have HM7 := Lib.hid HM7
            clear hgrow
            go_wp2_with fail
            refine HM7.out.mono ?_
            rintro e W7 ⟨rfl, h1, h2, h3⟩
            have V1 := Lib.hid h1
            have V2 := Lib.hid h2
            have V3 : Hid (Turns (AnS d F wl) W6 W7) := Lib.hid ((Turns.of_below (S := AnS d F wl) HQ.out).then h3)
            clear h1 h2 h3 HM7
            have L7 := Lib.hid (NL6.out.keep V3.out (fun q cs hq _ => en_far ND6.out NW6.out q ⟨cs, hq⟩))
            have K7 := Lib.hid (KW6.out.turns V3.out (by unfold AnS; omega))
            have TW : Hid (Turns (AnS d F wl) w W7) := Lib.hid ((Turns.of_below (S := AnS d F wl) (by rw [HG.out]; exact HBW6.out)).then V3.out)
            have hgW7 : Hid (g < W7.heap.size) := Lib.hid K7.out.lt
            by_cases hc : rc = 0
            · have V2b := V2.out
              rw [if_pos hc] at V2b
              have V2b := Lib.hid V2b
              have HCL := Lib.hid (clone_en W7 A n c s.log L7.out (by have := HS.out.log; omega))
              have k2 : W7.cell? ⟨g, 2, none⟩ = some (.slice A n c) := K7.out.cell 2
              go_wp2_with fail
              refine HCL.out.mono ?_
              rintro e W8 ⟨A8, c8, rfl, ho8, hb8⟩
              have O8 := Lib.hid ho8
              have B8 := Lib.hid hb8
              have K8 := Lib.hid (K7.out.bel hb8)
              have V8 := Lib.hid (V2b.out.bel hb8)
              clear ho8 hb8 k2
              have d0 : W8.cell? ⟨g, 0, none⟩ = some (.int .i64 s.term) := K8.out.cell 0
              have d1 : W8.cell? ⟨g, 1, none⟩ = some (.int .i64 s.vote) := K8.out.cell 1
              have d2 : W8.cell? ⟨g, 2, none⟩ = some (.slice A n c) := K8.out.cell 2
              have z2 := K8.out.fz 2
              have v1 : W8.cell? ⟨wl, 1, none⟩ = some (.int .i64 old.term) := V8.out.cell 1
              have v2 : W8.cell? ⟨wl, 2, none⟩ = some (.int .i64 old.vote) := V8.out.cell 2
              have v3 : W8.cell? ⟨wl, 3, none⟩ = some (.slice A0 n0 c0) := V8.out.cell 3
              have y1 := V8.out.fz 1
              have y2 := V8.out.fz 2
              have y3 := V8.out.fz 3
              go_wp2_with fail
              go_ret
              have TS := Turns.of_set (S := fun i => i = g ∨ i = wl) W8 ⟨g, 2, none⟩ (.slice A8 s.log.length c8) (.inl rfl)
              have T4 := (turns_set4 (W8.setCell ⟨g, 2, none⟩ (.slice A8 s.log.length c8)) wl (.int .i64 s.term) (.int .i64 s.vote) (.slice A8 s.log.length c8)).mono (T := fun i => i = g ∨ i = wl) (fun i _ e => .inr e)
              have T8 := TS.then T4
              have T78 := (Turns.of_below (S := fun i => i = g ∨ i = wl) B8.out).then T8
              have PK := (((V8.out.far (p := ⟨g, 2, none⟩) (show wl ≠ g by omega) (.slice A8 s.log.length c8)).set 1 (.int .i64 s.term)).set 2 (.int .i64 s.vote)).set 3 (.slice A8 s.log.length c8)
              refine ⟨by subst hc; rfl, DS.keep V1.out T78 (fun e => ?_) (fun e => ?_) (fun q cur hq _ e => ?_), TW.out.trans T78 (fun i hi e => ?_), .inl ⟨hc, A8, c8, PK, O8.out.lg.keep T8 (fun q cs hq _ e => ?_), fun q hq => ?_⟩⟩
              · rcases e with e | e
                · omega
                · have h1 := V2b.out; rw [← e] at h1; exact no_wal V1.out h1
              · rcases e with e | e
                · omega
                · have h1 := V2b.out; rw [← e] at h1; exact no_wal2 V1.out h1
              · rcases e with e | e
                · exact IsU8.ne ⟨cur, hq⟩ K7.out (by decide) e
                · exact IsU8.ne ⟨cur, hq⟩ V2b.out (by decide) e
              · rcases e with e | e
                · have := HG.out; omega
                · exact .inr (.inr e)
              · rcases e with e | e
                · exact IsEn.ne ⟨cs, hq⟩ K8.out (by decide) e
                · exact IsEn.ne ⟨cs, hq⟩ V8.out (by decide) e
              · have h1 := O8.out.ge q hq
                have h2 := hgW7.out
                have h3 := HG.out
                omega
            · have hb : (rc == 0) = false := by simpa using hc
              have hb' : (rc != 0) = true := by simp [hc]
              have V2b := V2.out
              rw [if_neg hc] at V2b
              have V2b := Lib.hid V2b
              have y5 := V2b.out.fz 5
              have v5 : W7.cell? ⟨wl, 5, none⟩ = some (.bool false) := V2b.out.cell 5
              go_wp2_with fail
              go_ret
              have T5 := Turns.of_set (S := fun i => i = wl) W7 ⟨wl, 5, none⟩ (.bool true) rfl
              refine ⟨rfl, DS.keep V1.out T5 (fun e => ?_) (fun e => ?_) (fun q cur hq _ e => IsU8.ne ⟨cur, hq⟩ V2b.out (by decide) e), TW.out.then (T5.mono (T := AnS d F wl) (fun i _ e => .inr (.inr e))), .inr ⟨hc, ?_⟩⟩
              · have h1 := V2b.out; rw [← e] at h1; exact no_wal V1.out h1
              · have h1 := V2b.out; rw [← e] at h1; exact no_wal2 V1.out h1
              · rw [HN0.out]; exact V2b.out.set 5 (.bool true)
          · have b2 : (s.vote == old.vote) = false := by simpa using hv
            have b2' : (s.vote != old.vote) = true := by simp [hv]
            clear hsame ht hv
            go_wp2_with fail
            refine wp_region_quiet_below (by kernel_rfl) (by kernel_rfl) ?_
            repeat (go_big_quiet_step ((go_at_call 32; exact Calls.below_of (HEQ.out _))))
            refine wpQuiet_nil ?_
            intro X7 hw'
            have HQ := Lib.hid (belowW_out hw')
            clear hw' q0 q00 q01 q4 q5 q6 v1 v2 v3 v4 k0' k1' k2' q1 q2 q3 hbigI HEQ
            have hgrow := HQ.out.size
            have HM7 := more_any X7 d F N wl dk (DS.bel ND6.out HQ.out) (fun q hq => by have := XS6.out q hq; omega) old.term old.vote (.slice A0 n0 c0) false size (NW6.out.bel HQ.out) A2 a2 B1 (RB6.out.bel HQ.out) (by have := HSZ.out; have := BL1.out; omega) (by have := HSZ.out.1; omega)
            rw [HKR.out, HKN.out] at HM7
            unfold WroteY at HM7
            dsimp only at HM7
            have HM7 := Lib.hid HM7
            clear hgrow
            go_wp2_with fail
            refine HM7.out.mono ?_
            rintro e W7 ⟨rfl, h1, h2, h3⟩
            have V1 := Lib.hid h1
            have V2 := Lib.hid h2
            have V3 : Hid (Turns (AnS d F wl) W6 W7) := Lib.hid ((Turns.of_below (S := AnS d F wl) HQ.out).then h3)
            clear h1 h2 h3 HM7
            have L7 := Lib.hid (NL6.out.keep V3.out (fun q cs hq _ => en_far ND6.out NW6.out q ⟨cs, hq⟩))
            have K7 := Lib.hid (KW6.out.turns V3.out (by unfold AnS; omega))
            have TW : Hid (Turns (AnS d F wl) w W7) := Lib.hid ((Turns.of_below (S := AnS d F wl) (by rw [HG.out]; exact HBW6.out)).then V3.out)
            have hgW7 : Hid (g < W7.heap.size) := Lib.hid K7.out.lt
            by_cases hc : rc = 0
            · have V2b := V2.out
              rw [if_pos hc] at V2b
              have V2b := Lib.hid V2b
              have HCL := Lib.hid (clone_en W7 A n c s.log L7.out (by have := HS.out.log; omega))
              have k2 : W7.cell? ⟨g, 2, none⟩ = some (.slice A n c) := K7.out.cell 2
              go_wp2_with fail
              refine HCL.out.mono ?_
              rintro e W8 ⟨A8, c8, rfl, ho8, hb8⟩
              have O8 := Lib.hid ho8
              have B8 := Lib.hid hb8
              have K8 := Lib.hid (K7.out.bel hb8)
              have V8 := Lib.hid (V2b.out.bel hb8)
              clear ho8 hb8 k2
              have d0 : W8.cell? ⟨g, 0, none⟩ = some (.int .i64 s.term) := K8.out.cell 0
              have d1 : W8.cell? ⟨g, 1, none⟩ = some (.int .i64 s.vote) := K8.out.cell 1
              have d2 : W8.cell? ⟨g, 2, none⟩ = some (.slice A n c) := K8.out.cell 2
              have z2 := K8.out.fz 2
              have v1 : W8.cell? ⟨wl, 1, none⟩ = some (.int .i64 old.term) := V8.out.cell 1
              have v2 : W8.cell? ⟨wl, 2, none⟩ = some (.int .i64 old.vote) := V8.out.cell 2
              have v3 : W8.cell? ⟨wl, 3, none⟩ = some (.slice A0 n0 c0) := V8.out.cell 3
              have y1 := V8.out.fz 1
              have y2 := V8.out.fz 2
              have y3 := V8.out.fz 3
              go_wp2_with fail
              go_ret
              have TS := Turns.of_set (S := fun i => i = g ∨ i = wl) W8 ⟨g, 2, none⟩ (.slice A8 s.log.length c8) (.inl rfl)
              have T4 := (turns_set4 (W8.setCell ⟨g, 2, none⟩ (.slice A8 s.log.length c8)) wl (.int .i64 s.term) (.int .i64 s.vote) (.slice A8 s.log.length c8)).mono (T := fun i => i = g ∨ i = wl) (fun i _ e => .inr e)
              have T8 := TS.then T4
              have T78 := (Turns.of_below (S := fun i => i = g ∨ i = wl) B8.out).then T8
              have PK := (((V8.out.far (p := ⟨g, 2, none⟩) (show wl ≠ g by omega) (.slice A8 s.log.length c8)).set 1 (.int .i64 s.term)).set 2 (.int .i64 s.vote)).set 3 (.slice A8 s.log.length c8)
              refine ⟨by subst hc; rfl, DS.keep V1.out T78 (fun e => ?_) (fun e => ?_) (fun q cur hq _ e => ?_), TW.out.trans T78 (fun i hi e => ?_), .inl ⟨hc, A8, c8, PK, O8.out.lg.keep T8 (fun q cs hq _ e => ?_), fun q hq => ?_⟩⟩
              · rcases e with e | e
                · omega
                · have h1 := V2b.out; rw [← e] at h1; exact no_wal V1.out h1
              · rcases e with e | e
                · omega
                · have h1 := V2b.out; rw [← e] at h1; exact no_wal2 V1.out h1
              · rcases e with e | e
                · exact IsU8.ne ⟨cur, hq⟩ K7.out (by decide) e
                · exact IsU8.ne ⟨cur, hq⟩ V2b.out (by decide) e
              · rcases e with e | e
                · have := HG.out; omega
                · exact .inr (.inr e)
              · rcases e with e | e
                · exact IsEn.ne ⟨cs, hq⟩ K8.out (by decide) e
                · exact IsEn.ne ⟨cs, hq⟩ V8.out (by decide) e
              · have h1 := O8.out.ge q hq
                have h2 := hgW7.out
                have h3 := HG.out
                omega
            · have hb : (rc == 0) = false := by simpa using hc
              have hb' : (rc != 0) = true := by simp [hc]
              have V2b := V2.out
              rw [if_neg hc] at V2b
              have V2b := Lib.hid V2b
              have y5 := V2b.out.fz 5
              have v5 : W7.cell? ⟨wl, 5, none⟩ = some (.bool false) := V2b.out.cell 5
              go_wp2_with fail
              go_ret
              have T5 := Turns.of_set (S := fun i => i = wl) W7 ⟨wl, 5, none⟩ (.bool true) rfl
              refine ⟨rfl, DS.keep V1.out T5 (fun e => ?_) (fun e => ?_) (fun q cur hq _ e => IsU8.ne ⟨cur, hq⟩ V2b.out (by decide) e), TW.out.then (T5.mono (T := AnS d F wl) (fun i _ e => .inr (.inr e))), .inr ⟨hc, ?_⟩⟩
              · have h1 := V2b.out; rw [← e] at h1; exact no_wal V1.out h1
              · have h1 := V2b.out; rw [← e] at h1; exact no_wal2 V1.out h1
              · rw [HN0.out]; exact V2b.out.set 5 (.bool true)
        · have b1 : (s.term == old.term) = false := by simpa using ht
          have b1' : (s.term != old.term) = true := by simp [ht]
          clear hsame ht
          go_wp2_with fail
          refine wp_region_quiet_below (by kernel_rfl) (by kernel_rfl) ?_
          repeat (go_big_quiet_step ((go_at_call 32; exact Calls.below_of (HEQ.out _))))
          refine wpQuiet_nil ?_
          intro X7 hw'
          have HQ := Lib.hid (belowW_out hw')
          clear hw' q0 q00 q01 q4 q5 q6 v1 v2 v3 v4 k0' k1' k2' q1 q2 q3 hbigI HEQ
          have hgrow := HQ.out.size
          have HM7 := more_any X7 d F N wl dk (DS.bel ND6.out HQ.out) (fun q hq => by have := XS6.out q hq; omega) old.term old.vote (.slice A0 n0 c0) false size (NW6.out.bel HQ.out) A2 a2 B1 (RB6.out.bel HQ.out) (by have := HSZ.out; have := BL1.out; omega) (by have := HSZ.out.1; omega)
          rw [HKR.out, HKN.out] at HM7
          unfold WroteY at HM7
          dsimp only at HM7
          have HM7 := Lib.hid HM7
          clear hgrow
          go_wp2_with fail
          refine HM7.out.mono ?_
          rintro e W7 ⟨rfl, h1, h2, h3⟩
          have V1 := Lib.hid h1
          have V2 := Lib.hid h2
          have V3 : Hid (Turns (AnS d F wl) W6 W7) := Lib.hid ((Turns.of_below (S := AnS d F wl) HQ.out).then h3)
          clear h1 h2 h3 HM7
          have L7 := Lib.hid (NL6.out.keep V3.out (fun q cs hq _ => en_far ND6.out NW6.out q ⟨cs, hq⟩))
          have K7 := Lib.hid (KW6.out.turns V3.out (by unfold AnS; omega))
          have TW : Hid (Turns (AnS d F wl) w W7) := Lib.hid ((Turns.of_below (S := AnS d F wl) (by rw [HG.out]; exact HBW6.out)).then V3.out)
          have hgW7 : Hid (g < W7.heap.size) := Lib.hid K7.out.lt
          by_cases hc : rc = 0
          · have V2b := V2.out
            rw [if_pos hc] at V2b
            have V2b := Lib.hid V2b
            have HCL := Lib.hid (clone_en W7 A n c s.log L7.out (by have := HS.out.log; omega))
            have k2 : W7.cell? ⟨g, 2, none⟩ = some (.slice A n c) := K7.out.cell 2
            go_wp2_with fail
            refine HCL.out.mono ?_
            rintro e W8 ⟨A8, c8, rfl, ho8, hb8⟩
            have O8 := Lib.hid ho8
            have B8 := Lib.hid hb8
            have K8 := Lib.hid (K7.out.bel hb8)
            have V8 := Lib.hid (V2b.out.bel hb8)
            clear ho8 hb8 k2
            have d0 : W8.cell? ⟨g, 0, none⟩ = some (.int .i64 s.term) := K8.out.cell 0
            have d1 : W8.cell? ⟨g, 1, none⟩ = some (.int .i64 s.vote) := K8.out.cell 1
            have d2 : W8.cell? ⟨g, 2, none⟩ = some (.slice A n c) := K8.out.cell 2
            have z2 := K8.out.fz 2
            have v1 : W8.cell? ⟨wl, 1, none⟩ = some (.int .i64 old.term) := V8.out.cell 1
            have v2 : W8.cell? ⟨wl, 2, none⟩ = some (.int .i64 old.vote) := V8.out.cell 2
            have v3 : W8.cell? ⟨wl, 3, none⟩ = some (.slice A0 n0 c0) := V8.out.cell 3
            have y1 := V8.out.fz 1
            have y2 := V8.out.fz 2
            have y3 := V8.out.fz 3
            go_wp2_with fail
            go_ret
            have TS := Turns.of_set (S := fun i => i = g ∨ i = wl) W8 ⟨g, 2, none⟩ (.slice A8 s.log.length c8) (.inl rfl)
            have T4 := (turns_set4 (W8.setCell ⟨g, 2, none⟩ (.slice A8 s.log.length c8)) wl (.int .i64 s.term) (.int .i64 s.vote) (.slice A8 s.log.length c8)).mono (T := fun i => i = g ∨ i = wl) (fun i _ e => .inr e)
            have T8 := TS.then T4
            have T78 := (Turns.of_below (S := fun i => i = g ∨ i = wl) B8.out).then T8
            have PK := (((V8.out.far (p := ⟨g, 2, none⟩) (show wl ≠ g by omega) (.slice A8 s.log.length c8)).set 1 (.int .i64 s.term)).set 2 (.int .i64 s.vote)).set 3 (.slice A8 s.log.length c8)
            refine ⟨by subst hc; rfl, DS.keep V1.out T78 (fun e => ?_) (fun e => ?_) (fun q cur hq _ e => ?_), TW.out.trans T78 (fun i hi e => ?_), .inl ⟨hc, A8, c8, PK, O8.out.lg.keep T8 (fun q cs hq _ e => ?_), fun q hq => ?_⟩⟩
            · rcases e with e | e
              · omega
              · have h1 := V2b.out; rw [← e] at h1; exact no_wal V1.out h1
            · rcases e with e | e
              · omega
              · have h1 := V2b.out; rw [← e] at h1; exact no_wal2 V1.out h1
            · rcases e with e | e
              · exact IsU8.ne ⟨cur, hq⟩ K7.out (by decide) e
              · exact IsU8.ne ⟨cur, hq⟩ V2b.out (by decide) e
            · rcases e with e | e
              · have := HG.out; omega
              · exact .inr (.inr e)
            · rcases e with e | e
              · exact IsEn.ne ⟨cs, hq⟩ K8.out (by decide) e
              · exact IsEn.ne ⟨cs, hq⟩ V8.out (by decide) e
            · have h1 := O8.out.ge q hq
              have h2 := hgW7.out
              have h3 := HG.out
              omega
          · have hb : (rc == 0) = false := by simpa using hc
            have hb' : (rc != 0) = true := by simp [hc]
            have V2b := V2.out
            rw [if_neg hc] at V2b
            have V2b := Lib.hid V2b
            have y5 := V2b.out.fz 5
            have v5 : W7.cell? ⟨wl, 5, none⟩ = some (.bool false) := V2b.out.cell 5
            go_wp2_with fail
            go_ret
            have T5 := Turns.of_set (S := fun i => i = wl) W7 ⟨wl, 5, none⟩ (.bool true) rfl
            refine ⟨rfl, DS.keep V1.out T5 (fun e => ?_) (fun e => ?_) (fun q cur hq _ e => IsU8.ne ⟨cur, hq⟩ V2b.out (by decide) e), TW.out.then (T5.mono (T := AnS d F wl) (fun i _ e => .inr (.inr e))), .inr ⟨hc, ?_⟩⟩
            · have h1 := V2b.out; rw [← e] at h1; exact no_wal V1.out h1
            · have h1 := V2b.out; rw [← e] at h1; exact no_wal2 V1.out h1
            · rw [HN0.out]; exact V2b.out.set 5 (.bool true)
end Go.Proofs.YteihedfmmiihiaaGreat
