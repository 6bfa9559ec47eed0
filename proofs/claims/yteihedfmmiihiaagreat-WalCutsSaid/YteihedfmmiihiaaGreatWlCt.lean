/- wal: WalCuts. -/
import Derived.Test.YteihedfmmiihiaaGreatWmN
import Derived.Test.YteihedfmmiihiaaGreatWlAw
import Derived.Test.YteihedfmmiihiaaGreatWlDeedsOf
namespace Go.Proofs.YteihedfmmiihiaaGreat
open Go.RowKit Go.Maps Go.Sort Go.Shelf
open Go.ChangeShapes Go.WideShapes Go.Deep

theorem RX.turn {w w' : World} {H x d F N M : Nat} {dk dk' : Dk} {s : Sv} {per : Option Sv} (h : RX w H x d F N dk s per) (k : Turns (DSet d F) w w') (hd : dk'.Is X0 w' d F M) (ho : dk'.off = dk.off) (hp : dk'.p = dk.p) : RX w' H x d F M dk' s per := by
  obtain ⟨wv, A, c, p5, p6, p7, hb, hl, hq⟩ := h.blk
  have he := e_far h.is
  exact ⟨h.lo, hd, ho.trans h.off, by rw [hp]; exact h.good, by rw [hp]; exact h.all, ⟨wv, A, c, p5, p6, p7, hb.turns k (x_far h.is hb), hl.keep k (fun g cs hg _ => he g ⟨cs, hg⟩), hq.keep k he⟩, h.cap⟩
theorem fuC_ok {off : Bool} {n : Int} (ho : off = false) (hn : 0 ≤ n) : fuC off n = 0 := by
  unfold fuC
  rw [ho, if_neg (by decide), if_neg (by omega)]
theorem StX.bump {w : World} {H x d F N i M : Nat} (h : StX w H x d F N i) (hM : N ≤ M) : StX w H x d F M i := by
  obtain ⟨dk, s, per, h1, h2, h3⟩ := h
  exact ⟨dk, s, per, h1.wide hM, h2, h3⟩
theorem KeepIn.wider {w : World} {H K : Nat} {A : Option Addr} {n c : Nat} {z : Nat → Int} (h : KeepIn w H A n c z) (hk : H ≤ K) : KeepIn w K A n c z :=
  ⟨h.1, h.2.1, h.2.2.1, fun b o e h0 => by have := h.2.2.2 b o e h0; omega⟩
theorem keep_row {w : World} {a : Option Addr} {len cap : Nat} {zs : List Int} (h : (a = none ∧ len = 0 ∧ cap = 0 ∧ zs = []) ∨ ∃ x, a = some x ∧ len ≤ cap ∧ cap ≤ maxLen ∧ zs.length = cap ∧ (∀ i, i < zs.length → w.cell? (x.add i) = some (.int .i64 (zs.getD i 0))) ∧ ∀ n ∈ zs, (Lit.int .i64 n).wf = true) :
    Keep0 w a len cap (fun i => zs.getD i 0) := by
  rcases h with ⟨rfl, rfl, rfl, rfl⟩ | ⟨x, rfl, hl, hm, hz, hc, hw⟩
  · exact ⟨KeepR.nil _ _, Nat.le_refl _, Nat.zero_le _, fun _ _ e => by cases e⟩
  · have hcell : ∀ i, i < len → ∃ b o, some x = some (⟨b, o, none⟩ : Addr) ∧ b < w.heap.size ∧ w.cell? ⟨b, o + i, none⟩ = some (.int .i64 (zs.getD i 0)) := fun i hi => by
      have h1 := hc i (by omega)
      have h0 := hc 0 (by omega)
      have hs := spot_none h0
      have hb := World.block_lt_of_cell? w _ h1
      rw [add_at hs] at hb h1
      refine ⟨x.block, x.off, ?_, hb, h1⟩
      obtain ⟨b, o, s⟩ := x
      simp only at hs
      subst hs
      rfl
    refine ⟨⟨hcell, fun i hi => ?_⟩, hl, hm, fun b o e h0 => ?_⟩
    · have hiz : i < zs.length := by omega
      have e1 : zs.getD i 0 = zs[i] := by simp [List.getD, hiz]
      rw [e1]
      exact bounds_i64 (hw zs[i] (List.getElem_mem hiz))
    · obtain ⟨b', o', e', hb', _⟩ := hcell 0 h0
      rw [e] at e'
      injection e' with e'
      injection e' with e'
      rw [e']
      exact hb'
/-- a deed that keeps something -/
def Dee.kept (D : Dee) : Dee := if 2 < D.d ∧ D.d < 6 then { D with d := 0 } else D
theorem Dee.kept_ok {D : Dee} (h : D.Ok) : D.kept.Ok ∧ D.kept.data = D.data := by
  unfold Dee.kept
  split
  · exact ⟨⟨by simp, h.term, h.num⟩, rfl⟩
  · exact ⟨h, rfl⟩
set_option maxRecDepth 20000 in
set_option maxHeartbeats 16000000 in
theorem cuts_any (w : World) (a : Option Addr) (n c : Nat) (S : Nat → Dee) (h : Dees0 w a n S) (f1 f2 : Int) (hf1 : f1 ≤ 9223372036854775807) (hf2 : f2 ≤ 9223372036854775807) (kA : Option Addr) (kn kc : Nat) (z : Nat → Int) (hk : Keep0 w kA kn kc z) :
    Calls Tryz.prog 6 #[.slice a n c, .int .i64 f1, .int .i64 f2, .slice kA kn kc] w fun e w' => e = .returned (.bool true) ∧ Below w.heap.size w w' := by
  have HS0 := Lib.hid h
  unfold Dees0 at HS0
  have HK0 := Lib.hid hk
  unfold Keep0 at HK0
  have hnl := h.len
  unfold maxLen at hnl
  have HAW := Lib.hid (awake_any w)
  clear h hk
  go_enter Tryz.func6, Tryz.ntmps6
  go_wp2_with fail
  refine HAW.out.mono ?_
  rintro e w1 ⟨rfl, hb1⟩
  have B1 := Lib.hid hb1
  have S1 := Lib.hid (HS0.out.keep' (.of_below (S := fun _ => False) hb1) (fun _ e => e.elim))
  have K1 := Lib.hid (HK0.out.keep (.of_below (S := fun _ => False) hb1) (fun _ e => e.elim))
  have HLG := Lib.hid (long_any w1 w.heap.size a n c S S1.out)
  clear hb1 HAW
  go_wp2_with fail
  refine HLG.out.mono ?_
  rintro e w1' ⟨b, rfl, hb, rfl⟩
  cases b with
  | true =>
    clear hb
    go_wp2_with fail
    go_ret
    exact ⟨rfl, B1.out⟩
  | false =>
    obtain ⟨hn60, hsz⟩ := hb rfl
    have HSZ := Lib.hid hsz
    clear hb hsz HLG
    by_cases hn6 : 6 < n
    · have hd6 : decide (6 < (n : Int)) = true := decide_eq_true (by omega)
      go_wp2_with fail
      go_ret
      exact ⟨rfl, B1.out⟩
    · have hd6 : decide (6 < (n : Int)) = false := decide_eq_false (by omega)
      by_cases hp1 : f1 < 0
      · have hd1 : decide (f1 < 0) = true := decide_eq_true hp1
        go_wp2_with fail
        go_ret
        exact ⟨rfl, B1.out⟩
      · have hd1 : decide (f1 < 0) = false := decide_eq_false hp1
        by_cases hp2 : f2 < 0
        · have hd2 : decide (f2 < 0) = true := decide_eq_true hp2
          go_wp2_with fail
          go_ret
          exact ⟨rfl, B1.out⟩
        · have hd2 : decide (f2 < 0) = false := decide_eq_false hp2
          have HBG := Lib.hid (begin_any w1')
          obtain ⟨H, hH⟩ : ∃ H, w1'.heap.size = H := ⟨_, rfl⟩
          have HH := Lib.hid hH
          clear hH
          go_wp2_with fail
          refine HBG.out.mono ?_
          rintro e w2 ⟨x, d, F, N, dk, wl, rfl, hax, _, hN10, hb2⟩
          rw [HH.out] at hax hb2
          have S2 := Lib.hid (S1.out.keep' (.of_below (S := fun _ => False) (by rw [HH.out]; exact hb2)) (fun _ e => e.elim))
          have K2 := Lib.hid (K1.out.keep (.of_below (S := fun _ => False) (by rw [HH.out]; exact hb2)) (fun _ e => e.elim))
          have A2 := Lib.hid hax
          have B2 : Hid (Below w.heap.size w w2) := Lib.hid (B1.out.trans (hb2.mono (by have := B1.out.size; have := HH.out; omega)))
          have HLO := Lib.hid (show w.heap.size ≤ H by have := B1.out.size; have := HH.out; omega)
          have HH2 := Lib.hid (show H ≤ w2.heap.size by have := hb2.size; have := HH.out; omega)
          obtain ⟨A0, c0, p5, p6, p7, hbx, _⟩ := hax.blk
          have q0 : w2.cell? ⟨x, 0, none⟩ = some (.pointer (some ⟨d, 0, none⟩)) := hbx.cell 0
          have HF1 := fuseD w2 d F N dk.off dk.fuse dk.p hax.is f1 hf1
          rw [fuC_ok hax.off (by omega)] at HF1
          have HF1 := Lib.hid HF1
          clear hax hb2 HBG hbx hd6 hd1 hd2
          go_wp2_with fail
          refine HF1.out.mono ?_
          rintro e w3 ⟨rfl, hd3, ht3⟩
          have A3 : Hid (AX w3 H x d F N ⟨dk.off, fuN dk.off dk.fuse f1, dk.p⟩ none0 wl) := Lib.hid (A2.out.turn ht3 hd3 A2.out.off rfl)
          have ST3 : Hid (StX w3 H x d F N 0) := Lib.hid ⟨_, none0, none, .inl ⟨rfl, wl, A3.out⟩, Few.zero, fun _ e => by cases e⟩
          have T3 : Hid (Turns (fun g => H ≤ g) w2 w3) := Lib.hid (ht3.mono (fun g _ e => DSet.lo ⟨A2.out.lo.2.1, A2.out.lo.2.2.1⟩ g e))
          clear q0 hd3 ht3 HF1
          go_wp2_with fail
          go_loopw [11] (fun iv wr => ∃ i : Nat, i ≤ n ∧ iv = .int .i64 (i : Int) ∧ Hid (StX wr H x d F (N + 5 * i) i) ∧ Hid (Turns (fun g => H ≤ g) w2 wr)) (fun iv _ => n - (intOf iv).toNat)
          case atStart => exact ⟨0, by omega, rfl, ST3, T3⟩
          case round =>
            obtain ⟨i, hi, rfl, hSt, hT⟩ := hrel
            by_cases hlt : i < n
            · have hlt1 : (i : Int) < (n : Int) := by omega
              have SR := Lib.hid (S2.out.keep' hT.out (fun g e => by have := HLO.out; omega))
              obtain ⟨b, o, rfl, _, hl, c0, c1, c2, c3, c4⟩ := SR.out.cell i hlt
              have HOK := Lib.hid (SR.out.num i hlt)
              have HSI := Lib.hid (HSZ.out i hlt)
              obtain ⟨D, hD⟩ : ∃ D, S i = D := ⟨_, rfl⟩
              rw [hD] at c0 c1 c2 c3 c4 HOK HSI
              obtain ⟨dd, tm, data, num, qA, qn, qc, qz⟩ := D
              simp only at c0 c1 c2 c3 c4
              have hdd := HOK.out.d
              simp only at hdd
              obtain ⟨dk4, s, per, hs, hf, hq⟩ := hSt.out
              have SX4 := Lib.hid hs
              have HF4 := Lib.hid hf
              have HQ4 := Lib.hid hq
              have BY := Lib.hid (Below.new wr (.cells #[.int .u8 dd, .int .i64 tm, .string data, .int .i64 num, .slice qA qn qc] 56))
              have KD := Lib.hid (Blk.new wr 56 [.int .u8 dd, .int .i64 tm, .string data, .int .i64 num, .slice qA qn qc])
              obtain ⟨wv, A, cA, p5, p6, p7, hb, hlg, _⟩ := hs.blk
              have XB := Lib.hid (hb.bel BY.out)
              have LB := Lib.hid (hlg.bel BY.out)
              have SY := Lib.hid (hs.bel BY.out)
              have hxl := hb.lt
              have hKEPT : (Dee.mk dd tm data num qA qn qc qz).kept.Ok ∧ (Dee.mk dd tm data num qA qn qc qz).kept.data = data := Dee.kept_ok HOK.out
              obtain ⟨D2, hD2⟩ : ∃ D2, (Dee.mk dd tm data num qA qn qc qz).kept = D2 := ⟨_, rfl⟩
              rw [hD2] at hKEPT
              have hfew : Few (i + 1) (nextP s D2.dd) := next_few hf D2.dd (by show D2.data.size ≤ 3000; rw [hKEPT.2]; exact HSI.out) (by omega)
              obtain ⟨s2, hs2⟩ : ∃ s2, nextP s D2.dd = s2 := ⟨_, rfl⟩
              rw [hs2] at hfew
              have HFEW := Lib.hid hfew
              have HNX0 : ∀ W, Lg W A s.log.length cA s.log → Calls Tryz.prog 24 #[svV s.term s.vote A s.log.length cA, D2.v] W (NextY W s2) := fun W hW => by
                rw [← hs2]
                exact next_any W A s.log.length cA s hW hs.cap.1.len D2 hKEPT.1
              have TY : Hid (Turns (fun g => H ≤ g) w2 (wr.alloc (.cells #[.int .u8 dd, .int .i64 tm, .string data, .int .i64 num, .slice qA qn qc] 56))) := Lib.hid (hT.out.then (.of_below BY.out))
              have HKP0 : ∀ Y2, Turns (fun _ => False) wr Y2 → SX Y2 H x d F (N + 5 * i) dk4 s per → ∀ W A2 c2, Below Y2.heap.size Y2 W → Lg W A2 s2.log.length c2 s2.log → Calls Tryz.prog 8 #[.pointer (some ⟨x, 0, none⟩), svV s2.term s2.vote A2 s2.log.length c2] W (KDY W H x d F (N + 5 * i) s s2 per) := fun Y2 hY2 hSX W A2 c2 hW hl2 => keep_s W H x d F (N + 5 * i) dk4 s per (hSX.bel hW) (by omega) (by have := hT.out.size; have := HH2.out; have := hW.size; have := hY2.size; omega) s2 A2 c2 hl2 (hfew.cap (by omega))
              have HKP := Lib.hid HKP0
              have HNX := Lib.hid HNX0
              have HEND : Hid (∀ W w5, Turns (fun g => H ≤ g) w2 W → KDY W H x d F (N + 5 * i) s s2 per (.returned (.bool true)) w5 → StX w5 H x d F (N + 5 * (i + 1)) (i + 1) ∧ Turns (fun g => H ≤ g) w2 w5) := Lib.hid (by
                rintro W w5 hW ⟨_, ht, dk', s', per', h', hkk⟩
                refine ⟨⟨dk', s', per', h', ?_, fun q e => ?_⟩, hW.then ht⟩
                · rcases hkk with ⟨rfl, _⟩ | ⟨rfl, _⟩
                  · exact HFEW.out
                  · exact HF4.out.mono (by omega)
                · rcases hkk with ⟨_, rfl⟩ | ⟨_, rfl | rfl⟩
                  · cases e
                  · injection e with e
                    subst e
                    exact HFEW.out
                  · exact (HQ4.out q e).mono (by omega))
              have HD2 := Lib.hid hD2
              clear hs hf hq hb hlg hs2 hfew HNX0 HKP0 hKEPT hD hD2
              go_upto_region 12 with (fail)
              obtain ⟨g, hg⟩ : ∃ g, wr.heap.size = g := ⟨_, rfl⟩
              have HG := Lib.hid hg
              rw [hg] at KD hxl ⊢
              clear c0 c1 c2 c3 c4 hg
              generalize (wr.alloc (.cells #[.int .u8 dd, .int .i64 tm, .string data, .int .i64 num, .slice qA qn qc] 56)) = Y at *
              have k0 : Y.cell? ⟨g, 0, none⟩ = some (.int .u8 dd) := KD.out.cell 0
              have z0 := KD.out.fz 0
              by_cases hc : 2 < dd ∧ dd < 6
              · have h2 : decide (2 < dd) = true := decide_eq_true hc.1
                have h6 : decide (dd < 6) = true := decide_eq_true hc.2
                have e2 : D2 = ⟨0, tm, data, num, qA, qn, qc, qz⟩ := by rw [← HD2.out]; unfold Dee.kept; rw [if_pos hc]
                subst e2
                go_upto_region 14 with (fail)
                have KZ : Hid (Blk (Y.setCell ⟨g, 0, none⟩ (.int .u8 0)) g 56 [.int .u8 0, .int .i64 tm, .string data, .int .i64 num, .slice qA qn qc]) := Lib.hid (KD.out.set 0 (.int .u8 0))
                have TS : Turns (fun i => i = g) Y (Y.setCell ⟨g, 0, none⟩ (.int .u8 0)) := Turns.of_set (S := fun i => i = g) Y ⟨g, 0, none⟩ _ rfl
                clear k0 z0
                generalize (Y.setCell ⟨g, 0, none⟩ (.int .u8 0)) = Z at *
                have XZ := Lib.hid (XB.out.turns TS (show ¬ x = g by omega))
                have hnE : ∀ q, IsEn Y q → ¬ q = g := fun q hq e => hq.ne KD.out (by decide) e
                have LZ := Lib.hid (LB.out.keep TS (fun q cs hq _ => hnE q ⟨cs, hq⟩))
                have BW : Hid (Below g wr Z) := Lib.hid ((by rw [← HG.out]; exact BY.out : Below g wr Y).trans (TS.below (B := g) (by have := KD.out.lt; omega) (fun i _ e => by omega)))
                have BWR : Hid (Below wr.heap.size wr Z) := Lib.hid (by rw [HG.out]; exact BW.out)
                have SZ : Hid (SX Z H x d F (N + 5 * i) dk4 s per) := Lib.hid (SX4.out.bel BWR.out)
                have k0 : Z.cell? ⟨g, 0, none⟩ = some (.int .u8 0) := KZ.out.cell 0
                have k1 : Z.cell? ⟨g, 1, none⟩ = some (.int .i64 tm) := KZ.out.cell 1
                have k2 : Z.cell? ⟨g, 2, none⟩ = some (.string data) := KZ.out.cell 2
                have k3 : Z.cell? ⟨g, 3, none⟩ = some (.int .i64 num) := KZ.out.cell 3
                have k4 : Z.cell? ⟨g, 4, none⟩ = some (.slice qA qn qc) := KZ.out.cell 4
                have q2 : Z.cell? ⟨x, 2, none⟩ = some (.int .i64 s.term) := XZ.out.cell 2
                have q3 : Z.cell? ⟨x, 3, none⟩ = some (.int .i64 s.vote) := XZ.out.cell 3
                have q4 : Z.cell? ⟨x, 4, none⟩ = some (.slice A s.log.length cA) := XZ.out.cell 4
                have HD1 := Lib.hid (below_drewN' (Below.refl Z.heap.size Z) 1)
                have HN1 := HNX.out Z.drew (LZ.out.bel HD1.out)
                unfold NextY svV Dee.v at HN1
                simp only at HN1
                have HN1 := Lib.hid HN1
                have HKQ := HKP.out Z (.of_below BWR.out) SZ.out
                unfold svV at HKQ
                have HKQ := Lib.hid HKQ
                have TQ := Lib.hid (hT.out.then (.of_below BWR.out))
                go_region_law (first | (go_simp; go_at_call 24; refine HN1.out.mono ?_; rintro e w4 ⟨A4, c4, rfl, hl4, hb4⟩; have L4 := Lib.hid hl4; have B4 := Lib.hid (below_trans' HD1.out hb4); clear hl4 hb4) | (go_simp; go_at_call 8; refine (HKQ.out _ _ _ B4.out L4.out).mono ?_; intro e w5 hkd; obtain rfl := hkd.1; have KD5 := Lib.hid hkd; clear hkd))
                all_goals
                  obtain ⟨hst5, ht5⟩ := HEND.out _ _ (TQ.out.then (.of_below B4.out)) KD5.out
                  have ST5 := Lib.hid hst5
                  have T5 := Lib.hid ht5
                  clear hst5 ht5 k0 k1 k2 k3 k4 q2 q3 q4
                  go_wp2_with fail
                  refine ⟨⟨i + 1, by omega, by simp, ST5, T5⟩, ?_⟩
                  simp [intOf]; omega
              · have e2 : D2 = ⟨dd, tm, data, num, qA, qn, qc, qz⟩ := by rw [← HD2.out]; unfold Dee.kept; rw [if_neg hc]
                subst e2
                by_cases hc2 : 2 < dd
                · have h2 : decide (2 < dd) = true := decide_eq_true hc2
                  have h6 : decide (dd < 6) = false := decide_eq_false (fun e => hc ⟨hc2, e⟩)
                  go_upto_region 14 with (fail)
                  clear k0 z0
                  have KZ := KD
                  have XZ := XB
                  have LZ := LB
                  have BW : Hid (Below g wr Y) := Lib.hid (by rw [← HG.out]; exact BY.out)
                  have BWR : Hid (Below wr.heap.size wr Y) := Lib.hid (by rw [HG.out]; exact BW.out)
                  have SZ : Hid (SX Y H x d F (N + 5 * i) dk4 s per) := Lib.hid (SX4.out.bel BWR.out)
                  have k0 : Y.cell? ⟨g, 0, none⟩ = some (.int .u8 dd) := KZ.out.cell 0
                  have k1 : Y.cell? ⟨g, 1, none⟩ = some (.int .i64 tm) := KZ.out.cell 1
                  have k2 : Y.cell? ⟨g, 2, none⟩ = some (.string data) := KZ.out.cell 2
                  have k3 : Y.cell? ⟨g, 3, none⟩ = some (.int .i64 num) := KZ.out.cell 3
                  have k4 : Y.cell? ⟨g, 4, none⟩ = some (.slice qA qn qc) := KZ.out.cell 4
                  have q2 : Y.cell? ⟨x, 2, none⟩ = some (.int .i64 s.term) := XZ.out.cell 2
                  have q3 : Y.cell? ⟨x, 3, none⟩ = some (.int .i64 s.vote) := XZ.out.cell 3
                  have q4 : Y.cell? ⟨x, 4, none⟩ = some (.slice A s.log.length cA) := XZ.out.cell 4
                  have HD1 := Lib.hid (below_drewN' (Below.refl Y.heap.size Y) 1)
                  have HN1 := HNX.out Y.drew (LZ.out.bel HD1.out)
                  unfold NextY svV Dee.v at HN1
                  simp only at HN1
                  have HN1 := Lib.hid HN1
                  have HKQ := HKP.out Y (.of_below BWR.out) SZ.out
                  unfold svV at HKQ
                  have HKQ := Lib.hid HKQ
                  have TQ := Lib.hid (hT.out.then (.of_below BWR.out))
                  go_region_law (first | (go_simp; go_at_call 24; refine HN1.out.mono ?_; rintro e w4 ⟨A4, c4, rfl, hl4, hb4⟩; have L4 := Lib.hid hl4; have B4 := Lib.hid (below_trans' HD1.out hb4); clear hl4 hb4) | (go_simp; go_at_call 8; refine (HKQ.out _ _ _ B4.out L4.out).mono ?_; intro e w5 hkd; obtain rfl := hkd.1; have KD5 := Lib.hid hkd; clear hkd))
                  all_goals
                    obtain ⟨hst5, ht5⟩ := HEND.out _ _ (TQ.out.then (.of_below B4.out)) KD5.out
                    have ST5 := Lib.hid hst5
                    have T5 := Lib.hid ht5
                    clear hst5 ht5 k0 k1 k2 k3 k4 q2 q3 q4
                    go_wp2_with fail
                    refine ⟨⟨i + 1, by omega, by simp, ST5, T5⟩, ?_⟩
                    simp [intOf]; omega
                · have h2 : decide (2 < dd) = false := decide_eq_false hc2
                  go_upto_region 14 with (fail)
                  clear k0 z0
                  have KZ := KD
                  have XZ := XB
                  have LZ := LB
                  have BW : Hid (Below g wr Y) := Lib.hid (by rw [← HG.out]; exact BY.out)
                  have BWR : Hid (Below wr.heap.size wr Y) := Lib.hid (by rw [HG.out]; exact BW.out)
                  have SZ : Hid (SX Y H x d F (N + 5 * i) dk4 s per) := Lib.hid (SX4.out.bel BWR.out)
                  have k0 : Y.cell? ⟨g, 0, none⟩ = some (.int .u8 dd) := KZ.out.cell 0
                  have k1 : Y.cell? ⟨g, 1, none⟩ = some (.int .i64 tm) := KZ.out.cell 1
                  have k2 : Y.cell? ⟨g, 2, none⟩ = some (.string data) := KZ.out.cell 2
                  have k3 : Y.cell? ⟨g, 3, none⟩ = some (.int .i64 num) := KZ.out.cell 3
                  have k4 : Y.cell? ⟨g, 4, none⟩ = some (.slice qA qn qc) := KZ.out.cell 4
                  have q2 : Y.cell? ⟨x, 2, none⟩ = some (.int .i64 s.term) := XZ.out.cell 2
                  have q3 : Y.cell? ⟨x, 3, none⟩ = some (.int .i64 s.vote) := XZ.out.cell 3
                  have q4 : Y.cell? ⟨x, 4, none⟩ = some (.slice A s.log.length cA) := XZ.out.cell 4
                  have HD1 := Lib.hid (below_drewN' (Below.refl Y.heap.size Y) 1)
                  have HN1 := HNX.out Y.drew (LZ.out.bel HD1.out)
                  unfold NextY svV Dee.v at HN1
                  simp only at HN1
                  have HN1 := Lib.hid HN1
                  have HKQ := HKP.out Y (.of_below BWR.out) SZ.out
                  unfold svV at HKQ
                  have HKQ := Lib.hid HKQ
                  have TQ := Lib.hid (hT.out.then (.of_below BWR.out))
                  go_region_law (first | (go_simp; go_at_call 24; refine HN1.out.mono ?_; rintro e w4 ⟨A4, c4, rfl, hl4, hb4⟩; have L4 := Lib.hid hl4; have B4 := Lib.hid (below_trans' HD1.out hb4); clear hl4 hb4) | (go_simp; go_at_call 8; refine (HKQ.out _ _ _ B4.out L4.out).mono ?_; intro e w5 hkd; obtain rfl := hkd.1; have KD5 := Lib.hid hkd; clear hkd))
                  all_goals
                    obtain ⟨hst5, ht5⟩ := HEND.out _ _ (TQ.out.then (.of_below B4.out)) KD5.out
                    have ST5 := Lib.hid hst5
                    have T5 := Lib.hid ht5
                    clear hst5 ht5 k0 k1 k2 k3 k4 q2 q3 q4
                    go_wp2_with fail
                    refine ⟨⟨i + 1, by omega, by simp, ST5, T5⟩, ?_⟩
                    simp [intOf]; omega
            · obtain rfl : i = n := by omega
              have hlt1 : ¬ (i : Int) < (i : Int) := by omega
              obtain ⟨cs, hbx⟩ := hSt.out.blk
              have q0 : wr.cell? ⟨x, 0, none⟩ = some (.pointer (some ⟨d, 0, none⟩)) := hbx.cell 0
              obtain ⟨dk3, s3, per3, hs3, hf3, hq3⟩ := hSt.out
              have SX3 := Lib.hid hs3
              have KR := Lib.hid ((K2.out.wider HLO.out).keep hT.out (fun g e => e))
              have HCR := Lib.hid (crashD wr d F (N + 5 * i) dk3 hs3.is (by omega) kA kn kc z KR.out.1 (fun b o e h0 => by have := KR.out.2.2.2 b o e h0; have := hs3.lo; omega) (by have := KR.out.2; omega) hs3.good.shorts)
              clear hs3 hlt
              go_wp2_with fail
              refine HCR.out.mono ?_
              intro e w4 hc4
              obtain ⟨rfl, ht4, dk4, hr4, hl4⟩ := SX3.out.crash hc4
              have T4 := Lib.hid (hT.out.then (ht4.mono (fun g _ e => DSet.lo SX3.out.lo.2 g e)))
              have R4 := Lib.hid hr4
              obtain ⟨_, _, _, _, _, _, hbx4, _⟩ := hr4.blk
              have q4 : w4.cell? ⟨x, 0, none⟩ = some (.pointer (some ⟨d, 0, none⟩)) := hbx4.cell 0
              have HF2 := fuseD w4 d F (N + 5 * i) dk4.off dk4.fuse dk4.p hr4.is f2 hf2
              rw [fuC_ok hr4.off (by omega)] at HF2
              have HF2 := Lib.hid HF2
              clear hc4 ht4 hr4 hl4 HCR q0 hbx hbx4
              go_wp2_with fail
              refine HF2.out.mono ?_
              rintro e w5 ⟨rfl, hd5, ht5⟩
              have R5 := Lib.hid (R4.out.turn (dk' := ⟨dk4.off, fuN dk4.off dk4.fuse f2, dk4.p⟩) ht5 hd5 rfl rfl)
              have T5 := Lib.hid (T4.out.then (ht5.mono (fun g _ e => DSet.lo R4.out.lo.2 g e)))
              have HO := Lib.hid (open_x w5 H x d F (N + 5 * i) _ s3 per3 R5.out (by omega) (by have := T5.out.size; have := HH2.out; omega))
              clear hd5 ht5 HF2 q4
              go_wp2_with fail
              refine HO.out.mono ?_
              rintro e w6 ⟨rfl, ht6, hcase⟩
              have hSX6 : ∃ dk6 s6 per6, SX w6 H x d F (N + 5 * i + 5) dk6 s6 per6 := by
                rcases hcase with ⟨dk6, s6, wl6, ha6, _⟩ | ⟨dk6, hb6, _⟩
                · exact ⟨dk6, s6, none, .inl ⟨rfl, wl6, ha6⟩⟩
                · exact ⟨dk6, s3, per3, .inr hb6⟩
              obtain ⟨dk6, s6, per6, hs6⟩ := hSX6
              have SX6 := Lib.hid hs6
              have T6 := Lib.hid (T5.out.then (ht6.mono (fun g _ e => XSet.lo R4.out.lo g e)))
              have KR6 := Lib.hid ((K2.out.wider HLO.out).keep T6.out (fun g e => e))
              obtain ⟨_, _, _, _, _, _, hbx6, _⟩ := hs6.blk
              have q0 : w6.cell? ⟨x, 0, none⟩ = some (.pointer (some ⟨d, 0, none⟩)) := hbx6.cell 0
              have HCR := Lib.hid (crashD w6 d F (N + 5 * i + 5) dk6 hs6.is (by omega) kA kn kc z KR6.out.1 (fun b o e h0 => by have := KR6.out.2.2.2 b o e h0; have := hs6.lo; omega) (by have := KR6.out.2; omega) hs6.good.shorts)
              clear hcase ht6 hs6 HO hbx6
              go_wp2_with fail
              refine HCR.out.mono ?_
              intro e w7 hc7
              obtain ⟨rfl, ht7, dk7, hr7, hl7⟩ := SX6.out.crash hc7
              have T7 := Lib.hid (T6.out.then (ht7.mono (fun g _ e => DSet.lo SX6.out.lo.2 g e)))
              have R7 := Lib.hid hr7
              have L7 := Lib.hid hl7
              have HO := Lib.hid (open_x w7 H x d F (N + 5 * i + 5) dk7 s6 per6 hr7 (by omega) (by have := T7.out.size; have := HH2.out; omega))
              clear hc7 ht7 hr7 hl7 HCR q0
              go_wp2_with fail
              refine HO.out.mono ?_
              rintro e w8 ⟨rfl, ht8, hcase⟩
              rcases hcase with ⟨dk8, s8, wl8, ha8, _, _, hl8⟩ | ⟨_, _, hn⟩
              · have T8 := Lib.hid (T7.out.then (ht8.mono (fun g _ e => XSet.lo R7.out.lo g e)))
                have HL8 := Lib.hid (hl8 L7.out)
                obtain ⟨_, _, _, _, _, hb8, _⟩ := ha8.blk
                have HA8 := Lib.hid ha8
                have q1 : w8.cell? ⟨x, 1, none⟩ = some (.pointer (some ⟨wl8, 0, none⟩)) := hb8.cell 1
                have HO2 := Lib.hid (open_x w8 H x d F (N + 5 * i + 5 + 5) dk8 s8 none ha8.rx (by omega) (by have := T8.out.size; have := HH2.out; omega))
                clear ht8 ha8 hl8 hb8 HO
                go_wp2_with fail
                refine HO2.out.mono ?_
                rintro e w9 ⟨rfl, ht9, hcase⟩
                rcases hcase with ⟨dk9, s9, wl9, ha9, _, _, _⟩ | ⟨_, _, hn⟩
                · have T9 := Lib.hid (T8.out.then (ht9.mono (fun g _ e => XSet.lo ⟨HA8.out.lo.1, HA8.out.lo.2.1, HA8.out.lo.2.2.1⟩ g e)))
                  obtain ⟨_, _, _, _, _, hb9, _⟩ := ha9.blk
                  have q9 : w9.cell? ⟨x, 1, none⟩ = some (.pointer (some ⟨wl9, 0, none⟩)) := hb9.cell 1
                  clear ht9 ha9 hb9 q1
                  go_wp2_with fail
                  go_ret
                  exact ⟨rfl, B2.out.trans (T9.out.below (B := w.heap.size) (by have := HLO.out; have := HH2.out; omega) (fun g _ e => by have := HLO.out; omega))⟩
                · exact absurd HL8.out hn
              · exact absurd L7.out hn
end Go.Proofs.YteihedfmmiihiaaGreat
