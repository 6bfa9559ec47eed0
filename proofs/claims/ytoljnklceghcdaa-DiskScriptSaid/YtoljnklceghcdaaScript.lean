/- DiskScript: the walk. -/
import Derived.Test.YtoljnklceghcdaaScOne2
import Derived.Lib.SlBytesConst
namespace Go.Proofs.Ytoljnklceghcdaa
open Go.RowKit Go.Maps Go.Sort Go.Shelf

theorem one_any (H : Nat) (w : World) (d F N r M : Nat) (v : Value) (s : Dk) (L : List RF) (h : BS H w d F N r v s L) (hN : N ≤ 1000000) (hS : Short s.p M) (hM : M ≤ 1000000) (hL : L.length < 1000) (hH : H ≤ w.heap.size) (x : Stp) (hs : Bs w x.dA x.dn x.data) (hlb : x.data.length ≤ 5000) (hA : ∀ ad, x.dA = some ad → 0 < x.data.length → ad.block < H) (hk : KeepR w x.kA x.kn x.z) (hkd : ∀ b o, x.kA = some (⟨b, o, none⟩ : Addr) → 0 < x.kn → b < H) (hnm : x.kn ≤ maxLen) (hnum : x.num ≤ 9223372036854775807) (hd : 0 ≤ x.d) :
    Calls Try.prog 23 #[.pointer (some ⟨d, 0, none⟩), .pointer (some ⟨r, 0, none⟩), .agg #[.int .u8 x.d, .string x.name, .string x.to_, .slice x.dA x.dn x.dc, .int .i64 x.num, .slice x.kA x.kn x.kc]] w (OneY H w d F N r L.length M) := by
  obtain ⟨D, k, k2, A, m, c, lb, num, kA, kn, kc, z⟩ := x
  simp only at *
  by_cases h0 : D = 0
  · subst h0
    exact one0 H w d F N r M v s L h hS hM hL hH k k2 A m c lb hs hlb hA num kA kn kc
  by_cases h1 : D = 1
  · subst h1
    exact one1 H w d F N r M v s L h hN hS hM hL hH k k2 A m c num hnum kA kn kc
  by_cases h2 : D = 2
  · subst h2
    exact one2 H w d F N r M v s L h hN hS hM hL hH k k2 A m c num hnum kA kn kc
  by_cases h3 : D = 3
  · subst h3
    exact one3 H w d F N r M v s L h hN hS hM hL hH k k2 A m c num hnum kA kn kc
  by_cases h4 : D = 4
  · subst h4
    exact one4 H w d F N r M v s L h hN hS hM hL hH k k2 A m c num hnum kA kn kc
  by_cases h5 : D = 5
  · subst h5
    exact one5 H w d F N r M v s L h hN hS hM hH k k2 A m c num kA kn kc z hk hkd hnm
  exact one6 H w d F N r M v s L h hS hM hH D hd (beq_eq_false_iff_ne.2 h0) (beq_eq_false_iff_ne.2 h1) (beq_eq_false_iff_ne.2 h2) (beq_eq_false_iff_ne.2 h3) (beq_eq_false_iff_ne.2 h4) (beq_eq_false_iff_ne.2 h5) k k2 A m c num kA kn kc
theorem told_any (H : Nat) (w : World) (d F N r : Nat) (v : Value) (s : Dk) (L : List RF) (h : BS H w d F N r v s L) (hN : N ≤ 1000000) (hS : Short s.p 100000000) :
    Calls Try.prog 24 #[.pointer (some ⟨d, 0, none⟩), .pointer (some ⟨r, 0, none⟩)] w fun e w' => e = .returned (.bool true) ∧ Below w.heap.size w w' := by
  cases ho : s.off with
  | false => exact told_on H w d F N r v s L h hN hS ho
  | true => exact told_off H w d F N r v s L h hN ho
theorem below_to {H : Nat} {w w1 w2 : World} (hH : w.heap.size = H) (b : Below H w w1) (t : Turns (fun i => H ≤ i) w1 w2) : Below H w w2 := by
  subst hH
  exact ((Turns.of_below (S := fun i => w.heap.size ≤ i) b).then t).below (Nat.le_refl _) (fun _ _ e => e)
theorem bs_more (w : World) : Bs (w.alloc (.cells #[.int .u8 109, .int .u8 111, .int .u8 114, .int .u8 101] 5 (4, 5))) (some ⟨w.heap.size, 0, none⟩) 4 [109, 111, 114, 101] :=
  ⟨rfl, by decide, fun i hi => ⟨_, rfl, by simp, by
    have e : (⟨w.heap.size, 0, none⟩ : Addr).add i = ⟨w.heap.size, i, none⟩ := by simp [Addr.add]; omega
    have e2 : ∀ i, (w.alloc (.cells #[.int .u8 109, .int .u8 111, .int .u8 114, .int .u8 101] 5 (4, 5))).cell? ⟨w.heap.size, i, none⟩ = (#[Value.int .u8 109, .int .u8 111, .int .u8 114, .int .u8 101] : Array Value)[i]? := fun i => cell_of_row _ _ i _ _ _ (heap_alloc_new w _)
    rw [e, e2]
    have : i = 0 ∨ i = 1 ∨ i = 2 ∨ i = 3 := by simp at hi; omega
    rcases this with rfl | rfl | rfl | rfl <;> rfl⟩⟩
set_option maxRecDepth 20000 in
set_option maxHeartbeats 8000000 in
theorem script_any (w : World) (a : Option Addr) (len c : Nat) (S : Nat → Stp) (h : Stps w a len S) : Calls Try.prog 5 #[.slice a len c] w fun e w' => e = .returned (.bool true) ∧ Below w.heap.size w w' := by
  have HS := Lib.hid h
  have HA := Lib.hid (awake_any w)
  clear h
  go_enter Try.func5, Try.ntmps5
  go_upto_region 3 with (go_at_call 7; refine HA.out.mono ?_; rintro e w1 ⟨rfl, hb1⟩; have HB1 := Lib.hid hb1; clear hb1)
  have HL := Lib.hid (long_any w1 a len c S (HS.out.bel HB1.out))
  go_wp2_with (go_at_call 8; refine HL.out.mono ?_; rintro e w1' ⟨b, rfl, hb, rfl⟩; have HBL := Lib.hid hb; clear hb)
  · go_ret
    exact ⟨rfl, HB1.out⟩
  refine (newD (Xs := Ny) w1').mono ?_
  rintro e w2 ⟨rfl, d2, b2⟩
  obtain ⟨hn80, hSd⟩ := HBL.out (by assumption)
  have HSD := Lib.hid hSd
  obtain ⟨d, hd0⟩ : ∃ d, d = w1'.heap.size + 1 := ⟨_, rfl⟩
  obtain ⟨F, hF0⟩ : ∃ F, F = w1'.heap.size := ⟨_, rfl⟩
  rw [← hd0, ← hF0] at d2
  rw [← hd0]
  have hlo : w.heap.size ≤ d ∧ w.heap.size ≤ F := by have := HB1.out.size; omega
  have D2 := Lib.hid d2
  have B2 := Lib.hid (below_trans' HB1.out b2)
  have HN := Lib.hid (rnew w2)
  clear d2 b2 hSd hd0 hF0
  go_upto_region 7 with (go_at_call 20; refine HN.out.mono ?_; rintro e w3 ⟨rfl, r3, b3⟩)
  obtain ⟨r, hr0⟩ : ∃ r, r = w2.heap.size := ⟨_, rfl⟩
  rw [← hr0] at r3
  rw [← hr0]
  have hrs : RS w.heap.size w3 r (.slice none 0 0) false (-1) [] := ⟨r3.blk, own_base r3.row (by have := B2.out.size; omega), r3.few, by have := B2.out.size; omega, r3.num⟩
  have hBS0 : BS w.heap.size w3 d F 0 r (.slice none 0 0) ⟨false, -1, fun _ => none⟩ [] := ⟨D2.out.bel b3, hrs, List.Pairwise.nil, rfl, hlo⟩
  have HBS0 := Lib.hid hBS0
  have HK := Lib.hid (below_trans' B2.out b3)
  clear hBS0 hrs r3 b3 hr0 hlo
  generalize hH : w.heap.size = H at *
  have HH := Lib.hid hH
  clear hH
  go_wp2_with fail
  go_loopw [3, 5] (fun dv iv wr => ∃ (i d F : Nat) (v : Value) (s : Dk) (L : List RF), i ≤ len ∧ dv = .pointer (some ⟨d, 0, none⟩) ∧ iv = .int .i64 (i : Int) ∧ Hid (BS H wr d F i r v s L) ∧ Hid (L.length ≤ i) ∧ Hid (Short s.p (5000 * i)) ∧ Hid (Below H w wr)) (fun _ iv _ => len - (intOf iv).toNat)
  case atStart => exact ⟨0, d, F, _, _, [], by omega, rfl, rfl, HBS0, Lib.hid (Nat.le_refl _), Lib.hid (fun k => by simp [pl]), HK⟩
  case round =>
    obtain ⟨i, d, F, v, s, L, hi, rfl, rfl, HBs, HLn, HSh, HBe⟩ := hrel
    by_cases hlt : i < len
    · have hlt1 : (i : Int) < (len : Int) := by omega
      obtain ⟨b, o, rfl, hbl, c0, c1, c2, c3, c4, c5⟩ := (HS.out.bel (by rw [HH.out]; exact HBe.out)).cell i hlt
      have KW : Hid (Blk (wr.alloc (.cells #[.int .u8 (S i).d, .string (S i).name, .string (S i).to_, .slice (S i).dA (S i).dn (S i).dc, .int .i64 (S i).num, .slice (S i).kA (S i).kn (S i).kc] 32)) wr.heap.size 32 [.int .u8 (S i).d, .string (S i).name, .string (S i).to_, .slice (S i).dA (S i).dn (S i).dc, .int .i64 (S i).num, .slice (S i).kA (S i).kn (S i).kc]) := Lib.hid (Blk.new wr 32 [.int .u8 (S i).d, .string (S i).name, .string (S i).to_, .slice (S i).dA (S i).dn (S i).dc, .int .i64 (S i).num, .slice (S i).kA (S i).kn (S i).kc])
      have BW : Hid (Below wr.heap.size wr (wr.alloc (.cells #[.int .u8 (S i).d, .string (S i).name, .string (S i).to_, .slice (S i).dA (S i).dn (S i).dc, .int .i64 (S i).num, .slice (S i).kA (S i).kn (S i).kc] 32))) := Lib.hid (Below.new wr (.cells #[.int .u8 (S i).d, .string (S i).name, .string (S i).to_, .slice (S i).dA (S i).dn (S i).dc, .int .i64 (S i).num, .slice (S i).kA (S i).kn (S i).kc] 32))
      have HBW := Lib.hid (HBs.out.bel BW.out)
      have HBeW : Hid (Below H w (wr.alloc (.cells #[.int .u8 (S i).d, .string (S i).name, .string (S i).to_, .slice (S i).dA (S i).dn (S i).dc, .int .i64 (S i).num, .slice (S i).kA (S i).kn (S i).kc] 32))) := Lib.hid (below_to HH.out HBe.out (.of_below BW.out))
      have hHw : H ≤ (wr.alloc (.cells #[.int .u8 (S i).d, .string (S i).name, .string (S i).to_, .slice (S i).dA (S i).dn (S i).dc, .int .i64 (S i).num, .slice (S i).kA (S i).kn (S i).kc] 32)).heap.size := by have h1 := HBeW.out.size; have h2 := HH.out; omega
      have hnum := HS.out.num i hlt
      have hdl := (HSD.out i hlt).1
      go_upto_region 11 with (fail)
      generalize wr.alloc (.cells #[.int .u8 (S i).d, .string (S i).name, .string (S i).to_, .slice (S i).dA (S i).dn (S i).dc, .int .i64 (S i).num, .slice (S i).kA (S i).kn (S i).kc] 32) = W at *
      generalize wr.heap.size = g at *
      clear c0 c1 c2 c3 c4 c5
      have k0 := KW.out.cell 0
      have k1 := KW.out.cell 1
      have k2 := KW.out.cell 2
      have k3 := KW.out.cell 3
      have k4 := KW.out.cell 4
      have k5 := KW.out.cell 5
      simp only [List.getElem?_cons_succ, List.getElem?_cons_zero] at k0 k1 k2 k3 k4 k5
      have hshW : Short s.p 100000000 := short_more HSh.out (by omega)
      have HShW := Lib.hid hshW
      clear hshW
      by_cases h6 : (S i).d = 6
      · have HTw := Lib.hid (twinD W d F i s HBW.out.dd HShW.out (Ys := Ny) (fun _ e => e.elim))
        rw [h6] at k0
        have H6 := Lib.hid h6
        clear h6
        go_upto_region 13 with (go_at_call 21; refine HTw.out.mono ?_; rintro e W2 ⟨d2, F2, rfl, hs2, hd2, hF2, hb2⟩)
        have HT2 := Lib.hid hs2
        have hB2 := HBW.out.bel hb2
        have HB2 := Lib.hid hB2
        have hdl2 := HBW.out.dd.lts
        have hne : d2 ≠ d ∧ F2 ≠ F := by omega
        have hge2 : H ≤ d2 ∧ H ≤ F2 := by omega
        have K2 := Lib.hid (KW.out.bel hb2)
        have BE2 := Lib.hid (below_to HH.out HBeW.out (.of_below hb2))
        have BXm : Hid (Below W2.heap.size W2 (W2.alloc (.cells #[.int .u8 109, .int .u8 111, .int .u8 114, .int .u8 101] 5 (4, 5)))) := Lib.hid (Below.new W2 _)
        have HB3 := Lib.hid (HB2.out.bel BXm.out)
        have HT3 := Lib.hid (DS.bel HT2.out BXm.out)
        have K3 := Lib.hid (K2.out.bel BXm.out)
        have BE3 := Lib.hid (below_to HH.out BE2.out (.of_below BXm.out))
        have HAp := Lib.hid (appendD (W2.alloc (.cells #[.int .u8 109, .int .u8 111, .int .u8 114, .int .u8 101] 5 (4, 5))) d F i s HB3.out.dd (S i).name _ 4 4 [109, 111, 114, 101] (bs_more W2) (Nat.le_refl _) (by have := HSh.out (S i).name; simp; omega) (fun _ e => e.elim))
        clear hs2 hb2 hB2 k0 k1 k2 k3 k4 k5
        have k1 := K2.out.cell 1
        simp only [List.getElem?_cons_succ, List.getElem?_cons_zero] at k1
        have kc := fun (w : World) (C : Array Value) (n c : Nat) => Lib.run_convert_bytes_const (P := Try.prog) w 29 5 C n c Try.underlying29 Try.underlying5
        go_upto_region 14 with (go_at_call 10; refine HAp.out.mono ?_; rintro e W4 ⟨rfl, h4, t4⟩)
        have H4 := Lib.hid h4
        have K4 := Lib.hid (K3.out.turns t4 (step_ne K3.out HB3.out.dd))
        have HT4 := Lib.hid (DS.other HT3.out HB3.out.dd t4 hne.1 hne.2)
        have HR4 := Lib.hid (HB3.out.rr.byD HB3.out.dd t4)
        have BE4 := Lib.hid (below_to HH.out BE3.out (t4.mono (T := fun i => H ≤ i) (fun i _ e => DSet.ge HBW.out.lo i e)))
        have HRm := Lib.hid (removeD W4 d F (i + 1) (apS s (S i).name [109, 111, 114, 101]) h4 (S i).to_)
        clear h4 t4 k1 kc
        have k2 := K4.out.cell 2
        simp only [List.getElem?_cons_succ, List.getElem?_cons_zero] at k2
        go_upto_region 15 with (go_at_call 22; refine HRm.out.mono ?_; rintro e W5 ⟨rfl, h5, t5⟩)
        have HT5 := Lib.hid (DS.other HT4.out H4.out t5 hne.1 hne.2)
        have HR5 := Lib.hid (HR4.out.byD H4.out t5)
        have BE5 := Lib.hid (below_to HH.out BE4.out (t5.mono (T := fun i => H ≤ i) (fun i _ e => DSet.ge HBW.out.lo i e)))
        have hsx : Short (rmS (apS s (S i).name [109, 111, 114, 101]) (S i).to_).p 100000000 := short_more (short_op (op := 3) (short_op (op := 0) HSh.out (S i).name (S i).name [109, 111, 114, 101] (5000 * i + 4) (by simp)) (S i).to_ (S i).to_ [] (5000 * i + 4) (by simp)) (by omega)
        have HCr := Lib.hid (crashD W5 d F (i + 1) (rmS (apS s (S i).name [109, 111, 114, 101]) (S i).to_) h5 (by omega) none 0 0 (fun _ => 0) (KeepR.nil _ _) (fun _ _ _ h0 => absurd h0 (Nat.lt_irrefl _)) (Nat.zero_le _) hsx)
        have H5 := Lib.hid h5
        clear h5 t5 k2 hsx
        go_upto_region 16 with (go_at_call 12; refine HCr.out.mono ?_; rintro e W6 ⟨rfl, ks, _, _, t6⟩)
        have HT6 := Lib.hid (DS.other HT5.out H5.out t6 hne.1 hne.2)
        have HR6 := Lib.hid (HR5.out.byD H5.out t6)
        have BE6 := Lib.hid (below_to HH.out BE5.out (t6.mono (T := fun i => H ≤ i) (fun i _ e => DSet.ge HBW.out.lo i e)))
        have hb6 : BS H W6 d2 F2 i r v s L := ⟨HT6.out, HR6.out, HBW.out.rise, HBW.out.eq, hge2⟩
        have HB6 := Lib.hid hb6
        have HTo := Lib.hid (told_any H W6 d2 F2 i r v s L hb6 (by omega) HShW.out)
        clear hb6 t6
        go_wp2_with (go_at_call 24; refine HTo.out.mono ?_; rintro e W7 ⟨rfl, hb7⟩; have HB7 := Lib.hid hb7; clear hb7)
        have HB8 := HB6.out.bel HB7.out
        have HB9 : Hid (BS H W7 d2 F2 (i + 1) r v s L) := Lib.hid ⟨HB8.dd.wide (by omega), HB8.rr, HB8.rise, HB8.eq, HB8.lo⟩
        have HL9 : Hid (L.length ≤ i + 1) := Lib.hid (by have := HLn.out; omega)
        have HS9 : Hid (Short s.p (5000 * (i + 1))) := Lib.hid (short_more HSh.out (by omega))
        have BE7 := Lib.hid (below_to HH.out BE6.out (.of_below HB7.out))
        clear HB8
        go_roundw
        case measure => simp only [intOf]; omega
        case rel => exact ⟨i + 1, d2, F2, v, s, L, by omega, rfl, by go_num, HB9, HL9, HS9, BE7⟩
      · have hD6 : ((S i).d == 6) = false := beq_eq_false_iff_ne.2 h6
        have HData := Lib.hid ((HS.out.data i hlt).1.below (by rw [HH.out]; exact HBeW.out))
        have HKeep := Lib.hid ((HS.out.keep i hlt).1.turns (S := fun r => w.heap.size ≤ r) (.of_below (by rw [HH.out]; exact HBeW.out)) (fun b' o' e h0 => by obtain ⟨b2, o2, e2, h2, _⟩ := (HS.out.keep i hlt).1.cell 0 h0; rw [e] at e2; injection e2 with e2; injection e2 with e2 _ _; omega))
        have HOne := Lib.hid (one_any H W d F i r (5000 * i) v s L HBW.out (by omega) HSh.out (by omega) (by have := HLn.out; omega) hHw (S i) HData.out hdl (fun ad e h0 => by obtain ⟨a2, e2, h2, _⟩ := (HS.out.data i hlt).1.cell 0 h0; rw [e] at e2; injection e2 with e2; subst e2; have := HH.out; omega) HKeep.out (fun b' o' e h0 => by obtain ⟨b2, o2, e2, h2, _⟩ := (HS.out.keep i hlt).1.cell 0 h0; rw [e] at e2; injection e2 with e2; injection e2 with e2 _ _; have := HH.out; omega) (by have := (HS.out.keep i hlt).2; omega) hnum.2.2 hnum.1.1)
        have H6 := Lib.hid h6
        clear h6
        go_upto_region 19 with (go_at_call 23; refine HOne.out.mono ?_; rintro e W3 ⟨rfl, v', s', L', hb3, hl3, hs3, ht3⟩)
        have HB3 := Lib.hid hb3
        have HL3 : Hid (L'.length ≤ i + 1) := Lib.hid (by have := HLn.out; omega)
        have HS3 : Hid (Short s'.p (5000 * (i + 1))) := Lib.hid (short_more hs3 (by omega))
        have BE3 := Lib.hid (below_to HH.out HBeW.out ht3)
        have HTo := Lib.hid (told_any H W3 d F (i + 1) r v' s' L' hb3 (by omega) (short_more HS3.out (by omega)))
        clear hb3 hl3 hs3 ht3 k0 k1 k2 k3 k4 k5
        go_wp2_with (go_at_call 24; refine HTo.out.mono ?_; rintro e W4 ⟨rfl, hb4⟩; have HB4 := Lib.hid hb4; clear hb4)
        go_roundw
        case measure => simp only [intOf]; omega
        case rel => exact ⟨i + 1, d, F, v', s', L', by omega, rfl, by go_num, Lib.hid (HB3.out.bel HB4.out), HL3, HS3, Lib.hid (below_to HH.out BE3.out (.of_below HB4.out))⟩
    · obtain rfl : i = len := by omega
      have hlt1 : ¬ (i : Int) < (i : Int) := by omega
      go_wp2_with fail
      go_ret
      exact ⟨rfl, by rw [HH.out]; exact HBe.out⟩
end Go.Proofs.Ytoljnklceghcdaa
