/- DiskScript: a crash, a read, bytes put behind a file's, done with both disks. -/
import Derived.Test.YtoljnklceghcdaaScOne
namespace Go.Proofs.Ytoljnklceghcdaa
open Go.RowKit Go.Maps Go.Sort Go.Shelf

set_option maxRecDepth 20000 in
set_option maxHeartbeats 4000000 in
theorem one5 (H : Nat) (w : World) (d F N r M : Nat) (v : Value) (s : Dk) (L : List RF) (h : BS H w d F N r v s L) (hN : N ≤ 1000000) (hS : Short s.p M) (hM : M ≤ 1000000) (hH : H ≤ w.heap.size) (k k2 : ByteArray) (A : Option Addr) (m c : Nat) (num : Int) (kA : Option Addr) (kn kc : Nat) (z : Nat → Int) (hk : KeepR w kA kn z) (hkd : ∀ b o, kA = some (⟨b, o, none⟩ : Addr) → 0 < kn → b < H) (hnm : kn ≤ maxLen) :
    Calls Try.prog 23 #[.pointer (some ⟨d, 0, none⟩), .pointer (some ⟨r, 0, none⟩), .agg #[.int .u8 5, .string k, .string k2, .slice A m c, .int .i64 num, .slice kA kn kc]] w (OneY H w d F N r L.length M) := by
  have KW : Hid (Blk (w.alloc (.cells #[.int .u8 5, .string k, .string k2, .slice A m c, .int .i64 num, .slice kA kn kc] 32)) w.heap.size 32 [.int .u8 5, .string k, .string k2, .slice A m c, .int .i64 num, .slice kA kn kc]) := Lib.hid (Blk.new w 32 [.int .u8 5, .string k, .string k2, .slice A m c, .int .i64 num, .slice kA kn kc])
  have BW : Hid (Below w.heap.size w (w.alloc (.cells #[.int .u8 5, .string k, .string k2, .slice A m c, .int .i64 num, .slice kA kn kc] 32))) := Lib.hid (Below.new w (.cells #[.int .u8 5, .string k, .string k2, .slice A m c, .int .i64 num, .slice kA kn kc] 32))
  have HB := Lib.hid (h.bel BW.out)
  have TW0 : Hid (Turns (fun i => H ≤ i) w (w.alloc (.cells #[.int .u8 5, .string k, .string k2, .slice A m c, .int .i64 num, .slice kA kn kc] 32))) := Lib.hid (Turns.of_below BW.out)
  have HSh := Lib.hid hS
  have HK := Lib.hid (hk.turns (.of_below (S := fun _ => False) BW.out) (fun _ _ _ _ => id))
  have HKD := Lib.hid hkd
  have HNM := Lib.hid hnm
  clear h hS hk hkd hnm
  go_enter Try.func23, Try.ntmps23
  go_upto_region 1 with (fail)
  generalize w.alloc (.cells #[.int .u8 5, .string k, .string k2, .slice A m c, .int .i64 num, .slice kA kn kc] 32) = W at *
  generalize w.heap.size = g at *
  have hSW : Short s.p 100000000 := short_more HSh.out (by omega)
  have HD := Lib.hid (crashD W d F N s HB.out.dd hN kA kn kc z HK.out (fun b o e h0 => by have := HKD.out b o e h0; have := HB.out.lo; omega) HNM.out hSW)
  have k0 := KW.out.cell 0
  have k5 := KW.out.cell 5
  simp only [List.getElem?_cons_succ, List.getElem?_cons_zero] at k0 k5
  have HSW := Lib.hid hSW
  clear hSW
  go_upto_region 24 with (go_at_call 12; refine HD.out.mono ?_; rintro e W2 ⟨rfl, ks, hks, h2, t2⟩)
  have hke := hks.one (by have := pOf_keys HB.out.rise; rw [HB.out.eq] at this; exact this)
  subst hke
  have hr2 := HB.out.rr.byD HB.out.dd t2
  have HR := Lib.hid (rcrash H W2 r v s.off s.fuse L hr2 HB.out.rise (by rw [HB.out.eq]; exact HSW.out) kA kn kc z (HK.out.turns t2 (fun b o e h0 hd => by have := HKD.out b o e h0; have := DSet.ge HB.out.lo b hd; omega)) (fun b o e h0 hd => by have := HKD.out b o e h0; have := hr2.ge b hd; omega) HNM.out)
  unfold RCrashY at HR
  rw [HB.out.eq] at HR
  have K2 := Lib.hid (KW.out.turns t2 (step_ne KW.out HB.out.dd))
  have H2 := Lib.hid h2
  have T2 := Lib.hid t2
  clear h2 t2 hr2 k0 k5 hks
  have k0 := K2.out.cell 0
  have k5 := K2.out.cell 5
  simp only [List.getElem?_cons_succ, List.getElem?_cons_zero] at k0 k5
  go_wp2_with (go_at_call 42; refine HR.out.mono ?_; rintro e W3 ⟨rfl, h3⟩; have H3 := Lib.hid h3; clear h3)
  go_ret
  obtain ⟨L0, a1, a2, a3, a4, a5⟩ := H3.out
  obtain ⟨v', L', b3, l3, t3⟩ := HB.out.both (s' := ⟨false, -1, crashF kn z (L.map nm) 0 s.p⟩) H2.out T2.out ⟨v, L0, a1, a2, a3, Nat.le_of_eq a4, a5⟩
  exact ⟨rfl, v', _, L', ⟨b3.dd.wide (by omega), b3.rr, b3.rise, b3.eq, b3.lo⟩, by omega, short_more (short_crash kn z _ 0 _ M HSh.out) (by omega), TW0.out.then t3⟩
set_option maxRecDepth 20000 in
set_option maxHeartbeats 4000000 in
theorem one6 (H : Nat) (w : World) (d F N r M : Nat) (v : Value) (s : Dk) (L : List RF) (h : BS H w d F N r v s L) (hS : Short s.p M) (hM : M ≤ 1000000) (hH : H ≤ w.heap.size) (D : Int) (hD0 : 0 ≤ D) (hD1 : (D == 0) = false) (hD2 : (D == 1) = false) (hD3 : (D == 2) = false) (hD4 : (D == 3) = false) (hD5 : (D == 4) = false) (hD6 : (D == 5) = false) (k k2 : ByteArray) (A : Option Addr) (m c : Nat) (num : Int) (kA : Option Addr) (kn kc : Nat) :
    Calls Try.prog 23 #[.pointer (some ⟨d, 0, none⟩), .pointer (some ⟨r, 0, none⟩), .agg #[.int .u8 D, .string k, .string k2, .slice A m c, .int .i64 num, .slice kA kn kc]] w (OneY H w d F N r L.length M) := by
  have KW : Hid (Blk (w.alloc (.cells #[.int .u8 D, .string k, .string k2, .slice A m c, .int .i64 num, .slice kA kn kc] 32)) w.heap.size 32 [.int .u8 D, .string k, .string k2, .slice A m c, .int .i64 num, .slice kA kn kc]) := Lib.hid (Blk.new w 32 [.int .u8 D, .string k, .string k2, .slice A m c, .int .i64 num, .slice kA kn kc])
  have BW : Hid (Below w.heap.size w (w.alloc (.cells #[.int .u8 D, .string k, .string k2, .slice A m c, .int .i64 num, .slice kA kn kc] 32))) := Lib.hid (Below.new w (.cells #[.int .u8 D, .string k, .string k2, .slice A m c, .int .i64 num, .slice kA kn kc] 32))
  have HB := Lib.hid (h.bel BW.out)
  have TW0 : Hid (Turns (fun i => H ≤ i) w (w.alloc (.cells #[.int .u8 D, .string k, .string k2, .slice A m c, .int .i64 num, .slice kA kn kc] 32))) := Lib.hid (Turns.of_below BW.out)
  have HSh := Lib.hid hS
  clear h hS
  go_enter Try.func23, Try.ntmps23
  go_upto_region 1 with (fail)
  generalize w.alloc (.cells #[.int .u8 D, .string k, .string k2, .slice A m c, .int .i64 num, .slice kA kn kc] 32) = W at *
  generalize w.heap.size = g at *
  have HD := Lib.hid (readD W d F N s HB.out.dd k (by have := HSh.out k; omega))
  have k0 := KW.out.cell 0
  have k1 := KW.out.cell 1
  simp only [List.getElem?_cons_succ, List.getElem?_cons_zero] at k0 k1
  go_upto_region 27 with (go_at_call 13; refine HD.out.mono ?_; rintro e W2 ⟨bv, rfl, b2, ha, hb⟩)
  have hB2 := HB.out.bel b2
  have HR := Lib.hid (rread H W2 r v s.off s.fuse L hB2.rr hB2.rise (by rw [hB2.eq]; exact short_more HSh.out (by omega)) k)
  rw [hB2.eq] at HR
  have K2 := Lib.hid (KW.out.bel b2)
  have HB2 := Lib.hid hB2
  have B2 := Lib.hid b2
  have HX : Hid (∃ A2 n2 c2 l, bv = .slice A2 n2 c2 ∧ Bs W2 A2 n2 l ∧ ∀ t : ByteArray, (thC s.off (s.p k).isSome ≠ 0 → t = ⟨#[]⟩) → (thC s.off (s.p k).isSome = 0 → t.data.toList = (pl s.p k).1) → t = ⟨l.toArray⟩) := Lib.hid (by
    by_cases h0 : thC s.off (s.p k).isSome = 0
    · have h1 := hb h0
      obtain ⟨A2, c2, rfl⟩ := own_slice' h1
      exact ⟨A2, _, c2, (pl s.p k).1, rfl, Bs.of_own h1 rfl, fun t _ ht => key_inj (by rw [ht h0])⟩
    · exact ⟨none, 0, 0, [], ha h0, Bs.nil W2, fun t ht _ => ht h0⟩)
  obtain ⟨A2, n2, c2, l, rfl, hbs, ht⟩ := HX.out
  have HT := Lib.hid ht
  have hcv := run_conv_bs (P := Try.prog) hbs 29 9 5 Try.underlying29 Try.underlying5 Try.underlying9 c2
  have HBs := Lib.hid hbs
  clear hcv hbs ht hB2 b2 ha hb k0 k1 HX HD
  have k0 := K2.out.cell 0
  have k1 := K2.out.cell 1
  simp only [List.getElem?_cons_succ, List.getElem?_cons_zero] at k0 k1
  have HRq : Hid (Calls Try.prog 43 #[.pointer (some ⟨r, 0, none⟩), .string k] W2 fun e w' => e = .returned (.tuple #[.string ⟨l.toArray⟩, .int .i64 (thC s.off (s.p k).isSome)]) ∧ ∃ n, w' = W2.drewN n) := Lib.hid (HR.out.mono fun e w' ⟨t, h1, h2, h3, h4⟩ => ⟨by rw [h1, HT.out t h3 h4], h2⟩)
  generalize thC s.off (s.p k).isSome = tc at *
  go_upto_region 28 with (go_at_call 43; refine HRq.out.mono ?_; rintro e W3 ⟨rfl, nn, rfl⟩)
  have hcv := run_conv_bs (P := Try.prog) (HBs.out.below (below_drewN' (Below.refl _ _) nn)) 29 9 5 Try.underlying29 Try.underlying5 Try.underlying9 c2
  unfold strV at hcv
  go_wp2_with fail
  go_ret
  have hbd := below_drewN' (Below.refl W2.heap.size W2) nn
  have hfin := HB2.out.bel hbd
  exact ⟨rfl, v, s, L, ⟨hfin.dd.wide (by omega), hfin.rr, hfin.rise, hfin.eq, hfin.lo⟩, by omega, short_more HSh.out (by omega), TW0.out.then ((Turns.of_below (S := fun i => H ≤ i) B2.out).then (.of_below hbd))⟩
set_option maxRecDepth 20000 in
set_option maxHeartbeats 8000000 in
theorem one0 (H : Nat) (w : World) (d F N r M : Nat) (v : Value) (s : Dk) (L : List RF) (h : BS H w d F N r v s L) (hS : Short s.p M) (hM : M ≤ 1000000) (hL : L.length < 1000) (hH : H ≤ w.heap.size) (k k2 : ByteArray) (A : Option Addr) (m c : Nat) (lb : List UInt8) (hs : Bs w A m lb) (hlb : lb.length ≤ 5000) (hA : ∀ ad, A = some ad → 0 < lb.length → ad.block < H) (num : Int) (kA : Option Addr) (kn kc : Nat) :
    Calls Try.prog 23 #[.pointer (some ⟨d, 0, none⟩), .pointer (some ⟨r, 0, none⟩), .agg #[.int .u8 0, .string k, .string k2, .slice A m c, .int .i64 num, .slice kA kn kc]] w (OneY H w d F N r L.length M) := by
  have KW : Hid (Blk (w.alloc (.cells #[.int .u8 0, .string k, .string k2, .slice A m c, .int .i64 num, .slice kA kn kc] 32)) w.heap.size 32 [.int .u8 0, .string k, .string k2, .slice A m c, .int .i64 num, .slice kA kn kc]) := Lib.hid (Blk.new w 32 [.int .u8 0, .string k, .string k2, .slice A m c, .int .i64 num, .slice kA kn kc])
  have BW : Hid (Below w.heap.size w (w.alloc (.cells #[.int .u8 0, .string k, .string k2, .slice A m c, .int .i64 num, .slice kA kn kc] 32))) := Lib.hid (Below.new w (.cells #[.int .u8 0, .string k, .string k2, .slice A m c, .int .i64 num, .slice kA kn kc] 32))
  have HB := Lib.hid (h.bel BW.out)
  have TW0 : Hid (Turns (fun i => H ≤ i) w (w.alloc (.cells #[.int .u8 0, .string k, .string k2, .slice A m c, .int .i64 num, .slice kA kn kc] 32))) := Lib.hid (Turns.of_below BW.out)
  have HSh := Lib.hid hS
  have HA := Lib.hid hA
  have HBs := Lib.hid (hs.below BW.out)
  clear h hS hs hA
  go_enter Try.func23, Try.ntmps23
  go_upto_region 1 with (fail)
  have hgH : w.heap.size < (w.alloc (.cells #[.int .u8 0, .string k, .string k2, .slice A m c, .int .i64 num, .slice kA kn kc] 32)).heap.size := by simp
  generalize w.alloc (.cells #[.int .u8 0, .string k, .string k2, .slice A m c, .int .i64 num, .slice kA kn kc] 32) = W at *
  generalize w.heap.size = g at *
  have hcv := run_conv_bs (P := Try.prog) HBs.out 29 9 5 Try.underlying29 Try.underlying5 Try.underlying9 c
  have hcb := conv_bytes W lb (by omega)
  have HCb := Lib.hid hcb
  clear hcb
  obtain ⟨cI, W1, hrun, hbs1, hb1, hz1, hc1, hc2, hfz⟩ := HCb.out
  have k0 := KW.out.cell 0
  have k1 := KW.out.cell 1
  have k3 := KW.out.cell 3
  simp only [List.getElem?_cons_succ, List.getElem?_cons_zero] at k0 k1 k3
  have HRun := Lib.hid hrun
  have HBs1 := Lib.hid hbs1
  have HB1 := Lib.hid hb1
  have HZ1 := Lib.hid hz1
  have HFz := Lib.hid hfz
  clear hrun hbs1 hb1 hz1 hfz HCb
  go_upto_region 4 with (refine wpl_conv_run rfl 9 29 _ rfl _ rfl _ _ HRun.out ?_)
  have hbx : W.heap.size < W1.heap.size := by have := HZ1.out; omega
  have hHb : H ≤ W.heap.size := by omega
  have hav : DS (fun i => i = W.heap.size) W1 d F s.off s.fuse s.p N := (DS.avoid HB.out.dd (fun i hi e => by omega)).bel HB1.out
  have HAv := Lib.hid hav
  have HBB := Lib.hid (HB.out.bel HB1.out)
  have K1 := Lib.hid (KW.out.bel HB1.out)
  have T1 := Lib.hid (TW0.out.then (.of_below HB1.out))
  have HBd := Lib.hid (HBs.out.below HB1.out)
  have hdl := HB.out.dd.lts
  have hgb : g < W.heap.size := hgH
  have HRl : Hid (∀ i, RSet r v i → i < W.heap.size) := Lib.hid (fun i hi => by
    rcases hi with rfl | hi
    · exact HB.out.rr.blk.lt
    · exact (HB.out.rr.row_lt hi).2)
  generalize W.heap.size = bi at *
  clear hav hcv k0 k1 k3 hgH
  have k0 := K1.out.cell 0
  have k1 := K1.out.cell 1
  simp only [List.getElem?_cons_succ, List.getElem?_cons_zero] at k0 k1
  have hpl : (pl s.p k).1.length + lb.length ≤ 100000000 := by have := HSh.out k; omega
  have HD := Lib.hid (appendD W1 d F N s HAv.out k (some ⟨bi, 0, none⟩) lb.length cI lb HBs1.out hc1 hpl (fun i e => by omega))
  obtain ⟨cc, hcc⟩ : ∃ cc, cc = apC s := ⟨_, rfl⟩
  rw [← hcc] at HD
  have HCc := Lib.hid hcc
  clear hcc
  go_upto_region 5 with (go_at_call 10; refine HD.out.mono ?_; rintro e W2 ⟨rfl, h2, t2⟩)
  have hr2 := HBB.out.rr.byD HAv.out t2
  have hnd : ¬ DSet d F bi := fun e => by rcases e with e | e <;> omega
  have hbi2 : ∀ i, i < lb.length → (∃ u, W2.cell? ⟨bi, i, none⟩ = some u) ∧ W2.frozen? ⟨bi, i, none⟩ = false := fun i hi => by
    obtain ⟨ad, e1, e2, e3⟩ := HBs1.out.cell i hi
    injection e1 with e1
    subst e1
    have e4 : (⟨bi, 0, none⟩ : Addr).add i = ⟨bi, i, none⟩ := by simp [Addr.add]; omega
    rw [e4] at e3
    exact ⟨⟨_, (t2.cell (p := ⟨bi, i, none⟩) e2 hnd).trans e3⟩, (t2.fz (p := ⟨bi, i, none⟩) e2 hnd).trans (HFz.out i hi)⟩
  have HI2 := Lib.hid hbi2
  have H2 := Lib.hid h2
  have T2 := Lib.hid t2
  have R2 := Lib.hid hr2
  have hdl2 := h2.lts
  have hbw : bi < W2.heap.size := by have := t2.size; omega
  clear h2 t2 hr2 hbi2 hnd k0 k1 HD
  go_wp2_with fail
  go_loopw [9] (fun iv wv => ∃ i : Nat, i ≤ lb.length ∧ iv = .int .i64 (i : Int) ∧ Hid (∀ i, i < lb.length → (∃ u, wv.cell? ⟨bi, i, none⟩ = some u) ∧ wv.frozen? ⟨bi, i, none⟩ = false) ∧ Hid (Turns (fun j => j = bi) W2 wv)) (fun iv _ => lb.length - (intOf iv).toNat)
  case atStart => exact ⟨0, by omega, rfl, HI2, Lib.hid (Turns.refl _ _)⟩
  case round =>
    obtain ⟨i, hi, rfl, hI, hT⟩ := hrel
    by_cases hlt : i < lb.length
    · have hlt1 : (i : Int) < (lb.length : Int) := by omega
      obtain ⟨⟨u, hu⟩, hz⟩ := hI.out i hlt
      have HT2 := Lib.hid (hT.out.set ⟨bi, i, none⟩ (.int .u8 98) (fun _ => rfl))
      have HI3 : Hid (∀ j, j < lb.length → (∃ u, (wr.setCell ⟨bi, i, none⟩ (.int .u8 98)).cell? ⟨bi, j, none⟩ = some u) ∧ (wr.setCell ⟨bi, i, none⟩ (.int .u8 98)).frozen? ⟨bi, j, none⟩ = false) := Lib.hid (fun j hj => by
        rw [World.frozen?_setCell]
        refine ⟨?_, (hI.out j hj).2⟩
        by_cases e : i = j
        · subst e
          exact ⟨_, World.cell?_setCell_same _ _ _ hu⟩
        · rw [World.cell?_setCell_other (h := fun e2 : (⟨bi, i, none⟩ : Addr) = ⟨bi, j, none⟩ => e (by injection e2))]
          exact (hI.out j hj).1)
      unfold maxLen at hc2
      clear hI hT
      go_wp2_with fail
      go_roundw
      case measure => simp only [intOf]; omega
      case rel => exact ⟨i + 1, by omega, by go_num, HI3, HT2⟩
    · obtain rfl : i = lb.length := by omega
      have hlt1 : ¬ (lb.length : Int) < (lb.length : Int) := by omega
      have hnw := hT.out
      have hd3 : DS (fun i => i = bi) wr d F (apS s k lb).off (apS s k lb).fuse (apS s k lb).p (N + 1) := H2.out.keep hnw (by omega) (by omega) (fun _ _ _ hn e => hn e)
      have hd4 : DS Ny wr d F (apS s k lb).off (apS s k lb).fuse (apS s k lb).p (N + 1) := hd3.avoid (fun _ _ e => e.elim)
      have hr3 := R2.out.keep hnw (fun i hi e => by have := HRl.out i hi; omega)
      have hk3 := (K1.out.turns T2.out (step_ne K1.out HAv.out)).turns hnw (by omega)
      have hbd3 := (HBd.out.turns T2.out (fun ad e h0 hd => by have := HA.out ad e h0; have := DSet.ge HB.out.lo _ hd; omega)).turns hnw (fun ad e h0 hd => by have := HA.out ad e h0; omega)
      have hSW : Short s.p 100000000 := short_more HSh.out (by omega)
      have HR := Lib.hid (rappend H wr r v s.off s.fuse L hr3 HB.out.rise (by rw [HB.out.eq]; exact hSW) hL k A m c lb hbd3 (fun ad e h0 hd => by have := HA.out ad e h0; have := HB.out.rr.lo; omega) (by omega))
      rw [HB.out.eq] at HR
      have e1 : apC s = cc := HCc.out.symm
      have HR2 : Hid (Calls Try.prog 37 _ wr (OpY H wr r v (L.length + 1) cc (apS s k lb))) := Lib.hid (by rw [← e1]; exact HR.out)
      have D4 := Lib.hid hd4
      have R3 := Lib.hid hr3
      have T3 := Lib.hid hnw
      clear e1 HR hd3 hd4 hr3 hbd3 hSW hnw hI
      have k0 := hk3.cell 0
      have k1 := hk3.cell 1
      have k3 := hk3.cell 3
      simp only [List.getElem?_cons_succ, List.getElem?_cons_zero] at k0 k1 k3
      clear hk3
      go_wp2_with (go_at_call 37; refine HR2.out.mono ?_; rintro e W3 ⟨rfl, h3⟩; have H3 := Lib.hid h3; clear h3)
      go_ret
      obtain ⟨v', L', a1, a2, a3, a4, a5⟩ := H3.out
      exact ⟨rfl, v', _, L', ⟨DS.byR D4.out R3.out a5, a1, a2, a3, HB.out.lo⟩, a4, short_op (op := 0) HSh.out k k2 lb (M + 5000) (by omega), (T1.out.then ((T2.out.mono (fun i _ e => DSet.ge HB.out.lo i e)).then ((T3.out.mono (fun i _ e => by omega)).then (a5.mono (fun i _ e => R3.out.ge i e)))))⟩
end Go.Proofs.Ytoljnklceghcdaa
