/- The document's disk in memory: Sync, Rename. -/
import Derived.Test.YtoljnklceghcdaaRdOps
namespace Go.Proofs.Ytoljnklceghcdaa
open Go.RowKit Go.Maps Go.Sort Go.Shelf

theorem fd_sync (f : RF) (k : ByteArray) : (⟨k, f.last ++ f.waits, ⟨#[]⟩⟩ : RF).fd = (f.fd.1, f.fd.1.length) := by
  unfold RF.fd
  refine Prod.ext ?_ ?_
  · show (f.last ++ f.waits).data.toList ++ [] = _
    rw [List.append_nil, toL_app]
  · show (f.last ++ f.waits).size = (f.last.data.toList ++ f.waits.data.toList).length
    rw [← size_toL, toL_app]
theorem pl_size {L : List RF} (hR : Rise L) {M : Nat} (hS : Short (pOf L) M) {i : Nat} (hi : i < L.length) : (gF L i).last.size + (gF L i).waits.size ≤ M := by
  have := hS (gF L i).name
  rw [pl_at hR hi] at this
  unfold RF.fd at this
  simp only at this
  rw [List.length_append, size_toL, size_toL] at this
  exact this
theorem RS.box {H : Nat} {w w2 : World} {r b : Nat} {v : Value} {off : Bool} {left : Int} {L : List RF} (h : RS H w r v off left L) (k : Turns (fun j => j = b) w w2) (hb : w.heap.size ≤ b) : RS H w2 r v off left L :=
  h.keep k (fun i hi e => by
    rcases hi with hi | hi
    · have := h.blk.lt; omega
    · have := h.row_lt hi; omega)
set_option maxRecDepth 20000 in
set_option maxHeartbeats 4000000 in
theorem rsync (H : Nat) (w : World) (r : Nat) (v : Value) (off : Bool) (left : Int) (L : List RF) (h : RS H w r v off left L) (hR : Rise L) (hS : Short (pOf L) 100000000) (hn : L.length < 1000) (k : ByteArray) :
    Calls Try.prog 38 #[.pointer (some ⟨r, 0, none⟩), .string k] w (OpY H w r v (L.length + 1) (chC ⟨off, left, pOf L⟩ k) (syS ⟨off, left, pOf L⟩ k)) := by
  have HA := Lib.hid (rasked H w r v off left L h hR k)
  have HR := Lib.hid hR
  have HSh := Lib.hid hS
  clear h hR hS
  go_enter Try.func38, Try.ntmps38
  go_wp2_with fail
  refine HA.out.mono ?_
  rintro e w1 ⟨c, off', left', rfl, h1, t1, ⟨rfl, hc, hs, i, hi, hk⟩ | ⟨hc0, hc, hs⟩⟩
  · have HI := Lib.hid hi
    have hz := pl_size HR.out HSh.out hi
    have HF : Hid (∀ W, Below w1.heap.size w1 W → Calls Try.prog 49 #[.pointer (some ⟨r, 0, none⟩), .string k] W fun e w' => e = .returned (.int .i64 (i : Int)) ∧ w' = W) := Lib.hid (fun W hW => by rw [hk]; exact rfind_at H W r v off' left' L (h1.bel hW) HR.out i hi)
    obtain ⟨c0, _, _⟩ := h1.cells
    have H1 := Lib.hid h1
    have T1 := Lib.hid t1
    have HC := Lib.hid hc
    have HS := Lib.hid hs
    have HK := Lib.hid hk
    have hiI : (i : Int) < (L.length : Int) := by omega
    obtain ⟨A0, cv, rfl⟩ := own_slice' h1.row
    obtain ⟨g, rfl, hg, hnc, hcm, b0, b1, b2⟩ := gF_cells h1.row i hi
    unfold maxLen at hcm
    clear h1 t1 hc hs hk
    go_upto_region 3 with (fail)
    have HGf : Hid (∃ fn fl fw, fn = (gF L i).name ∧ fl = (gF L i).last ∧ fw = (gF L i).waits) := Lib.hid ⟨_, _, _, rfl, rfl, rfl⟩
    obtain ⟨fn, fl, fw, efn, efl, efw⟩ := HGf.out
    rw [← efn] at b0
    rw [← efl] at b1 hz
    rw [← efw] at b2 hz
    have EFn := Lib.hid efn
    have EFl := Lib.hid efl
    have EFw := Lib.hid efw
    clear efn efl efw
    have ne0 := World.new_ne w1 _ c0
    have ne1 := World.new_ne w1 _ b0
    have ne2 := World.new_ne w1 _ b1
    have ne3 := World.new_ne w1 _ b2
    have HX : Hid (Blk (w1.alloc (.cells #[.string fn, .string fl, .string fw] 71)).drew w1.heap.size 71 [.string fn, .string fl, .string fw]) := Lib.hid ((Blk.new w1 71 [.string fn, .string fl, .string fw]).drewN 1)
    have BX : Hid (Below w1.heap.size w1 (w1.alloc (.cells #[.string fn, .string fl, .string fw] 71)).drew) := Lib.hid (below_drewN' (Below.new w1 (.cells #[.string fn, .string fl, .string fw] 71)) 1)
    have HBx : Hid (w1.heap.size ≤ w1.heap.size) := Lib.hid (Nat.le_refl _)
    go_region_held3 (fun Y => Y.cell? ⟨r, 0, none⟩ = some (.slice (some ⟨g, 0, none⟩) L.length cv) ∧ Y.cell? ⟨g, i * 3, none⟩ = some (.string fn) ∧ Y.cell? ⟨g, i * 3 + 1, none⟩ = some (.string fl) ∧ Y.cell? ⟨g, i * 3 + 2, none⟩ = some (.string fw)) (go_keep) ((go_at_call 49; refine (HF.out _ (by first | exact below_drewN' (Below.refl _ _) 1 | exact below_drewN' (Below.new _ _) 1)).mono ?_; rintro e w' ⟨rfl, rfl⟩))
    all_goals
      clear ne0 ne1 ne2 ne3 b0 b1 b2 c0 HF
      have H2 := Lib.hid (H1.out.bel BX.out)
      have T2 := Lib.hid (T1.out.then (.of_below BX.out))
      have hbx : w1.heap.size < w1.heap.size + 1 := Nat.lt_succ_self _
      have hsz : (w1.alloc (.cells #[.string fn, .string fl, .string fw] 71)).drew.heap.size = w1.heap.size + 1 := by simp
      have hwb : w.heap.size ≤ w1.heap.size := T1.out.size
      have hrb : r < w1.heap.size := H1.out.blk.lt
      have RNE : Hid (∀ i, RSet r (.slice (some ⟨g, 0, none⟩) L.length cv) i → i < w1.heap.size) := Lib.hid (fun i hi => by
        rcases hi with hi | hi
        · omega
        · exact (H1.out.row_lt hi).2)
      clear hbx hsz
      generalize (w1.alloc (.cells #[.string fn, .string fl, .string fw] 71)).drew = X at *
      generalize w1.heap.size = bx at *
      have k1 := HX.out.cell 1
      have k2 := HX.out.cell 2
      have z1 := HX.out.fz 1
      have z2 := HX.out.fz 2
      simp only [List.getElem?_cons_succ, List.getElem?_cons_zero] at k1 k2
      go_upto_region 6 with (fail)
      have TX : Turns (fun j => j = bx) X ((X.setCell ⟨bx, 1, none⟩ (.string (fl ++ fw))).setCell ⟨bx, 2, none⟩ (.string ⟨#[]⟩)) := ((Turns.refl (fun j => j = bx) X).set ⟨bx, 1, none⟩ _ (fun _ => rfl)).set ⟨bx, 2, none⟩ _ (fun _ => rfl)
      have H3 := Lib.hid (H2.out.keep TX (fun i hi e => by have := RNE.out i hi; omega))
      have K3 := Lib.hid ((HX.out.set 1 (.string (fl ++ fw))).set 2 (.string ⟨#[]⟩))
      have T3 := Lib.hid (T2.out.trans TX (fun i hi e => by omega))
      simp only [List.set_cons_succ, List.set_cons_zero] at K3
      clear TX k1 k2 z1 z2
      generalize (X.setCell ⟨bx, 1, none⟩ (.string (fl ++ fw))).setCell ⟨bx, 2, none⟩ (.string ⟨#[]⟩) = Y at *
      have k0 := K3.out.cell 0
      have k1 := K3.out.cell 1
      have k2 := K3.out.cell 2
      simp only [List.getElem?_cons_succ, List.getElem?_cons_zero] at k0 k1 k2
      have HP := Lib.hid (rput H Y r _ off' left' L H3.out hn ⟨fn, fl ++ fw, ⟨#[]⟩⟩)
      go_wp2_with fail
      refine HP.out.mono ?_
      rintro e w5 ⟨rfl, v', h5, t5, _⟩
      have H5 := Lib.hid h5
      have T5 := Lib.hid t5
      clear h5 t5 k0 k1 k2
      go_wp2_with fail
      go_ret
      refine ⟨by rw [HC.out]; rfl, v', putL L ⟨fn, fl ++ fw, ⟨#[]⟩⟩, ?_, rise_put HR.out _, ?_, putL_len _ _, (T3.out.then T5.out).toR⟩
      · unfold syS; rw [HS.out]; exact H5.out
      · unfold syS; rw [HS.out, pOf_put, HK.out, pl_at HR.out HI.out, EFl.out, EFw.out, fd_sync]; show upd _ fn _ = _; rw [EFn.out]
  · have H1 := Lib.hid h1
    have T1 := Lib.hid t1
    have HC := Lib.hid hc
    have HS := Lib.hid hs
    clear h1 t1 hc hs
    go_wp2_with fail
    go_ret
    refine ⟨by rw [HC.out]; rfl, v, L, ?_, HR.out, ?_, by omega, T1.out.toR⟩
    · unfold syS; rw [HS.out]; exact H1.out
    · unfold syS; rw [HS.out]
set_option maxRecDepth 20000 in
set_option maxHeartbeats 4000000 in
theorem rrename (H : Nat) (w : World) (r : Nat) (v : Value) (off : Bool) (left : Int) (L : List RF) (h : RS H w r v off left L) (hR : Rise L) (hS : Short (pOf L) 100000000) (hn : L.length < 1000) (k k2 : ByteArray) :
    Calls Try.prog 39 #[.pointer (some ⟨r, 0, none⟩), .string k, .string k2] w (OpY H w r v (L.length + 1) (chC ⟨off, left, pOf L⟩ k) (mvS ⟨off, left, pOf L⟩ k k2)) := by
  have HA := Lib.hid (rasked H w r v off left L h hR k)
  have HR := Lib.hid hR
  have HSh := Lib.hid hS
  clear h hR hS
  go_enter Try.func39, Try.ntmps39
  go_wp2_with fail
  refine HA.out.mono ?_
  rintro e w1 ⟨c, off', left', rfl, h1, t1, ⟨rfl, hc, hs, i, hi, hk⟩ | ⟨hc0, hc, hs⟩⟩
  · have HI := Lib.hid hi
    have hz := pl_size HR.out HSh.out hi
    have HF : Hid (∀ W, Below w1.heap.size w1 W → Calls Try.prog 49 #[.pointer (some ⟨r, 0, none⟩), .string k] W fun e w' => e = .returned (.int .i64 (i : Int)) ∧ w' = W) := Lib.hid (fun W hW => by rw [hk]; exact rfind_at H W r v off' left' L (h1.bel hW) HR.out i hi)
    obtain ⟨c0, _, _⟩ := h1.cells
    have H1 := Lib.hid h1
    have T1 := Lib.hid t1
    have HC := Lib.hid hc
    have HS := Lib.hid hs
    have HK := Lib.hid hk
    have hiI : (i : Int) < (L.length : Int) := by omega
    obtain ⟨A0, cv, rfl⟩ := own_slice' h1.row
    obtain ⟨g, rfl, hg, hnc, hcm, b0, b1, b2⟩ := gF_cells h1.row i hi
    unfold maxLen at hcm
    clear h1 t1 hc hs hk
    go_upto_region 3 with (fail)
    have HGf : Hid (∃ fn fl fw, fn = (gF L i).name ∧ fl = (gF L i).last ∧ fw = (gF L i).waits) := Lib.hid ⟨_, _, _, rfl, rfl, rfl⟩
    obtain ⟨fn, fl, fw, efn, efl, efw⟩ := HGf.out
    rw [← efn] at b0
    rw [← efl] at b1 hz
    rw [← efw] at b2 hz
    have EFn := Lib.hid efn
    have EFl := Lib.hid efl
    have EFw := Lib.hid efw
    clear efn efl efw
    have ne0 := World.new_ne w1 _ c0
    have ne1 := World.new_ne w1 _ b0
    have ne2 := World.new_ne w1 _ b1
    have ne3 := World.new_ne w1 _ b2
    have HX : Hid (Blk (w1.alloc (.cells #[.string fn, .string fl, .string fw] 71)).drew w1.heap.size 71 [.string fn, .string fl, .string fw]) := Lib.hid ((Blk.new w1 71 [.string fn, .string fl, .string fw]).drewN 1)
    have BX : Hid (Below w1.heap.size w1 (w1.alloc (.cells #[.string fn, .string fl, .string fw] 71)).drew) := Lib.hid (below_drewN' (Below.new w1 (.cells #[.string fn, .string fl, .string fw] 71)) 1)
    have HBx : Hid (w1.heap.size ≤ w1.heap.size) := Lib.hid (Nat.le_refl _)
    go_region_held3 (fun Y => Y.cell? ⟨r, 0, none⟩ = some (.slice (some ⟨g, 0, none⟩) L.length cv) ∧ Y.cell? ⟨g, i * 3, none⟩ = some (.string fn) ∧ Y.cell? ⟨g, i * 3 + 1, none⟩ = some (.string fl) ∧ Y.cell? ⟨g, i * 3 + 2, none⟩ = some (.string fw)) (go_keep) ((go_at_call 49; refine (HF.out _ (by first | exact below_drewN' (Below.refl _ _) 1 | exact below_drewN' (Below.new _ _) 1)).mono ?_; rintro e w' ⟨rfl, rfl⟩))
    all_goals
      clear ne0 ne1 ne2 ne3 b0 b1 b2 c0 HF
      have H2 := Lib.hid (H1.out.bel BX.out)
      have T2 := Lib.hid (T1.out.then (.of_below BX.out))
      have hbx : w1.heap.size < w1.heap.size + 1 := Nat.lt_succ_self _
      have hsz : (w1.alloc (.cells #[.string fn, .string fl, .string fw] 71)).drew.heap.size = w1.heap.size + 1 := by simp
      have hwb : w.heap.size ≤ w1.heap.size := T1.out.size
      have hrb : r < w1.heap.size := H1.out.blk.lt
      have RNE : Hid (∀ i, RSet r (.slice (some ⟨g, 0, none⟩) L.length cv) i → i < w1.heap.size) := Lib.hid (fun i hi => by
        rcases hi with hi | hi
        · omega
        · exact (H1.out.row_lt hi).2)
      clear hbx hsz
      generalize (w1.alloc (.cells #[.string fn, .string fl, .string fw] 71)).drew = X at *
      generalize w1.heap.size = bx at *
      have HO := Lib.hid (rout H X r _ off' left' L H2.out k)
      have HXl : bx < X.heap.size := HX.out.lt
      go_wp2_with fail
      refine HO.out.mono ?_
      rintro e w4 ⟨rfl, v4, h4, t4, n4⟩
      have K4 := Lib.hid (HX.out.turns t4 (by omega))
      have hlt4 : ∀ i, RSet r v4 i → i ≠ bx := fun i hi e => by
        rcases hi with hi | hi
        · omega
        · have := n4 i hi
          omega
      have RN4 := Lib.hid hlt4
      have H4 := Lib.hid h4
      have T4 := Lib.hid (T2.out.then t4)
      clear h4 t4 hlt4 n4
      have k0 := K4.out.cell 0
      have z0 := K4.out.fz 0
      simp only [List.getElem?_cons_zero] at k0
      go_upto_region 6 with (fail)
      have TX : Turns (fun j => j = bx) w4 (w4.setCell ⟨bx, 0, none⟩ (.string k2)) := (Turns.refl (fun j => j = bx) w4).set ⟨bx, 0, none⟩ _ (fun _ => rfl)
      have H3 := Lib.hid (H4.out.keep TX (fun i hi e => RN4.out i hi e))
      have K3 := Lib.hid (K4.out.set 0 (.string k2))
      have T3 := Lib.hid (T4.out.trans TX (fun i hi e => by omega))
      simp only [List.set_cons_zero] at K3
      clear TX k0 z0
      generalize w4.setCell ⟨bx, 0, none⟩ (.string k2) = Y at *
      have k0 := K3.out.cell 0
      have k1 := K3.out.cell 1
      have k2' := K3.out.cell 2
      simp only [List.getElem?_cons_succ, List.getElem?_cons_zero] at k0 k1 k2'
      have hno : (outL L k).length < 1000 := by have := List.length_filter_le (fun g => decide (RF.name g ≠ k)) L; unfold outL; omega
      have HP := Lib.hid (rput H Y r _ off' left' (outL L k) H3.out hno ⟨k2, fl, fw⟩)
      go_wp2_with fail
      refine HP.out.mono ?_
      rintro e w5 ⟨rfl, v', h5, t5, _⟩
      have H5 := Lib.hid h5
      have T5 := Lib.hid t5
      clear h5 t5 k0 k1 k2'
      go_wp2_with fail
      go_ret
      have hol : (outL L k).length ≤ L.length := List.length_filter_le _ _
      have hpl := putL_len (outL L k) ⟨k2, fl, fw⟩
      refine ⟨by rw [HC.out]; rfl, v', putL (outL L k) ⟨k2, fl, fw⟩, ?_, rise_put (rise_out HR.out k) _, ?_, by omega, (T3.out.then T5.out).toR⟩
      · unfold mvS; rw [HS.out]; exact H5.out
      · unfold mvS; rw [HS.out, pOf_put, pOf_out]
        show upd _ k2 (⟨k2, fl, fw⟩ : RF).fd = upd _ k2 (pl (pOf L) k)
        have e1 : pl (pOf L) k = (⟨k2, fl, fw⟩ : RF).fd := by
          rw [HK.out, pl_at HR.out HI.out, EFl.out, EFw.out]; rfl
        rw [e1]
  · have H1 := Lib.hid h1
    have T1 := Lib.hid t1
    have HC := Lib.hid hc
    have HS := Lib.hid hs
    clear h1 t1 hc hs
    go_wp2_with fail
    go_ret
    refine ⟨by rw [HC.out]; rfl, v, L, ?_, HR.out, ?_, by omega, T1.out.toR⟩
    · unfold mvS; rw [HS.out]; exact H1.out
    · unfold mvS; rw [HS.out]
end Go.Proofs.Ytoljnklceghcdaa
