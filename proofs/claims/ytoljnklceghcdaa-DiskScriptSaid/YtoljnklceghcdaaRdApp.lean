/- The document's disk in memory: Append, Fuse, Read. -/
import Derived.Test.YtoljnklceghcdaaRdSync
namespace Go.Proofs.Ytoljnklceghcdaa
open Go.RowKit Go.Maps Go.Sort Go.Shelf

theorem size_mk (l : List UInt8) : (⟨l.toArray⟩ : ByteArray).size = l.length := by simp [ByteArray.size]
theorem toL_mk (l : List UInt8) : (⟨l.toArray⟩ : ByteArray).data.toList = l := rfl
theorem fd_app (f : RF) (k : ByteArray) (l : List UInt8) : (⟨k, f.last, f.waits ++ ⟨l.toArray⟩⟩ : RF).fd = (f.fd.1 ++ l, f.fd.2) := by
  unfold RF.fd
  simp only [toL_app, toL_mk, List.append_assoc]
/-- the file that bytes are put behind -/
def apF (L : List RF) (k : ByteArray) : RF := match L.find? (fun f => decide (f.name = k)) with
  | some f => f
  | none => ⟨k, ⟨#[]⟩, ⟨#[]⟩⟩
theorem apF_name (L : List RF) (k : ByteArray) : (apF L k).name = k := by
  unfold apF
  split
  · rename_i f h
    have := List.find?_some h
    simpa using this
  · rfl
theorem apF_fd (L : List RF) (k : ByteArray) : (apF L k).fd = pl (pOf L) k := by
  unfold apF pl pOf
  split
  · rename_i f h
    rw [h]; rfl
  · rename_i h
    rw [h]; rfl
theorem apF_at {L : List RF} (hR : Rise L) {i : Nat} (hi : i < L.length) : apF L (gF L i).name = gF L i := by
  have h1 : ((L.find? (fun f => decide (f.name = (gF L i).name))).isSome = true) := find_mem.2 ⟨_, gF_mem hi, rfl⟩
  unfold apF
  split
  · rename_i f h
    have h2 := List.find?_some h
    exact rise_one hR (List.mem_of_find?_eq_some h) (gF_mem hi) (by simpa using h2)
  · rename_i h
    rw [h] at h1
    cases h1
theorem apF_no {L : List RF} {k : ByteArray} (h : ∀ f ∈ L, f.name ≠ k) : apF L k = ⟨k, ⟨#[]⟩, ⟨#[]⟩⟩ := by
  unfold apF
  rw [List.find?_eq_none.2 (fun f hf => by simpa using h f hf)]
theorem Bs.turns {S : Nat → Prop} {w w' : World} {A : Option Addr} {n : Nat} {l : List UInt8} (h : Bs w A n l) (k : Turns S w w') (hn : ∀ ad, A = some ad → 0 < l.length → ¬ S ad.block) : Bs w' A n l :=
  ⟨h.len, h.le, fun i hi => by
    obtain ⟨ad, e, hl, hc⟩ := h.cell i hi
    refine ⟨ad, e, Nat.lt_of_lt_of_le hl k.size, ?_⟩
    have hb := add_block ad i
    rw [k.cell (by rw [hb]; exact hl) (by rw [hb]; exact hn ad e (by omega))]
    exact hc⟩
set_option maxRecDepth 20000 in
set_option maxHeartbeats 8000000 in
theorem rappend (H : Nat) (w : World) (r : Nat) (v : Value) (off : Bool) (left : Int) (L : List RF) (h : RS H w r v off left L) (hR : Rise L) (hS : Short (pOf L) 100000000) (hn : L.length < 1000) (k : ByteArray) (B : Option Addr) (m c : Nat) (lb : List UInt8) (hs : Bs w B m lb) (hBr : ∀ ad, B = some ad → 0 < lb.length → ad.block ≠ r) (hL : lb.length ≤ 100000000) :
    Calls Try.prog 37 #[.pointer (some ⟨r, 0, none⟩), .string k, .slice B m c] w (OpY H w r v (L.length + 1) (apC ⟨off, left, pOf L⟩) (apS ⟨off, left, pOf L⟩ k lb)) := by
  have HH := Lib.hid h
  obtain ⟨_, c1, _⟩ := h.cells
  have HR := Lib.hid hR
  have HG := Lib.hid (rfails H w r v off left L h)
  have HSh := Lib.hid hS
  have HBs := Lib.hid hs
  have HBr := Lib.hid hBr
  clear h hR hS hs hBr
  cases off
  · obtain ⟨fb, off', left', efb, e1, e2, hap, hst⟩ : ∃ fb off' left', faB left = fb ∧ faO false left = off' ∧ faN left = left' ∧ apC ⟨false, left, pOf L⟩ = (if fb then 250 else 0) ∧ apS ⟨false, left, pOf L⟩ k lb = ⟨off', left', upd (pOf L) k ((pl (pOf L) k).1 ++ lb, (pl (pOf L) k).2)⟩ := by
      refine ⟨_, _, _, rfl, rfl, rfl, ?_, ?_⟩
      · by_cases h0 : left = 0 <;> simp [apC, faB, h0]
      · by_cases h0 : left = 0 <;> simp [apS, faO, faN, h0]
    rw [efb, e1, e2] at HG
    have HAp := Lib.hid hap
    have HSt := Lib.hid hst
    clear efb e1 e2 hap hst
    go_enter Try.func37, Try.ntmps37
    go_upto_region 4 with (go_at_call 48; refine HG.out.mono ?_; rintro e w1 ⟨rfl, h1, t1⟩)
    have H1 := Lib.hid h1
    have T1 := Lib.hid t1
    have HBs1 := HBs
    clear c1
    have HX : Hid (Blk (w1.alloc (.cells #[.string k, .string ⟨#[]⟩, .string ⟨#[]⟩] 71)) w1.heap.size 71 [.string k, .string ⟨#[]⟩, .string ⟨#[]⟩]) := Lib.hid (Blk.new w1 71 [.string k, .string ⟨#[]⟩, .string ⟨#[]⟩])
    have BX : Hid (Below w1.heap.size w1 (w1.alloc (.cells #[.string k, .string ⟨#[]⟩, .string ⟨#[]⟩] 71))) := Lib.hid (Below.new w1 _)
    have H2 := Lib.hid (h1.bel BX.out)
    have T2 := Lib.hid (t1.then (.of_below BX.out))
    have hwb : w.heap.size ≤ w1.heap.size := t1.size
    have RNE : Hid (∀ i, RSet r v i → i < w1.heap.size) := Lib.hid (fun i hi => by
      rcases hi with rfl | hi
      · exact h1.blk.lt
      · exact (h1.row_lt hi).2)
    have hrb : r < w1.heap.size := h1.blk.lt
    clear h1 t1
    go_upto_region 5 with (fail)
    generalize w1.alloc (.cells #[.string k, .string ⟨#[]⟩, .string ⟨#[]⟩] 71) = X at *
    generalize w1.heap.size = bx at *
    have HF := Lib.hid (rfind H X r v off' left' L H2.out k)
    go_wp2_with fail
    refine HF.out.mono ?_
    rintro e W ⟨rfl, hcase⟩
    obtain ⟨⟨k', fl, fw⟩, hf⟩ : ∃ f : RF, f = apF L k := ⟨_, rfl⟩
    have hkk : k' = k := by have := apF_name L k; rw [← hf] at this; exact this
    subst hkk
    have hz : fl.size + fw.size ≤ 100000000 := by
      have h1 := HSh.out k'
      rw [← apF_fd, ← hf] at h1
      unfold RF.fd at h1
      simp only at h1
      rw [List.length_append, size_toL, size_toL] at h1
      exact h1
    have hcv := run_conv_bs (P := Try.prog) (HBs.out.turns T2.out HBr.out) 29 9 5 Try.underlying29 Try.underlying5 Try.underlying9 c
    rcases hcase with ⟨rfl, hn⟩ | ⟨i, hi, rfl, hk'⟩
    · have e := apF_no hn
      rw [← hf] at e
      injection e with _ e2 e3
      subst e2 e3
      have HFq := Lib.hid hf
      clear hf hn
      have k2 := HX.out.cell 2
      have z2 := HX.out.fz 2
      simp only [List.getElem?_cons_succ, List.getElem?_cons_zero] at k2
      have hsum : ¬ 9223372036854775807 < (⟨#[]⟩ : ByteArray).size + (⟨lb.toArray⟩ : ByteArray).size := by have h1 := size_mk lb; have h2 : (⟨#[]⟩ : ByteArray).size = 0 := rfl; omega
      unfold strV at hcv
      go_upto_region 9 with (fail)
      have TX : Turns (fun j => j = bx) W (W.setCell ⟨bx, 2, none⟩ (.string (⟨#[]⟩ ++ ⟨lb.toArray⟩))) := (Turns.refl (fun j => j = bx) W).set ⟨bx, 2, none⟩ _ (fun _ => rfl)
      have H3 := Lib.hid (H2.out.keep TX (fun i hi e => by have := RNE.out i hi; omega))
      have K3 := Lib.hid (HX.out.set 2 (.string (⟨#[]⟩ ++ ⟨lb.toArray⟩)))
      have T3 := Lib.hid (T2.out.trans TX (fun i hi e => by omega))
      simp only [List.set_cons_succ, List.set_cons_zero] at K3
      clear TX k2 z2 hcv hsum
      generalize W.setCell ⟨bx, 2, none⟩ (.string (⟨#[]⟩ ++ ⟨lb.toArray⟩)) = Y at *
      have k0 := K3.out.cell 0
      have k1 := K3.out.cell 1
      have k2 := K3.out.cell 2
      simp only [List.getElem?_cons_succ, List.getElem?_cons_zero] at k0 k1 k2
      have HP := Lib.hid (rput H Y r _ off' left' L H3.out hn ⟨k', ⟨#[]⟩, ⟨#[]⟩ ++ ⟨lb.toArray⟩⟩)
      go_upto_region 10 with (fail)
      go_wp2_with (go_at_call 50; refine HP.out.mono ?_; rintro e w5 ⟨rfl, v', h5, t5, _⟩; have H5 := Lib.hid h5; have T5 := Lib.hid t5; clear h5 t5 k0 k1 k2)
      all_goals
        go_ret
        refine ⟨by rw [HAp.out]; simp [*], v', putL L ⟨k', ⟨#[]⟩, ⟨#[]⟩ ++ ⟨lb.toArray⟩⟩, ?_, rise_put HR.out _, ?_, putL_len _ _, (T3.out.then T5.out).toR⟩
        · rw [HSt.out]; exact H5.out
        · rw [HSt.out, pOf_put]
          have e5 : (⟨k', ⟨#[]⟩, ⟨#[]⟩ ++ ⟨lb.toArray⟩⟩ : RF).fd = ((pl (pOf L) k').1 ++ lb, (pl (pOf L) k').2) := by
            rw [← apF_fd, ← HFq.out]
            exact fd_app ⟨k', ⟨#[]⟩, ⟨#[]⟩⟩ k' lb
          rw [e5]
    · have e := apF_at HR.out hi
      rw [hk'] at e
      rw [← hf] at e
      have HFq := Lib.hid hf
      have hiI : (i : Int) < (L.length : Int) := by omega
      have hi0 : ¬ (i : Int) < 0 := by omega
      obtain ⟨A0, cv, rfl⟩ := own_slice' H2.out.row
      obtain ⟨g, rfl, hg, hnc, hcm, b0, b1, b2⟩ := gF_cells H2.out.row i hi
      obtain ⟨q0, _, _⟩ := H2.out.cells
      unfold maxLen at hcm
      rw [← e] at b0 b1 b2
      simp only at b0 b1 b2
      have k0 := HX.out.cell 0
      have k1 := HX.out.cell 1
      have k2 := HX.out.cell 2
      have z0 := HX.out.fz 0
      have z1 := HX.out.fz 1
      have z2 := HX.out.fz 2
      simp only [List.getElem?_cons_succ, List.getElem?_cons_zero] at k0 k1 k2
      clear hf hk' e
      clear hcv
      go_upto_region 8 with (fail)
      have TY : Turns (fun j => j = bx) W (((W.setCell ⟨bx, 0, none⟩ (.string k')).setCell ⟨bx, 1, none⟩ (.string fl)).setCell ⟨bx, 2, none⟩ (.string fw)) := (((Turns.refl (fun j => j = bx) W).set ⟨bx, 0, none⟩ _ (fun _ => rfl)).set ⟨bx, 1, none⟩ _ (fun _ => rfl)).set ⟨bx, 2, none⟩ _ (fun _ => rfl)
      have HZ := Lib.hid (H2.out.keep TY (fun i hi e => by have := RNE.out i hi; omega))
      have KZ := Lib.hid (((HX.out.set 0 (.string k')).set 1 (.string fl)).set 2 (.string fw))
      have TZ := Lib.hid (T2.out.trans TY (fun i hi e => by omega))
      have hcv := run_conv_bs (P := Try.prog) (HBs.out.turns TZ.out HBr.out) 29 9 5 Try.underlying29 Try.underlying5 Try.underlying9 c
      simp only [List.set_cons_succ, List.set_cons_zero] at KZ
      clear TY k0 k1 k2 z0 z1 z2 b0 b1 b2 q0
      generalize ((W.setCell ⟨bx, 0, none⟩ (.string k')).setCell ⟨bx, 1, none⟩ (.string fl)).setCell ⟨bx, 2, none⟩ (.string fw) = Z at *
      have k2 := KZ.out.cell 2
      have z2 := KZ.out.fz 2
      simp only [List.getElem?_cons_succ, List.getElem?_cons_zero] at k2
      have hsum : ¬ 9223372036854775807 < (fw : ByteArray).size + (⟨lb.toArray⟩ : ByteArray).size := by have h1 := size_mk lb; omega
      unfold strV at hcv
      go_upto_region 9 with (fail)
      have TX : Turns (fun j => j = bx) Z (Z.setCell ⟨bx, 2, none⟩ (.string (fw ++ ⟨lb.toArray⟩))) := (Turns.refl (fun j => j = bx) Z).set ⟨bx, 2, none⟩ _ (fun _ => rfl)
      have H3 := Lib.hid (HZ.out.keep TX (fun i hi e => by have := RNE.out i hi; omega))
      have K3 := Lib.hid (KZ.out.set 2 (.string (fw ++ ⟨lb.toArray⟩)))
      have T3 := Lib.hid (TZ.out.trans TX (fun i hi e => by omega))
      simp only [List.set_cons_succ, List.set_cons_zero] at K3
      clear TX k2 z2 hcv hsum
      generalize Z.setCell ⟨bx, 2, none⟩ (.string (fw ++ ⟨lb.toArray⟩)) = Y at *
      have k0 := K3.out.cell 0
      have k1 := K3.out.cell 1
      have k2 := K3.out.cell 2
      simp only [List.getElem?_cons_succ, List.getElem?_cons_zero] at k0 k1 k2
      have HP := Lib.hid (rput H Y r _ off' left' L H3.out hn ⟨k', fl, fw ++ ⟨lb.toArray⟩⟩)
      go_upto_region 10 with (fail)
      go_wp2_with (go_at_call 50; refine HP.out.mono ?_; rintro e w5 ⟨rfl, v', h5, t5, _⟩; have H5 := Lib.hid h5; have T5 := Lib.hid t5; clear h5 t5 k0 k1 k2)
      all_goals
        go_ret
        refine ⟨by rw [HAp.out]; simp [*], v', putL L ⟨k', fl, fw ++ ⟨lb.toArray⟩⟩, ?_, rise_put HR.out _, ?_, putL_len _ _, (T3.out.then T5.out).toR⟩
        · rw [HSt.out]; exact H5.out
        · rw [HSt.out, pOf_put]
          have e5 : (⟨k', fl, fw ++ ⟨lb.toArray⟩⟩ : RF).fd = ((pl (pOf L) k').1 ++ lb, (pl (pOf L) k').2) := by
            rw [← apF_fd, ← HFq.out]
            exact fd_app ⟨k', fl, fw⟩ k' lb
          rw [e5]
  · go_enter Try.func37, Try.ntmps37
    go_wp2_with fail
    go_ret
    exact ⟨rfl, v, L, HH.out, HR.out, rfl, by omega, Turns.refl _ _⟩
theorem rfuse (H : Nat) (w : World) (r : Nat) (v : Value) (off : Bool) (left : Int) (L : List RF) (h : RS H w r v off left L) (hR : Rise L) (n : Int) (hn : n ≤ 9223372036854775807) :
    Calls Try.prog 41 #[.pointer (some ⟨r, 0, none⟩), .int .i64 n] w (OpY H w r v L.length (fuC off n) ⟨off, fuN off left n, pOf L⟩) := by
  have HH := Lib.hid h
  have HR := Lib.hid hR
  obtain ⟨_, c1, _⟩ := h.cells
  have z2 := h.blk.fz 2
  clear h hR
  cases off
  · by_cases hn0 : n < 0
    · have e1 : fuC false n = 1 := by simp [fuC, hn0]
      have e2 : fuN false left n = left := by simp [fuN, hn0]
      rw [e1, e2]
      clear e1 e2
      go_enter Try.func41, Try.ntmps41
      go_wp2_with fail
      go_ret
      exact ⟨rfl, v, L, HH.out, HR.out, rfl, Nat.le_refl _, Turns.refl _ _⟩
    · have e1 : fuC false n = 0 := by simp [fuC, hn0]
      have e2 : fuN false left n = n := by simp [fuN, hn0]
      rw [e1, e2]
      clear e1 e2
      have T := Lib.hid (Turns.of_set (S := fun i => i = r) w ⟨r, 2, none⟩ (.int .i64 n) rfl)
      have HF := Lib.hid (HH.out.set false n (HH.out.blk.set 2 (.int .i64 n)) T.out (by omega))
      have c2 := HH.out.cells.2.2
      go_enter Try.func41, Try.ntmps41
      go_wp2_with fail
      go_ret
      exact ⟨rfl, v, L, HF.out, HR.out, rfl, Nat.le_refl _, T.out.toR⟩
  · have e1 : fuC true n = 250 := rfl
    have e2 : fuN true left n = left := rfl
    rw [e1, e2]
    clear e1 e2
    go_enter Try.func41, Try.ntmps41
    go_wp2_with fail
    go_ret
    exact ⟨rfl, v, L, HH.out, HR.out, rfl, Nat.le_refl _, Turns.refl _ _⟩
def RReadY (w : World) (off : Bool) (p : Fs) (k : ByteArray) (e : Ending) (w' : World) : Prop :=
  ∃ s : ByteArray, e = .returned (.tuple #[.string s, .int .i64 (thC off (p k).isSome)]) ∧ (∃ n, w' = w.drewN n) ∧ (thC off (p k).isSome ≠ 0 → s = ⟨#[]⟩) ∧ (thC off (p k).isSome = 0 → s.data.toList = (pl p k).1)
set_option maxRecDepth 20000 in
set_option maxHeartbeats 1600000 in
theorem rread (H : Nat) (w : World) (r : Nat) (v : Value) (off : Bool) (left : Int) (L : List RF) (h : RS H w r v off left L) (hR : Rise L) (hS : Short (pOf L) 100000000) (k : ByteArray) :
    Calls Try.prog 43 #[.pointer (some ⟨r, 0, none⟩), .string k] w (RReadY w off (pOf L) k) := by
  have HH := Lib.hid h
  have HR := Lib.hid hR
  have HSh := Lib.hid hS
  obtain ⟨c0, c1, _⟩ := h.cells
  have HF := Lib.hid (rfind H w r v off left L h k)
  clear h hR hS
  cases off
  · go_enter Try.func43, Try.ntmps43
    go_upto_region 3 with (fail)
    go_wp2_with fail
    refine HF.out.mono ?_
    rintro e W ⟨rfl, ⟨rfl, hn⟩ | ⟨i, hi, rfl, hk⟩⟩
    · have HN := Lib.hid (none_at hn)
      clear hn
      go_wp2_with fail
      go_ret2
      exact ⟨⟨#[]⟩, by rw [HN.out]; rfl, ⟨0, rfl⟩, fun _ => rfl, fun h => absurd h (by rw [HN.out]; decide)⟩
    · subst hk
      have hz := pl_size HR.out HSh.out hi
      have HSo := Lib.hid (some_at HR.out hi)
      have HPl := Lib.hid (pl_at HR.out hi)
      have hiI : (i : Int) < (L.length : Int) := by omega
      have hi0 : ¬ (i : Int) < 0 := by omega
      obtain ⟨A0, cv, rfl⟩ := own_slice' HH.out.row
      obtain ⟨g, rfl, hg, hnc, hcm, b0, b1, b2⟩ := gF_cells HH.out.row i hi
      unfold maxLen at hcm
      have hsum : ¬ 9223372036854775807 < (gF L i).last.size + (gF L i).waits.size := by omega
      go_upto_region 6 with (fail)
      go_quiet (fail)
      go_wp2_with fail
      go_ret2
      refine ⟨(gF L i).last ++ (gF L i).waits, by rw [HSo.out]; rfl, ⟨nq, rfl⟩, fun h => absurd (by rw [HSo.out]; rfl) h, fun _ => ?_⟩
      rw [HPl.out, toL_app]
      rfl
  · go_enter Try.func43, Try.ntmps43
    go_wp2_with fail
    go_ret2
    exact ⟨⟨#[]⟩, rfl, ⟨0, rfl⟩, fun _ => rfl, fun h => absurd h (by simp [thC])⟩
end Go.Proofs.Ytoljnklceghcdaa
