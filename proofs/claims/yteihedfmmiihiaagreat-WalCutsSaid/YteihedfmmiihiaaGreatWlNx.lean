/- wal: what is saved behind a deed. -/
import Derived.Test.YteihedfmmiihiaaGreatWlRef
import Derived.Test.YteihedfmmiihiaaGreatWmK
namespace Go.Proofs.YteihedfmmiihiaaGreat
open Go.RowKit Go.Maps Go.Sort Go.Shelf

theorem cut_50 (data : ByteArray) : data.extract 0 (min 50 (data.size : Int)).toNat = ⟨(data.data.toList.take 50).toArray⟩ := by
  have e : (min 50 (data.size : Int)).toNat = min 50 data.size := by omega
  rw [e]
  apply ByteArray.ext
  rw [ByteArray.data_extract]
  apply Array.ext'
  rw [Array.toList_extract]
  have hs : data.size = data.data.toList.length := rfl
  rw [hs]
  simp only [List.extract_eq_take_drop, List.drop_zero, Nat.sub_zero]
  rw [List.take_eq_take_iff]
  omega
def NextY (w : World) (s : Sv) (e : Ending) (w' : World) : Prop := ∃ A c, e = .returned (svV s.term s.vote A s.log.length c) ∧ Lg w' A s.log.length c s.log ∧ Below w.heap.size w w'
set_option maxRecDepth 20000 in
set_option maxHeartbeats 8000000 in
theorem next_any (w : World) (A : Option Addr) (n c : Nat) (s : Sv) (h : Lg w A n c s.log) (hL : s.log.length ≤ 4096) (x : Dee) (hx : x.Ok) :
    Calls Tryz.prog 24 #[svV s.term s.vote A n c, x.v] w (NextY w (nextP s x.dd)) := by
  obtain ⟨d, tm, data, num, kA, kn, kc, z⟩ := x
  have HX := Lib.hid hx
  have hn : n = s.log.length := h.len
  subst hn
  obtain ⟨t, ht⟩ : ∃ t, s.term = t := ⟨_, rfl⟩
  obtain ⟨v, hv⟩ : ∃ v, s.vote = v := ⟨_, rfl⟩
  have HT := Lib.hid ht
  have HV := Lib.hid hv
  have B0 := Lib.hid (Below.new3 w (.cells #[.int .i64 t, .int .i64 v, .slice A s.log.length c] 27) (.cells #[.int .u8 d, .int .i64 tm, .string data, .int .i64 num, .slice kA kn kc] 56) (.cells #[.int .i64 0, .int .i64 0, .slice none 0 0] 27))
  have K0 := Lib.hid (((Blk.new w 27 [.int .i64 t, .int .i64 v, .slice A s.log.length c]).alloc (.cells #[.int .u8 d, .int .i64 tm, .string data, .int .i64 num, .slice kA kn kc] 56)).alloc (.cells #[.int .i64 0, .int .i64 0, .slice none 0 0] 27))
  have K1 := Lib.hid ((Blk.new2 w (.cells #[.int .i64 t, .int .i64 v, .slice A s.log.length c] 27) 56 [.int .u8 d, .int .i64 tm, .string data, .int .i64 num, .slice kA kn kc]).alloc (.cells #[.int .i64 0, .int .i64 0, .slice none 0 0] 27))
  have K2 := Lib.hid (Blk.new3 w (.cells #[.int .i64 t, .int .i64 v, .slice A s.log.length c] 27) (.cells #[.int .u8 d, .int .i64 tm, .string data, .int .i64 num, .slice kA kn kc] 56) 27 [.int .i64 0, .int .i64 0, .slice none 0 0])
  have L0 := Lib.hid (h.bel B0.out)
  have HL := Lib.hid hL
  unfold svV Dee.v NextY
  simp only
  rw [ht, hv]
  clear h ht hv hx hL
  go_enter Tryz.func24, Tryz.ntmps24
  go_upto_region 1 with (fail)
  obtain ⟨g, hg⟩ : ∃ g, w.heap.size = g := ⟨_, rfl⟩
  have HG := Lib.hid hg
  rw [hg] at B0 K0 K1 K2 ⊢
  generalize (((w.alloc (.cells #[.int .i64 t, .int .i64 v, .slice A s.log.length c] 27)).alloc (.cells #[.int .u8 d, .int .i64 tm, .string data, .int .i64 num, .slice kA kn kc] 56)).alloc (.cells #[.int .i64 0, .int .i64 0, .slice none 0 0] 27)) = X at *
  have HXS : Hid (g + 3 ≤ X.heap.size) := Lib.hid (by have := K2.out.lt; omega)
  have HCP := copy_any X A s.log.length c s L0.out (by have := HL.out; omega)
  unfold SavedY svV at HCP
  rw [HT.out, HV.out] at HCP
  have HCP := Lib.hid HCP
  have k0 : X.cell? ⟨g, 0, none⟩ = some (.int .i64 t) := K0.out.cell 0
  have k1 : X.cell? ⟨g, 1, none⟩ = some (.int .i64 v) := K0.out.cell 1
  have k2 : X.cell? ⟨g, 2, none⟩ = some (.slice A s.log.length c) := K0.out.cell 2
  clear hg
  go_wp2_with fail
  refine HCP.out.mono ?_
  rintro e X1 ⟨A5, c5, rfl, ho5, hb5⟩
  have O5 := Lib.hid ho5
  have N0 := Lib.hid (K0.out.bel hb5)
  have N1 := Lib.hid (K1.out.bel hb5)
  have N2 := Lib.hid (K2.out.bel hb5)
  have B5 := Lib.hid (B0.out.trans (hb5.mono (by have := HXS.out; omega)))
  have HX1 : Hid (X.heap.size ≤ X1.heap.size) := Lib.hid hb5.size
  clear k0 k1 k2 ho5 hb5 HCP K0 K1 K2 L0
  have k0 : X1.cell? ⟨g, 0, none⟩ = some (.int .i64 t) := N0.out.cell 0
  have k1 : X1.cell? ⟨g, 1, none⟩ = some (.int .i64 v) := N0.out.cell 1
  have k2 : X1.cell? ⟨g, 2, none⟩ = some (.slice A s.log.length c) := N0.out.cell 2
  have z0 := N0.out.fz 0
  have z1 := N0.out.fz 1
  have z2 := N0.out.fz 2
  go_upto_region 2 with (fail)
  have M0 := Lib.hid (((N0.out.set 0 (.int .i64 t)).set 1 (.int .i64 v)).set 2 (.slice A5 s.log.length c5))
  have TT := Lib.hid (turns_set3 X1 g (.int .i64 t) (.int .i64 v) (.slice A5 s.log.length c5))
  generalize (((X1.setCell ⟨g, 0, none⟩ (.int .i64 t)).setCell ⟨g, 1, none⟩ (.int .i64 v)).setCell ⟨g, 2, none⟩ (.slice A5 s.log.length c5)) = Y at *
  have M1 := Lib.hid (N1.out.turns TT.out (show ¬ g + 1 = g by omega))
  have M2 := Lib.hid (N2.out.turns TT.out (show ¬ g + 1 + 1 = g by omega))
  have OY := Lib.hid (O5.out.keep TT.out (fun q hq e => by have := O5.out.ge q hq; have := HXS.out; omega))
  have BY := Lib.hid (B5.out.trans (TT.out.below (B := g) (by have := HX1.out; have := HXS.out; omega) (fun i _ e => by omega)))
  have HYS : Hid (X.heap.size ≤ Y.heap.size) := Lib.hid (by have := TT.out.size; have := HX1.out; omega)
  clear k0 k1 k2 z0 z1 z2 N0 N1 N2 TT O5 B5 B0
  have k0 : Y.cell? ⟨g, 0, none⟩ = some (.int .i64 t) := M0.out.cell 0
  have k1 : Y.cell? ⟨g, 1, none⟩ = some (.int .i64 v) := M0.out.cell 1
  have k2 : Y.cell? ⟨g, 2, none⟩ = some (.slice A5 s.log.length c5) := M0.out.cell 2
  have j0 : Y.cell? ⟨g + 1, 0, none⟩ = some (.int .u8 d) := M1.out.cell 0
  have j1 : Y.cell? ⟨g + 1, 1, none⟩ = some (.int .i64 tm) := M1.out.cell 1
  have j2 : Y.cell? ⟨g + 1, 2, none⟩ = some (.string data) := M1.out.cell 2
  have j3 : Y.cell? ⟨g + 1, 3, none⟩ = some (.int .i64 num) := M1.out.cell 3
  have r0 : Y.cell? ⟨g + 1 + 1, 0, none⟩ = some (.int .i64 0) := M2.out.cell 0
  have r1 : Y.cell? ⟨g + 1 + 1, 1, none⟩ = some (.int .i64 0) := M2.out.cell 1
  have r2 : Y.cell? ⟨g + 1 + 1, 2, none⟩ = some (.slice none 0 0) := M2.out.cell 2
  have z0 := M0.out.fz 0
  have z1 := M0.out.fz 1
  have z2 := M0.out.fz 2
  have y0 := M2.out.fz 0
  have y1 := M2.out.fz 1
  have y2 := M2.out.fz 2
  obtain ⟨u, hu⟩ : ∃ u, termN tm = u := ⟨_, rfl⟩
  have HU := Lib.hid hu
  have hw : wrap64 (1 + wrap64 ((IntKind.u64.wrap tm).tmod 1000)) = u := by
    rw [wrap_u64', Int.tmod_eq_emod_of_nonneg (Int.emod_nonneg _ (by decide))]
    have := HU.out
    unfold termN at this
    unfold wrap64
    omega
  have hw : wrap64 (1 + wrap64 ((IntKind.u64.wrap tm).tmod 1000)) = u := by
    rw [wrap_u64', Int.tmod_eq_emod_of_nonneg (Int.emod_nonneg _ (by decide))]
    have := HU.out
    unfold termN at this
    unfold wrap64
    omega
  have hw : wrap64 (1 + wrap64 ((IntKind.u64.wrap tm).tmod 1000)) = u := by
    rw [wrap_u64', Int.tmod_eq_emod_of_nonneg (Int.emod_nonneg _ (by decide))]
    have := HU.out
    unfold termN at this
    unfold wrap64
    omega
  have hw : wrap64 (1 + wrap64 ((IntKind.u64.wrap tm).tmod 1000)) = u := by
    rw [wrap_u64', Int.tmod_eq_emod_of_nonneg (Int.emod_nonneg _ (by decide))]
    have := HU.out
    unfold termN at this
    unfold wrap64
    omega
  have hw : wrap64 (1 + wrap64 ((IntKind.u64.wrap tm).tmod 1000)) = u := by
    rw [wrap_u64', Int.tmod_eq_emod_of_nonneg (Int.emod_nonneg _ (by decide))]
    have := HU.out
    unfold termN at this
    unfold wrap64
    omega
  have hw : wrap64 (1 + wrap64 ((IntKind.u64.wrap tm).tmod 1000)) = u := by
    rw [wrap_u64', Int.tmod_eq_emod_of_nonneg (Int.emod_nonneg _ (by decide))]
    have := HU.out
    unfold termN at this
    unfold wrap64
    omega
  have hw : wrap64 (1 + wrap64 ((IntKind.u64.wrap tm).tmod 1000)) = u := by
    rw [wrap_u64', Int.tmod_eq_emod_of_nonneg (Int.emod_nonneg _ (by decide))]
    have := HU.out
    unfold termN at this
    unfold wrap64
    omega
  have hw : wrap64 (1 + wrap64 ((IntKind.u64.wrap tm).tmod 1000)) = u := by
    rw [wrap_u64', Int.tmod_eq_emod_of_nonneg (Int.emod_nonneg _ (by decide))]
    have := HU.out
    unfold termN at this
    unfold wrap64
    omega
  have hw : wrap64 (1 + wrap64 ((IntKind.u64.wrap tm).tmod 1000)) = u := by
    rw [wrap_u64', Int.tmod_eq_emod_of_nonneg (Int.emod_nonneg _ (by decide))]
    have := HU.out
    unfold termN at this
    unfold wrap64
    omega
  have hw : wrap64 (1 + wrap64 ((IntKind.u64.wrap tm).tmod 1000)) = u := by
    rw [wrap_u64', Int.tmod_eq_emod_of_nonneg (Int.emod_nonneg _ (by decide))]
    have := HU.out
    unfold termN at this
    unfold wrap64
    omega
  have hw : wrap64 (1 + wrap64 ((IntKind.u64.wrap tm).tmod 1000)) = u := by
    rw [wrap_u64', Int.tmod_eq_emod_of_nonneg (Int.emod_nonneg _ (by decide))]
    have := HU.out
    unfold termN at this
    unfold wrap64
    omega
  have hw : wrap64 (1 + wrap64 ((IntKind.u64.wrap tm).tmod 1000)) = u := by
    rw [wrap_u64', Int.tmod_eq_emod_of_nonneg (Int.emod_nonneg _ (by decide))]
    have := HU.out
    unfold termN at this
    unfold wrap64
    omega
  have hw : wrap64 (1 + wrap64 ((IntKind.u64.wrap tm).tmod 1000)) = u := by
    rw [wrap_u64', Int.tmod_eq_emod_of_nonneg (Int.emod_nonneg _ (by decide))]
    have := HU.out
    unfold termN at this
    unfold wrap64
    omega
  go_upto_region 3 with (fail)
  rw [hw]
  clear hw hu
  by_cases hd0 : d = 0
  · subst hd0
    obtain ⟨L3, hL3⟩ : ∃ r, r = s.log ++ [(⟨u, data⟩ : En)] := ⟨_, rfl⟩
    obtain ⟨un, hun⟩ : ∃ un : Nat, u = (un : Int) := ⟨u.toNat, by have := termN_ok tm; have := HU.out; omega⟩
    subst hun
    have HN := Below.new Y (.cells #[.int .i64 (un : Int), .string data] 29)
    obtain ⟨A3, c3, Y3, h1, h2, h3, _⟩ := append_own_en _ X.heap.size A5 c5 s.log (OY.out.bel HN) (by have := HN.size; have := HYS.out; omega) (some ⟨Y.heap.size, 0, none⟩) 1 1 [(⟨un, data⟩ : En)] (own_en1 Y ⟨un, data⟩ un rfl).lg (by have := HL.out; simp only [List.length_singleton]; omega) 25 L3 hL3
    have HR := Lib.hid h1
    have O3 := Lib.hid h2
    have P0 := Lib.hid ((h3.block g (by have := HXS.out; omega)).trans (M0.out.bel HN))
    have P2 := Lib.hid ((h3.block (g + 1 + 1) (by have := HXS.out; omega)).trans (M2.out.bel HN))
    have BQ := Lib.hid (BY.out.trans ((HN.mono (by have := HYS.out; have := HXS.out; omega)).trans (h3.mono (by have := HXS.out; omega))))
    have HL3 := Lib.hid hL3
    have HYZ : Hid (X.heap.size ≤ Y3.heap.size) := Lib.hid (by have := h3.size; have := HN.size; have := HYS.out; omega)
    obtain ⟨nl, hnl⟩ : ∃ m, s.log.length = m := ⟨_, rfl⟩
    have HNL := Lib.hid hnl
    rw [hnl] at HR M0 P0 k2
    have P0 : Hid (Blk Y3 g 27 [.int .i64 t, .int .i64 v, .slice A5 nl c5]) := P0
    have P2 : Hid (Blk Y3 (g + 1 + 1) 27 [.int .i64 0, .int .i64 0, .slice none 0 0]) := P2
    have p2 : Y3.cell? ⟨g, 2, none⟩ = some (.slice A5 nl c5) := P0.out.cell 2
    have p2z := P0.out.fz 2
    clear h1 h2 h3 hL3 HN hnl
    go_upto_region 16 with (at_builtin; refine wpl_append_run rfl _ _ 25 rfl _ _ rfl rfl _ _ HR.out ?_)
    have E0 : Hid (Blk (Y3.setCell ⟨g, 2, none⟩ (.slice A3 L3.length c3)) g 27 [.int .i64 t, .int .i64 v, .slice A3 L3.length c3]) := Lib.hid (P0.out.set 2 _)
    have TS : Turns (fun i => i = g) Y3 (Y3.setCell ⟨g, 2, none⟩ (.slice A3 L3.length c3)) := Turns.of_set (S := fun i => i = g) Y3 ⟨g, 2, none⟩ _ rfl
    generalize (Y3.setCell ⟨g, 2, none⟩ (.slice A3 L3.length c3)) = Z at *
    have E2 := Lib.hid (P2.out.turns TS (show ¬ g + 1 + 1 = g by omega))
    have EL := Lib.hid (O3.out.lg.keep TS (fun q cs hq _ e => IsEn.ne ⟨cs, hq⟩ P0.out (by decide) e))
    have EB := Lib.hid (BQ.out.trans (TS.below (B := g) (by have := HYZ.out; have := HXS.out; omega) (fun i _ e => by omega)))
    clear k0 k1 k2 j0 j1 j2 j3 r0 r1 r2 z0 z1 z2 y0 y1 y2 p2 p2z
    have k0 : Z.cell? ⟨g, 0, none⟩ = some (.int .i64 t) := E0.out.cell 0
    have k1 : Z.cell? ⟨g, 1, none⟩ = some (.int .i64 v) := E0.out.cell 1
    have k2 : Z.cell? ⟨g, 2, none⟩ = some (.slice A3 L3.length c3) := E0.out.cell 2
    have r0 : Z.cell? ⟨g + 1 + 1, 0, none⟩ = some (.int .i64 0) := E2.out.cell 0
    have r1 : Z.cell? ⟨g + 1 + 1, 1, none⟩ = some (.int .i64 0) := E2.out.cell 1
    have r2 : Z.cell? ⟨g + 1 + 1, 2, none⟩ = some (.slice none 0 0) := E2.out.cell 2
    have y0 := E2.out.fz 0
    have y1 := E2.out.fz 1
    have y2 := E2.out.fz 2
    go_wp2_with fail
    have TT := turns_set3 Z (g + 1 + 1) (.int .i64 t) (.int .i64 v) (.slice A3 L3.length c3)
    have PK : Blk (((Z.setCell ⟨g + 1 + 1, 0, none⟩ (.int .i64 t)).setCell ⟨g + 1 + 1, 1, none⟩ (.int .i64 v)).setCell ⟨g + 1 + 1, 2, none⟩ (.slice A3 L3.length c3)) (g + 1 + 1) 27 [.int .i64 t, .int .i64 v, .slice A3 L3.length c3] := ((E2.out.set 0 (.int .i64 t)).set 1 (.int .i64 v)).set 2 (.slice A3 L3.length c3)
    refine bodyPost_ret (results_cell_row (h := rfl) (g := g + 1 + 1) (t := 27) (cs := ([.int .i64 t, .int .i64 v, .slice A3 L3.length c3] : List Value).toArray) (fr := (0, 0)) (hp := rfl) (hg := PK) (hu := Tryz.underlying27) (hd := rfl) (hi := by kernel_rfl) _ _) rfl ?_
    have LF := EL.out.keep TT (fun q cs hq _ e => IsEn.ne ⟨cs, hq⟩ E2.out (by decide) e)
    have BF := EB.out.trans (TT.below (B := g) (by have := E2.out.lt; omega) (fun i _ e => by omega))
    have HE : nextP s (Dee.dd ⟨0, tm, data, num, kA, kn, kc, z⟩) = ⟨t, v, L3⟩ := by
      rw [HL3.out, ← HT.out, ← HV.out, ← HU.out]
      rfl
    rw [HE]
    exact ⟨A3, c3, rfl, LF, by rw [HG.out]; exact BF⟩
  · have hd0' : decide (d = 0) = false := decide_eq_false hd0
    have hd0b : (d == 0) = false := by simp [hd0]
    by_cases hd1 : d = 1
    · subst hd1
      obtain ⟨nl, hnl⟩ : ∃ m, s.log.length = m := ⟨_, rfl⟩
      have HNL := Lib.hid hnl
      have hc5 : (nl : Int) ≤ (c5 : Int) := by have := OY.out.lg.cap.1; omega
      have hnl2 : nl ≤ 4096 := by have := HL.out; omega
      rw [hnl] at k2
      have hm : IntKind.u64.wrap (wrap64 ((nl : Int) + 1)) = (nl : Int) + 1 := by
        rw [wrap_u64']
        unfold wrap64
        omega
      have hm0 : ¬ IntKind.u64.wrap (wrap64 ((nl : Int) + 1)) = 0 := by rw [hm]; omega
      have he0 := Int.emod_nonneg (num % 18446744073709551616) (show (nl : Int) + 1 ≠ 0 by omega)
      have he1 := Int.emod_lt_of_pos (num % 18446744073709551616) (show 0 < (nl : Int) + 1 by omega)
      obtain ⟨k, hk, hkn⟩ : ∃ k : Nat, (num % 18446744073709551616) % ((nl : Int) + 1) = (k : Int) ∧ k ≤ nl := ⟨((num % 18446744073709551616) % ((nl : Int) + 1)).toNat, by omega, by omega⟩
      have hq : wrap64 ((IntKind.u64.wrap num).tmod ((nl : Int) + 1)) = (k : Int) := by
        rw [wrap_u64', Int.tmod_eq_emod_of_nonneg (Int.emod_nonneg _ (by decide)), hk]
        exact IntWalk.wrap64_in _ (by omega)
      have hq1 : (k : Int) ≤ (c5 : Int) := by omega
      have hq0 : (0 : Int) ≤ (k : Int) := by omega
      have HK := Lib.hid hk
      have HKN := Lib.hid hkn
      clear hk he0 he1 hkn
      go_upto_region 7 with (fail)
      clear hnl
      go_region
      have E0 : Hid (Blk (Y.setCell ⟨g, 2, none⟩ (.slice A5 k c5)).drew g 27 [.int .i64 t, .int .i64 v, .slice A5 k c5]) := Lib.hid (Blk.drew (M0.out.set 2 (.slice A5 k c5)))
      have TS : Turns (fun i => i = g) Y (Y.setCell ⟨g, 2, none⟩ (.slice A5 k c5)).drew := (Turns.of_set (S := fun i => i = g) Y ⟨g, 2, none⟩ (.slice A5 k c5) rfl).drewN 1
      clear k0 k1 k2 j0 j1 j2 j3 r0 r1 r2 z0 z1 z2 y0 y1 y2
      generalize (Y.setCell ⟨g, 2, none⟩ (.slice A5 k c5)).drew = Z at *
      have E2 := Lib.hid (M2.out.turns TS (show ¬ g + 1 + 1 = g by omega))
      have LT : Lg Y A5 k c5 (s.log.take k) := ⟨by rw [List.length_take]; have := HKN.out; have := HNL.out; omega, ⟨by have := HKN.out; omega, OY.out.lg.cap.2⟩, fun e => by
        have h1 := OY.out.lg.nil e
        have h2 := HKN.out
        have h3 := HNL.out
        exact ⟨by omega, h1.2⟩, OY.out.lg.ens.take k⟩
      have EL := Lib.hid (LT.keep TS (fun q cs hq _ e => IsEn.ne ⟨cs, hq⟩ M0.out (by decide) e))
      have EB := Lib.hid (BY.out.trans (TS.below (B := g) (by have := HYS.out; have := HXS.out; omega) (fun i _ e => by omega)))
      have k0 : Z.cell? ⟨g, 0, none⟩ = some (.int .i64 t) := E0.out.cell 0
      have k1 : Z.cell? ⟨g, 1, none⟩ = some (.int .i64 v) := E0.out.cell 1
      have k2 : Z.cell? ⟨g, 2, none⟩ = some (.slice A5 k c5) := E0.out.cell 2
      have r0 : Z.cell? ⟨g + 1 + 1, 0, none⟩ = some (.int .i64 0) := E2.out.cell 0
      have r1 : Z.cell? ⟨g + 1 + 1, 1, none⟩ = some (.int .i64 0) := E2.out.cell 1
      have r2 : Z.cell? ⟨g + 1 + 1, 2, none⟩ = some (.slice none 0 0) := E2.out.cell 2
      have y0 := E2.out.fz 0
      have y1 := E2.out.fz 1
      have y2 := E2.out.fz 2
      go_wp2_with fail
      have TT := turns_set3 Z (g + 1 + 1) (.int .i64 t) (.int .i64 v) (.slice A5 k c5)
      have PK : Blk (((Z.setCell ⟨g + 1 + 1, 0, none⟩ (.int .i64 t)).setCell ⟨g + 1 + 1, 1, none⟩ (.int .i64 v)).setCell ⟨g + 1 + 1, 2, none⟩ (.slice A5 k c5)) (g + 1 + 1) 27 [.int .i64 t, .int .i64 v, .slice A5 k c5] := ((E2.out.set 0 (.int .i64 t)).set 1 (.int .i64 v)).set 2 (.slice A5 k c5)
      refine bodyPost_ret (results_cell_row (h := rfl) (g := g + 1 + 1) (t := 27) (cs := ([.int .i64 t, .int .i64 v, .slice A5 k c5] : List Value).toArray) (fr := (0, 0)) (hp := rfl) (hg := PK) (hu := Tryz.underlying27) (hd := rfl) (hi := by kernel_rfl) _ _) rfl ?_
      have LF := EL.out.keep TT (fun q cs hq _ e => IsEn.ne ⟨cs, hq⟩ E2.out (by decide) e)
      have BF := EB.out.trans (TT.below (B := g) (by have := E2.out.lt; omega) (fun i _ e => by omega))
      have HE : nextP s (Dee.dd ⟨1, tm, data, num, kA, kn, kc, z⟩) = ⟨t, v, s.log.take k⟩ := by
        rw [← HT.out, ← HV.out]
        unfold nextP Dee.dd
        simp only
        rw [if_neg (by decide), if_pos (by decide), HNL.out, HK.out]
        rfl
      have hk2 : (s.log.take k).length = k := by rw [List.length_take]; have := HKN.out; have := HNL.out; omega
      rw [HE]
      simp only
      rw [hk2]
      exact ⟨A5, c5, rfl, LF, by rw [HG.out]; exact BF⟩
    · have hd1' : decide (d = 1) = false := decide_eq_false hd1
      have hd1b : (d == 1) = false := by simp [hd1]
      by_cases hd2 : d = 2
      · subst hd2
        have hw8 : wrap64 (wrap64 ((IntKind.u64.wrap num).tmod 8) - 1) = (num % 18446744073709551616) % 8 - 1 := by
          rw [wrap_u64', Int.tmod_eq_emod_of_nonneg (Int.emod_nonneg _ (by decide))]
          unfold wrap64
          omega
        obtain ⟨vv, hvv⟩ : ∃ vv, (num % 18446744073709551616) % 8 - 1 = vv := ⟨_, rfl⟩
        rw [hvv] at hw8
        have HVV := Lib.hid hvv
        clear hvv
        go_upto_region 16 with (fail)
        rw [hw8]
        clear hw8
        have E0 : Hid (Blk ((Y.setCell ⟨g, 0, none⟩ (.int .i64 u)).setCell ⟨g, 1, none⟩ (.int .i64 vv)) g 27 [.int .i64 u, .int .i64 vv, .slice A5 s.log.length c5]) := Lib.hid ((M0.out.set 0 (.int .i64 u)).set 1 (.int .i64 vv))
        have TS : Turns (fun i => i = g) Y ((Y.setCell ⟨g, 0, none⟩ (.int .i64 u)).setCell ⟨g, 1, none⟩ (.int .i64 vv)) := Turns.set (S := fun i => i = g) (Turns.of_set (S := fun i => i = g) Y ⟨g, 0, none⟩ (.int .i64 u) rfl) ⟨g, 1, none⟩ (.int .i64 vv) (fun _ => rfl)
        clear k0 k1 k2 j0 j1 j2 j3 r0 r1 r2 z0 z1 z2 y0 y1 y2
        generalize ((Y.setCell ⟨g, 0, none⟩ (.int .i64 u)).setCell ⟨g, 1, none⟩ (.int .i64 vv)) = Z at *
        have E2 := Lib.hid (M2.out.turns TS (show ¬ g + 1 + 1 = g by omega))
        have EL := Lib.hid (OY.out.lg.keep TS (fun q cs hq _ e => IsEn.ne ⟨cs, hq⟩ M0.out (by decide) e))
        have EB := Lib.hid (BY.out.trans (TS.below (B := g) (by have := HYS.out; have := HXS.out; omega) (fun i _ e => by omega)))
        have k0 : Z.cell? ⟨g, 0, none⟩ = some (.int .i64 u) := E0.out.cell 0
        have k1 : Z.cell? ⟨g, 1, none⟩ = some (.int .i64 vv) := E0.out.cell 1
        have k2 : Z.cell? ⟨g, 2, none⟩ = some (.slice A5 s.log.length c5) := E0.out.cell 2
        have r0 : Z.cell? ⟨g + 1 + 1, 0, none⟩ = some (.int .i64 0) := E2.out.cell 0
        have r1 : Z.cell? ⟨g + 1 + 1, 1, none⟩ = some (.int .i64 0) := E2.out.cell 1
        have r2 : Z.cell? ⟨g + 1 + 1, 2, none⟩ = some (.slice none 0 0) := E2.out.cell 2
        have y0 := E2.out.fz 0
        have y1 := E2.out.fz 1
        have y2 := E2.out.fz 2
        go_wp2_with fail
        have TT := turns_set3 Z (g + 1 + 1) (.int .i64 u) (.int .i64 vv) (.slice A5 s.log.length c5)
        have PK : Blk (((Z.setCell ⟨g + 1 + 1, 0, none⟩ (.int .i64 u)).setCell ⟨g + 1 + 1, 1, none⟩ (.int .i64 vv)).setCell ⟨g + 1 + 1, 2, none⟩ (.slice A5 s.log.length c5)) (g + 1 + 1) 27 [.int .i64 u, .int .i64 vv, .slice A5 s.log.length c5] := ((E2.out.set 0 (.int .i64 u)).set 1 (.int .i64 vv)).set 2 (.slice A5 s.log.length c5)
        refine bodyPost_ret (results_cell_row (h := rfl) (g := g + 1 + 1) (t := 27) (cs := ([.int .i64 u, .int .i64 vv, .slice A5 s.log.length c5] : List Value).toArray) (fr := (0, 0)) (hp := rfl) (hg := PK) (hu := Tryz.underlying27) (hd := rfl) (hi := by kernel_rfl) _ _) rfl ?_
        have LF := EL.out.keep TT (fun q cs hq _ e => IsEn.ne ⟨cs, hq⟩ E2.out (by decide) e)
        have BF := EB.out.trans (TT.below (B := g) (by have := E2.out.lt; omega) (fun i _ e => by omega))
        have HE : nextP s (Dee.dd ⟨2, tm, data, num, kA, kn, kc, z⟩) = ⟨u, vv, s.log⟩ := by
          rw [← HU.out, ← HVV.out]
          rfl
        rw [HE]
        exact ⟨A5, c5, rfl, LF, by rw [HG.out]; exact BF⟩
      · have hd2' : decide (d = 2) = false := decide_eq_false hd2
        have hd2b : (d == 2) = false := by simp [hd2]
        by_cases hd6 : d = 6
        · subst hd6
          go_upto_region 12 with (fail)
          clear k0 k1 k2 j0 j1 j2 j3 r0 r1 r2 z0 z1 z2 y0 y1 y2
          obtain ⟨nl, hnl⟩ : ∃ m, s.log.length = m := ⟨_, rfl⟩
          have HNL := Lib.hid hnl
          have hnl2 : nl ≤ 4096 := by have := HL.out; omega
          obtain ⟨un, hun⟩ : ∃ un : Nat, u = (un : Int) := ⟨u.toNat, by have := termN_ok tm; have := HU.out; omega⟩
          subst hun
          obtain ⟨D5, hD5⟩ : ∃ D5 : ByteArray, (⟨(data.data.toList.take 50).toArray⟩ : ByteArray) = D5 := ⟨_, rfl⟩
          have HD5 := Lib.hid hD5
          have HXT : Hid (data.extract 0 (min 50 (data.size : Int)).toNat = D5) := Lib.hid (by
            rw [← hD5]
            exact cut_50 data)
          obtain ⟨K, hK⟩ : ∃ K, min num.toNat 40 = K := ⟨_, rfl⟩
          have HKK := Lib.hid hK
          have hK1 : K ≤ 40 := by omega
          rw [hnl] at M0
          clear hnl hD5
          go_wp2_with fail
          go_loopw [6] (fun iv wr => ∃ (i : Nat) (A6 : Option Addr) (c6 : Nat) (L6 : List En), i ≤ K ∧ iv = .int .i64 (i : Int) ∧ Hid (L6 = s.log ++ List.replicate i ⟨un, D5⟩) ∧ L6.length = nl + i ∧ Hid (OwnE wr X.heap.size A6 c6 L6) ∧ Hid (Blk wr g 27 [.int .i64 t, .int .i64 v, .slice A6 L6.length c6]) ∧ Hid (Blk wr (g + 1) 56 [.int .u8 6, .int .i64 tm, .string data, .int .i64 num, .slice kA kn kc]) ∧ Hid (Blk wr (g + 1 + 1) 27 [.int .i64 0, .int .i64 0, .slice none 0 0]) ∧ Hid (Below g w wr) ∧ Hid (X.heap.size ≤ wr.heap.size)) (fun iv _ => K - (intOf iv).toNat)
          case atStart => exact ⟨0, A5, c5, s.log, by omega, rfl, Lib.hid (by simp), HNL.out, OY, Lib.hid (by rw [HNL.out]; exact M0.out), M1, M2, BY, HYS⟩
          case round =>
            obtain ⟨i, A6, c6, L6, hi, rfl, hL6, hl6, hO, hM0, hM1, hM2, hB, hS⟩ := hrel
            obtain ⟨n6, hn6⟩ : ∃ n6, L6.length = n6 := ⟨_, rfl⟩
            have HN6 := Lib.hid hn6
            have k2 : wr.cell? ⟨g, 2, none⟩ = some (.slice A6 n6 c6) := by rw [← hn6]; exact hM0.out.cell 2
            have j2 : wr.cell? ⟨g + 1, 2, none⟩ = some (.string data) := hM1.out.cell 2
            have j3 : wr.cell? ⟨g + 1, 3, none⟩ = some (.int .i64 num) := hM1.out.cell 3
            have z2 := hM0.out.fz 2
            by_cases hlt : i < K
            · have hlt1 : (i : Int) < num := by omega
              have hlt2 : (i : Int) < 40 := by omega
              have hl6' := Lib.hid hl6
              have hm0 : 0 ≤ min 50 (data.size : Int) := by omega
              have hm1 : min 50 (data.size : Int) ≤ (data.size : Int) := by omega
              obtain ⟨L7, hL7⟩ : ∃ r, r = L6 ++ [(⟨un, data.extract 0 (min 50 (data.size : Int)).toNat⟩ : En)] := ⟨_, rfl⟩
              have HN := below_drewN' (Below.new wr (.cells #[.int .i64 (un : Int), .string (data.extract 0 (min 50 (data.size : Int)).toNat)] 29)) 1
              have hen := (own_en1 wr ⟨un, data.extract 0 (min 50 (data.size : Int)).toNat⟩ un rfl).lg.bel (below_drewN' (Below.refl _ _) 1)
              obtain ⟨A7, c7, Y3, h1, h2, h3, _⟩ := append_own_en (wr.alloc (.cells #[.int .i64 (un : Int), .string (data.extract 0 (min 50 (data.size : Int)).toNat)] 29)).drew X.heap.size A6 c6 L6 (hO.out.bel HN) (by have := HN.size; have := hS.out; show X.heap.size ≤ _; exact Nat.le_trans this HN.size) (some ⟨wr.heap.size, 0, none⟩) 1 1 [(⟨un, data.extract 0 (min 50 (data.size : Int)).toNat⟩ : En)] hen (by simp only [List.length_singleton]; omega) 25 L7 hL7
              rw [hn6] at h1
              have HR := Lib.hid h1
              have O7 := Lib.hid h2
              have N0 : Hid (Blk (wr.alloc (.cells #[.int .i64 (un : Int), .string (data.extract 0 (min 50 (data.size : Int)).toNat)] 29)).drew g 27 [.int .i64 t, .int .i64 v, .slice A6 n6 c6]) := Lib.hid (by rw [← hn6]; exact hM0.out.bel HN)
              have P0 : Hid (Blk Y3 g 27 [.int .i64 t, .int .i64 v, .slice A6 n6 c6]) := Lib.hid ((h3.block g (by have := HXS.out; omega)).trans N0.out)
              have P1 : Hid (Blk Y3 (g + 1) 56 [.int .u8 6, .int .i64 tm, .string data, .int .i64 num, .slice kA kn kc]) := Lib.hid ((h3.block (g + 1) (by have := HXS.out; omega)).trans (hM1.out.bel HN))
              have P2 : Hid (Blk Y3 (g + 1 + 1) 27 [.int .i64 0, .int .i64 0, .slice none 0 0]) := Lib.hid ((h3.block (g + 1 + 1) (by have := HXS.out; omega)).trans (hM2.out.bel HN))
              have BQ := Lib.hid (hB.out.trans ((HN.mono (by have := hS.out; have := HXS.out; omega)).trans (h3.mono (by have := HXS.out; omega))))
              have SQ : Hid (X.heap.size ≤ Y3.heap.size) := Lib.hid (Nat.le_trans (Nat.le_trans hS.out HN.size) h3.size)
              have HL7 := Lib.hid hL7
              have k2b : (wr.alloc (.cells #[.int .i64 (un : Int), .string (data.extract 0 (min 50 (data.size : Int)).toNat)] 29)).cell? ⟨g, 2, none⟩ = some (.slice A6 n6 c6) := N0.out.cell 2
              have j2b : (wr.alloc (.cells #[.int .i64 (un : Int), .string (data.extract 0 (min 50 (data.size : Int)).toNat)] 29)).cell? ⟨g + 1, 2, none⟩ = some (.string data) := (hM1.out.bel HN).cell 2
              have k2c : (wr.alloc (.cells #[.int .i64 (un : Int), .string (data.extract 0 (min 50 (data.size : Int)).toNat)] 29)).drew.cell? ⟨g, 2, none⟩ = some (.slice A6 n6 c6) := N0.out.cell 2
              have k2d : Y3.cell? ⟨g, 2, none⟩ = some (.slice A6 n6 c6) := P0.out.cell 2
              have z2d := P0.out.fz 2
              clear hn6 hl6 hL7 h1 h2 h3 HN hen
              go_upto_region 15 with (fail)
              go_region_law (first | (refine step_append_run (by rfl) _ _ _ (by rfl) _ _ (by rfl) (by rfl) (.slice A7 L7.length c7) Y3 HR.out ?_))
              all_goals
                have hF0 : Hid (Blk (Y3.setCell ⟨g, 2, none⟩ (.slice A7 L7.length c7)) g 27 [.int .i64 t, .int .i64 v, .slice A7 L7.length c7]) := Lib.hid (P0.out.set 2 _)
                have TS : Turns (fun i => i = g) Y3 (Y3.setCell ⟨g, 2, none⟩ (.slice A7 L7.length c7)) := Turns.of_set (S := fun i => i = g) Y3 ⟨g, 2, none⟩ _ rfl
                generalize (Y3.setCell ⟨g, 2, none⟩ (.slice A7 L7.length c7)) = Z at *
                have hF1 := Lib.hid (P1.out.turns TS (show ¬ g + 1 = g by omega))
                have hF2 := Lib.hid (P2.out.turns TS (show ¬ g + 1 + 1 = g by omega))
                have hFO := Lib.hid (O7.out.keep TS (fun q hq e => by have := O7.out.ge q hq; have := HXS.out; omega))
                have hFB := Lib.hid (BQ.out.trans (TS.below (B := g) (by have := SQ.out; have := HXS.out; omega) (fun i _ e => by omega)))
                have hFS : Hid (X.heap.size ≤ Z.heap.size) := Lib.hid (by have := TS.size; have := SQ.out; omega)
                clear k2 j2 j3 z2 k2b k2c k2d j2b z2d
                go_wp2_with fail
                refine ⟨⟨i + 1, A7, c7, L7, by omega, by simp, Lib.hid (by rw [HL7.out, hL6.out, HXT.out, List.append_assoc, ← List.replicate_succ']), by rw [HL7.out, List.length_append, hl6'.out]; rfl, hFO, hF0, hF1, hF2, hFB, hFS⟩, ?_⟩
                simp [intOf]; omega
            · obtain rfl : i = K := by omega
              have HL6 := Lib.hid hl6
              have EL := Lib.hid hO.out.lg
              have E0 : Hid (Blk wr g 27 [.int .i64 t, .int .i64 v, .slice A6 n6 c6]) := Lib.hid (by rw [← hn6]; exact hM0.out)
              have E2 := hM2
              have EB := hB
              have hlt3 : decide ((i : Int) < 40) = false ∨ decide ((i : Int) < num) = false := by
                by_cases h40 : i < 40
                · exact .inr (decide_eq_false (by omega))
                · exact .inl (decide_eq_false (by omega))
              have HE : nextP s (Dee.dd ⟨6, tm, data, num, kA, kn, kc, z⟩) = ⟨t, v, L6⟩ := by
                rw [hL6.out, ← HT.out, ← HV.out, ← HD5.out, ← HU.out]
                unfold nextP Dee.dd
                simp only
                rw [if_neg (by decide), if_neg (by decide), if_neg (by decide), if_pos (by decide), addN_eq, HKK.out]
              clear hn6 hl6 hlt
              by_cases hln : (i : Int) < num
              · have hln2 : ¬ (i : Int) < 40 := by
                  intro h
                  rcases hlt3 with q | q
                  · exact absurd h (of_decide_eq_false q)
                  · exact absurd hln (of_decide_eq_false q)
                clear hlt3
                have k0 : wr.cell? ⟨g, 0, none⟩ = some (.int .i64 t) := E0.out.cell 0
                have k1 : wr.cell? ⟨g, 1, none⟩ = some (.int .i64 v) := E0.out.cell 1
                have k2 : wr.cell? ⟨g, 2, none⟩ = some (.slice A6 n6 c6) := E0.out.cell 2
                have r0 : wr.cell? ⟨g + 1 + 1, 0, none⟩ = some (.int .i64 0) := E2.out.cell 0
                have r1 : wr.cell? ⟨g + 1 + 1, 1, none⟩ = some (.int .i64 0) := E2.out.cell 1
                have r2 : wr.cell? ⟨g + 1 + 1, 2, none⟩ = some (.slice none 0 0) := E2.out.cell 2
                have y0 := E2.out.fz 0
                have y1 := E2.out.fz 1
                have y2 := E2.out.fz 2
                go_wp2_with fail
                have TT := turns_set3 wr (g + 1 + 1) (.int .i64 t) (.int .i64 v) (.slice A6 n6 c6)
                have PK : Blk (((wr.setCell ⟨g + 1 + 1, 0, none⟩ (.int .i64 t)).setCell ⟨g + 1 + 1, 1, none⟩ (.int .i64 v)).setCell ⟨g + 1 + 1, 2, none⟩ (.slice A6 n6 c6)) (g + 1 + 1) 27 [.int .i64 t, .int .i64 v, .slice A6 n6 c6] := ((E2.out.set 0 (.int .i64 t)).set 1 (.int .i64 v)).set 2 (.slice A6 n6 c6)
                refine bodyPost_ret (results_cell_row (h := rfl) (g := g + 1 + 1) (t := 27) (cs := ([.int .i64 t, .int .i64 v, .slice A6 n6 c6] : List Value).toArray) (fr := (0, 0)) (hp := rfl) (hg := PK) (hu := Tryz.underlying27) (hd := rfl) (hi := by kernel_rfl) _ _) rfl ?_
                have LF := EL.out.keep TT (fun q cs hq _ e => IsEn.ne ⟨cs, hq⟩ E2.out (by decide) e)
                have BF := EB.out.trans (TT.below (B := g) (by have := E2.out.lt; omega) (fun i _ e => by omega))
                exact ⟨A6, c6, by rw [HN6.out]; rfl, LF, by rw [HG.out]; exact BF⟩
              · clear hlt3
                have k0 : wr.cell? ⟨g, 0, none⟩ = some (.int .i64 t) := E0.out.cell 0
                have k1 : wr.cell? ⟨g, 1, none⟩ = some (.int .i64 v) := E0.out.cell 1
                have k2 : wr.cell? ⟨g, 2, none⟩ = some (.slice A6 n6 c6) := E0.out.cell 2
                have r0 : wr.cell? ⟨g + 1 + 1, 0, none⟩ = some (.int .i64 0) := E2.out.cell 0
                have r1 : wr.cell? ⟨g + 1 + 1, 1, none⟩ = some (.int .i64 0) := E2.out.cell 1
                have r2 : wr.cell? ⟨g + 1 + 1, 2, none⟩ = some (.slice none 0 0) := E2.out.cell 2
                have y0 := E2.out.fz 0
                have y1 := E2.out.fz 1
                have y2 := E2.out.fz 2
                go_wp2_with fail
                have TT := turns_set3 wr (g + 1 + 1) (.int .i64 t) (.int .i64 v) (.slice A6 n6 c6)
                have PK : Blk (((wr.setCell ⟨g + 1 + 1, 0, none⟩ (.int .i64 t)).setCell ⟨g + 1 + 1, 1, none⟩ (.int .i64 v)).setCell ⟨g + 1 + 1, 2, none⟩ (.slice A6 n6 c6)) (g + 1 + 1) 27 [.int .i64 t, .int .i64 v, .slice A6 n6 c6] := ((E2.out.set 0 (.int .i64 t)).set 1 (.int .i64 v)).set 2 (.slice A6 n6 c6)
                refine bodyPost_ret (results_cell_row (h := rfl) (g := g + 1 + 1) (t := 27) (cs := ([.int .i64 t, .int .i64 v, .slice A6 n6 c6] : List Value).toArray) (fr := (0, 0)) (hp := rfl) (hg := PK) (hu := Tryz.underlying27) (hd := rfl) (hi := by kernel_rfl) _ _) rfl ?_
                have LF := EL.out.keep TT (fun q cs hq _ e => IsEn.ne ⟨cs, hq⟩ E2.out (by decide) e)
                have BF := EB.out.trans (TT.below (B := g) (by have := E2.out.lt; omega) (fun i _ e => by omega))
                exact ⟨A6, c6, by rw [HN6.out]; rfl, LF, by rw [HG.out]; exact BF⟩
        · have hd6' : decide (d = 6) = false := decide_eq_false hd6
          have hd6b : (d == 6) = false := by simp [hd6]
          go_upto_region 16 with (fail)
          have E0 := M0
          have E2 := M2
          have EL := Lib.hid OY.out.lg
          have EB := BY
          clear k0 k1 k2 j0 j1 j2 j3 r0 r1 r2 z0 z1 z2 y0 y1 y2
          have k0 : Y.cell? ⟨g, 0, none⟩ = some (.int .i64 t) := E0.out.cell 0
          have k1 : Y.cell? ⟨g, 1, none⟩ = some (.int .i64 v) := E0.out.cell 1
          have k2 : Y.cell? ⟨g, 2, none⟩ = some (.slice A5 s.log.length c5) := E0.out.cell 2
          have r0 : Y.cell? ⟨g + 1 + 1, 0, none⟩ = some (.int .i64 0) := E2.out.cell 0
          have r1 : Y.cell? ⟨g + 1 + 1, 1, none⟩ = some (.int .i64 0) := E2.out.cell 1
          have r2 : Y.cell? ⟨g + 1 + 1, 2, none⟩ = some (.slice none 0 0) := E2.out.cell 2
          have y0 := E2.out.fz 0
          have y1 := E2.out.fz 1
          have y2 := E2.out.fz 2
          go_wp2_with fail
          have TT := turns_set3 Y (g + 1 + 1) (.int .i64 t) (.int .i64 v) (.slice A5 s.log.length c5)
          have PK : Blk (((Y.setCell ⟨g + 1 + 1, 0, none⟩ (.int .i64 t)).setCell ⟨g + 1 + 1, 1, none⟩ (.int .i64 v)).setCell ⟨g + 1 + 1, 2, none⟩ (.slice A5 s.log.length c5)) (g + 1 + 1) 27 [.int .i64 t, .int .i64 v, .slice A5 s.log.length c5] := ((E2.out.set 0 (.int .i64 t)).set 1 (.int .i64 v)).set 2 (.slice A5 s.log.length c5)
          refine bodyPost_ret (results_cell_row (h := rfl) (g := g + 1 + 1) (t := 27) (cs := ([.int .i64 t, .int .i64 v, .slice A5 s.log.length c5] : List Value).toArray) (fr := (0, 0)) (hp := rfl) (hg := PK) (hu := Tryz.underlying27) (hd := rfl) (hi := by kernel_rfl) _ _) rfl ?_
          have LF := EL.out.keep TT (fun q cs hq _ e => IsEn.ne ⟨cs, hq⟩ E2.out (by decide) e)
          have BF := EB.out.trans (TT.below (B := g) (by have := E2.out.lt; omega) (fun i _ e => by omega))
          have HE : nextP s (Dee.dd ⟨d, tm, data, num, kA, kn, kc, z⟩) = s := by
            have := HX.out.d
            simp only at this
            unfold nextP Dee.dd
            simp only
            rw [if_neg (by omega), if_neg (by omega), if_neg (by omega), if_neg (by omega)]
          rw [HE, HT.out, HV.out]
          exact ⟨A5, c5, rfl, LF, by rw [HG.out]; exact BF⟩
end Go.Proofs.YteihedfmmiihiaaGreat
