/- wal, the law's world: awake. -/
import Derived.Test.YteihedfmmiihiaaGreatWmM
namespace Go.Proofs.YteihedfmmiihiaaGreat
open Go.RowKit Go.Maps Go.Sort Go.Shelf

def awS : Sv := ⟨3, 1, [⟨1, ⟨#[97]⟩⟩]⟩
def aw0 : Dk := ⟨false, -1, fun _ => none⟩
def awB : List UInt8 := runB (recB none0 awS)
def aw1 : Dk := ⟨false, -1, upd (upd (fun _ => none) kW (awB, 0)) kW (awB, awB.length)⟩
theorem aw_ok : SvOk awS := ⟨by decide, by decide, by decide, fun x hx => by
  unfold awS at hx
  rw [List.mem_singleton] at hx
  subst hx
  exact ⟨by decide, by decide⟩⟩
theorem aw_open : openR aw0 none0 [] = (0, aw0) := by simp [openR, clR, chC, rmS, chS, aw0]
theorem aw_keep : keepR aw0 none0 awS 0 = (0, aw1) := by
  have e : sameSv awS none0 = false := by decide
  unfold keepR
  rw [if_neg (by unfold full; omega), e]
  simp [moreR, thenR, apR, syR, apC, apS, chC, syS, chS, aw0, aw1, pl, upd, lessF, awB]
theorem aw_open1 : (openR aw1 awS []).1 = 0 := by simp [openR, clR, chC, aw1, upd, kNW]
theorem aw_len : awB.length ≤ 100000000 := by
  have h := full_len awS aw_ok
  have h2 : wt awS = 97 := by decide
  unfold full at h
  unfold awB
  omega
theorem aw_pl : (pl aw1.p kW).1 = awB := by simp [pl, aw1, upd]
set_option maxRecDepth 20000 in
set_option maxHeartbeats 8000000 in
theorem awake_any (w : World) : Calls Tryz.prog 11 #[] w fun e w' => e = .returned (.bool true) ∧ Below w.heap.size w w' := by
  have HN := Lib.hid (newD (Xs := X0) w)
  obtain ⟨H, hH⟩ : ∃ H, w.heap.size = H := ⟨_, rfl⟩
  rw [hH] at HN ⊢
  have HH := Lib.hid hH
  clear hH
  go_enter Tryz.func11, Tryz.ntmps11
  go_wp2_with fail
  refine HN.out.mono ?_
  rintro e w1 ⟨rfl, h1, hb1⟩
  have D1 : Hid (aw0.Is X0 w1 (H + 1) H 0) := Lib.hid h1
  have B1 := Lib.hid hb1
  have HO := open_on w1 (H + 1) H 0 aw0 D1.out rfl x0 [] [] [] none0 rfl (by decide) rfl FileIs.nil Rest.nil (by decide)
  rw [aw_open] at HO
  unfold OpenY at HO
  have HO := Lib.hid HO
  clear h1 hb1
  go_wp2_with fail
  refine HO.out.mono ?_
  rintro e w2 ⟨hd2, ht2, hcase⟩
  rcases hcase with ⟨_, wl, A, c, A2, c2, H2, rfl, hwl, hbw, hlw, ho2, hH2, hlt2, _⟩ | ⟨hne, _⟩
  · have D2 := Lib.hid hd2
    have T2 := Lib.hid ht2
    have W2 : Hid (Blk w2 wl 41 (walC (H + 1) none0.term none0.vote (.slice A none0.log.length c) false 0)) := Lib.hid hbw
    have L2 := Lib.hid hlw
    have hwlt := hbw.lt
    have hwl1 : H + 2 ≤ wl := by
      have := DS.lts D1.out
      omega
    clear hd2 ht2 hbw hlw ho2 HO
    unfold svV none0
    simp only [List.length_nil]
    go_upto_region 3 with (fail)
    have HH2 := Lib.hid (show H + 2 ≤ w1.heap.size by have := DS.lts D1.out; omega)
    obtain ⟨gs, hgs⟩ : ∃ gs, w2.heap.size = gs := ⟨_, rfl⟩
    have HGS := Lib.hid hgs
    have BY := Lib.hid (Below.new w2 (.cells #[.int .i64 0, .int .i64 (-1), .slice A2 0 c2] 27))
    have KS := Lib.hid (Blk.new w2 27 [.int .i64 0, .int .i64 (-1), .slice A2 0 c2])
    have WY := Lib.hid (W2.out.bel BY.out)
    have LY := Lib.hid (L2.out.bel BY.out)
    have DY := Lib.hid (DS.bel D2.out BY.out)
    have TY := Lib.hid (((Turns.of_below (S := fun g => H ≤ g) (by rw [HH.out]; exact B1.out)).then (T2.out.mono (fun i _ e => DSet.lo ⟨by omega, Nat.le_refl _⟩ i e))).then (.of_below BY.out))
    rw [hgs] at KS hwlt ⊢
    clear hgs
    generalize (w2.alloc (.cells #[.int .i64 0, .int .i64 (-1), .slice A2 0 c2] 27)) = Y at *
    have k1 : Y.cell? ⟨gs, 1, none⟩ = some (.int .i64 (-1)) := KS.out.cell 1
    have BZ := Lib.hid (Below.new2 Y (.cells #[.int .i64 1, .string ⟨#[97]⟩] 29) (.cells #[.int .i64 3, .int .i64 1, .slice (some ⟨Y.heap.size, 0, none⟩) 1 1] 27))
    have KX := Lib.hid (Blk.new2 Y (.cells #[.int .i64 1, .string ⟨#[97]⟩] 29) 27 [.int .i64 3, .int .i64 1, .slice (some ⟨Y.heap.size, 0, none⟩) 1 1])
    have OE : Hid (OwnE ((Y.alloc (.cells #[.int .i64 1, .string ⟨#[97]⟩] 29)).alloc (.cells #[.int .i64 3, .int .i64 1, .slice (some ⟨Y.heap.size, 0, none⟩) 1 1] 27)) Y.heap.size (some ⟨Y.heap.size, 0, none⟩) 1 awS.log) := Lib.hid ((own_en1 Y ⟨1, ⟨#[97]⟩⟩ 1 rfl).bel (Below.new _ _))
    have WZ := Lib.hid (WY.out.bel BZ.out)
    have LZ := Lib.hid (LY.out.bel BZ.out)
    have DZ := Lib.hid (DS.bel DY.out BZ.out)
    have SZ := Lib.hid (KS.out.bel BZ.out)
    have hYl := KS.out.lt
    have TZ := Lib.hid (TY.out.then (.of_below BZ.out))
    obtain ⟨ge, hge⟩ : ∃ ge, Y.heap.size = ge := ⟨_, rfl⟩
    have HGE := Lib.hid hge
    go_upto_region 6 with (fail)
    rw [hge] at KX OE WZ LZ DZ SZ TZ hYl
    clear hge k1
    generalize ((Y.alloc (.cells #[.int .i64 1, .string ⟨#[97]⟩] 29)).alloc (.cells #[.int .i64 3, .int .i64 1, .slice (some ⟨ge, 0, none⟩) 1 1] 27)) = Z at *
    have hZl := KX.out.lt
    have k0 : Z.cell? ⟨ge + 1, 0, none⟩ = some (.int .i64 3) := KX.out.cell 0
    have k1 : Z.cell? ⟨ge + 1, 1, none⟩ = some (.int .i64 1) := KX.out.cell 1
    have k2 : Z.cell? ⟨ge + 1, 2, none⟩ = some (.slice (some ⟨ge, 0, none⟩) 1 1) := KX.out.cell 2
    have HK := keep_ok Z (H + 1) H 5 wl aw0 DZ.out rfl x0 none0 A c 0 WZ.out LZ.out (by decide) ⟨by decide, rfl⟩ (some ⟨ge, 0, none⟩) 1 1 awS OE.out.lg aw_ok (by decide) 0 aw1 aw_keep _ rfl
    unfold svV awS at HK
    simp only at HK
    have HK := Lib.hid HK
    go_wp2_with fail
    refine HK.out.mono ?_
    rintro e w3 ⟨rfl, hd3, ht3, _⟩
    have D3 := Lib.hid hd3
    have T3 := Lib.hid ht3
    have S3 := Lib.hid (SZ.out.turns ht3 (show ¬ AnS (H + 1) H wl gs by unfold AnS; omega))
    have X3 := Lib.hid (KX.out.turns ht3 (show ¬ AnS (H + 1) H wl (ge + 1) by unfold AnS; omega))
    have O3 := Lib.hid (OE.out.keep ht3 (fun q hq e => by injection hq with hq; subst hq; unfold AnS at e; simp only at e; omega))
    have HO := open_on w3 (H + 1) H 10 aw1 D3.out rfl x0 awB awB [] awS aw_pl aw_len (by simp) (FileIs.anew aw_ok) Rest.nil (by decide)
    unfold OpenY at HO
    have HO := Lib.hid HO
    clear hd3 ht3 HK k0 k1 k2
    go_wp2_with fail
    refine HO.out.mono ?_
    rintro e w4 ⟨_, ht4, hcase⟩
    rcases hcase with ⟨_, wl2, _, _, A3, c3, H3, rfl, _, _, _, ho4, _, _, _⟩ | ⟨hne, _⟩
    · have T4 := Lib.hid ht4
      have O4 := Lib.hid ho4
      have hfar : ∀ q, wl < q ∨ H + 1 < q → ¬ DSet (H + 1) H q := fun q hq e => by unfold DSet at e; omega
      have S4 := Lib.hid (S3.out.turns ht4 (hfar _ (by omega)))
      have X4 := Lib.hid (X3.out.turns ht4 (hfar _ (by omega)))
      have E4 := Lib.hid (O3.out.keep ht4 (fun q hq => by injection hq with hq; subst hq; exact hfar _ (by simp only; omega)))
      clear ht4 ho4 HO hfar
      unfold svV awS
      simp only [List.length_singleton]
      have s0 : w4.cell? ⟨gs, 0, none⟩ = some (.int .i64 0) := S4.out.cell 0
      have s1 : w4.cell? ⟨gs, 1, none⟩ = some (.int .i64 (-1)) := S4.out.cell 1
      have s2 : w4.cell? ⟨gs, 2, none⟩ = some (.slice A2 0 c2) := S4.out.cell 2
      have z0 := S4.out.fz 0
      have z1 := S4.out.fz 1
      have z2 := S4.out.fz 2
      go_upto_region 8 with (fail)
      have TV := Lib.hid (turns_set3 w4 gs (.int .i64 3) (.int .i64 1) (.slice A3 1 c3))
      have S5 := Lib.hid (((S4.out.set 0 (.int .i64 3)).set 1 (.int .i64 1)).set 2 (.slice A3 1 c3))
      generalize (((w4.setCell ⟨gs, 0, none⟩ (.int .i64 3)).setCell ⟨gs, 1, none⟩ (.int .i64 1)).setCell ⟨gs, 2, none⟩ (.slice A3 1 c3)) = V at *
      clear s0 s1 s2 z0 z1 z2
      have X5 := Lib.hid (X4.out.turns TV.out (show ¬ ge + 1 = gs by omega))
      have LA := Lib.hid (O4.out.lg.keep TV.out (fun q cs hq _ e => IsEn.ne ⟨cs, hq⟩ S4.out (by decide) e))
      have LB := Lib.hid (E4.out.lg.keep TV.out (fun q cs hq _ e => IsEn.ne ⟨cs, hq⟩ S4.out (by decide) e))
      have HS := same_any V A3 (some ⟨ge, 0, none⟩) _ c3 _ 1 awS awS LA.out LB.out
      unfold svV awS at HS
      simp only [List.length_singleton, decide_true] at HS
      have HS := Lib.hid HS
      have s0 : V.cell? ⟨gs, 0, none⟩ = some (.int .i64 3) := S5.out.cell 0
      have s1 : V.cell? ⟨gs, 1, none⟩ = some (.int .i64 1) := S5.out.cell 1
      have s2 : V.cell? ⟨gs, 2, none⟩ = some (.slice A3 1 c3) := S5.out.cell 2
      have k0 : V.cell? ⟨ge + 1, 0, none⟩ = some (.int .i64 3) := X5.out.cell 0
      have k1 : V.cell? ⟨ge + 1, 1, none⟩ = some (.int .i64 1) := X5.out.cell 1
      have k2 : V.cell? ⟨ge + 1, 2, none⟩ = some (.slice (some ⟨ge, 0, none⟩) 1 1) := X5.out.cell 2
      go_wp2_with fail
      refine HS.out.mono ?_
      rintro e w6 ⟨rfl, hb6⟩
      go_wp2_with fail
      go_ret
      refine ⟨rfl, ?_⟩
      have T5 : Turns (fun g => H ≤ g) w w6 := (((TZ.out.then (T3.out.mono (fun i _ e => by unfold AnS at e; omega))).then (T4.out.mono (fun i _ e => DSet.lo ⟨by omega, Nat.le_refl _⟩ i e))).then (TV.out.mono (fun i _ e => by have := HGS.out; omega))).then (.of_below hb6)
      exact T5.below (by have := HH.out; omega) (fun i _ e => e)
    · exact absurd aw_open1 hne
  · exact absurd rfl hne
end Go.Proofs.YteihedfmmiihiaaGreat
