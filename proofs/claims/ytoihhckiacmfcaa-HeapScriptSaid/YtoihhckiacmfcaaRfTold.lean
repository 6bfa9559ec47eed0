/- HeapScript: told. -/
import Derived.Test.YtoihhckiacmfcaaRfAll
import Derived.Test.YtoihhckiacmfcaaHpSorts
namespace Go.Proofs.Ytoihhckiacmfcaa
open Go.RowKit

theorem own_ne_own {w : World} {b1 e1 s1 n1 b2 e2 s2 n2 g : Nat} {v1 v2 : Value} {xs1 xs2 : List Value} (h1 : w.ownsRow b1 e1 s1 v1 n1 xs1) (h2 : w.ownsRow b2 e2 s2 v2 n2 xs2) (hne : e1 ≠ e2) (hg : v1.ownBlock = some g) : v2.ownBlock ≠ some g := fun hg2 => by
  rcases h1.2 with ⟨rfl, _⟩ | ⟨g1, c1, u1, rfl, _, k1, _⟩
  · simp [Value.ownBlock] at hg
  rcases h2.2 with ⟨rfl, _⟩ | ⟨g2, c2, u2, rfl, _, k2, _⟩
  · simp [Value.ownBlock] at hg2
  simp [Value.ownBlock] at hg hg2
  subst hg hg2
  rw [k1] at k2
  injection k2 with k2
  injection k2 with _ k2 _
  exact hne k2
theorem told_same {xs : List Th} {rs ls ys : List Tri} {nx : Nat} (hc : Cor xs rs nx) (hl : ls.Perm rs ∧ Asc ls) (hy : ys.Perm (xs.map tri) ∧ Asc ys) : ys = ls := by
  have hm : ∀ x ∈ ys, x ∈ rs := fun x hx => hc.perm.mem_iff.1 (hy.1.mem_iff.1 hx)
  exact asc_uniq ys ls ((hy.1.trans hc.perm).trans hl.1.symm) hy.2 hl.2 fun x hx y hy' e => hc.ris.uniq (hm x hx) (hm y hy') e

set_option maxRecDepth 20000 in
set_option maxHeartbeats 8000000 in
theorem told_any (hS : SortSays) (w : World) (p : Nat) (v : Value) (M : Nat) (xs : List Th) (nx : Nat) (h : HStI w p v M xs nx) (r : Nat) (rv : Value) (rs : List Tri) (hr : RS w r rv rs nx) (hc : Cor xs rs nx) :
    Calls Try.prog 22 #[.pointer (some ⟨p, 0, none⟩), .pointer (some ⟨r, 0, none⟩)] w fun e w' => e = .returned (.bool true) ∧ Below w.heap.size w w' := by
  have HH := Lib.hid h
  have HSS := Lib.hid hS
  have HC := Lib.hid hc
  have HA := Lib.hid (rall w r rv rs nx hr hc.ris)
  have hle : xs.length ≤ 1000 := by have := hc.len; have := hr.few; omega
  clear h hS hc hr
  go_enter Try.func22, Try.ntmps22
  go_wp2_with fail
  refine HA.out.mono ?_
  rintro e w1 ⟨lv, ls, rfl, hP, hR, hb⟩
  have HP := Lib.hid hP
  have HR := Lib.hid hR
  have HB := Lib.hid hb
  have H1 := Lib.hid (HH.out.bel hb)
  have hln : ls.length = xs.length := by have := hP.1.length_eq; have := HC.out.len; omega
  clear hP hR hb
  go_wp2_with fail
  refine (keysI HSS.out w1 p v M xs nx xs.length H1.out HC.out.int rfl hle).mono ?_
  rintro e w2 ⟨kv, rfl, ys, hy, hyl, hk, hb⟩
  obtain rfl := told_same HC.out HP.out hy
  have HK := Lib.hid hk
  have HB2 := Lib.hid hb
  have H2 := Lib.hid (H1.out.bel hb)
  have HR2 := Lib.hid (own_turns HR.out (.of_below (S := fun _ => False) hb) (fun _ _ => id))
  clear hy hyl hk hb
  go_wp2_with fail
  refine (allI HSS.out w2 p v M xs nx xs.length H2.out HC.out.int rfl hle).mono ?_
  rintro e w3 ⟨av, rfl, us, hy, hyl, hk, hb⟩
  obtain rfl := told_same HC.out HP.out hy
  have HV3 := Lib.hid hk
  have HK3 := Lib.hid (own_turns HK.out (.of_below (S := fun _ => False) hb) (fun _ _ => id))
  have HR3 := Lib.hid (own_turns HR2.out (.of_below (S := fun _ => False) hb) (fun _ _ => id))
  have HB3 := Lib.hid ((HB.out.trans (HB2.out.mono HB.out.size)).trans (hb.mono (Nat.le_trans HB.out.size HB2.out.size)))
  have hs1 := HB.out.size
  have hs2 := HB2.out.size
  clear hy hyl hk hb HK HR2 HR H1 H2 HB2
  generalize w1.heap.size = b1 at *
  generalize w2.heap.size = b2 at *
  obtain ⟨Al, cl, rfl⟩ := own_slice' HR3.out
  obtain ⟨Ak, ck, rfl⟩ := own_slice' HK3.out
  obtain ⟨Av, cv, rfl⟩ := own_slice' HV3.out
  have HLN := Lib.hid hln
  rw [hln] at HR3
  have hgl : ∀ j (hj : j < us.length), us[j] = gR us j := fun j hj => (gR_of hj).symm
  have HK4 : Hid (w3.ownsRow b1 2 1 (.slice Ak xs.length ck) xs.length (us.map fun y => .int .i64 y.1)) := HK3
  clear HK3 hgl
  simp only [hln]
  generalize hn : xs.length = n at *
  clear hn
  go_wp2_with fail
  go_loopw [8] (fun iv wr => ∃ (i : Nat) (ks vs : List Value), i ≤ n ∧ iv = .int .i64 (i : Int) ∧ Hid (wr.ownsRow b1 2 1 (.slice Ak n ck) n ks) ∧ Hid (wr.ownsRow b2 3 1 (.slice Av n cv) n vs) ∧ Hid (wr.ownsRow w.heap.size 48 3 (.slice Al n cl) n (us.flatMap triC)) ∧ Hid (∀ j, i ≤ j → j < n → ks[j]? = some (.int .i64 (gR us j).1) ∧ vs[j]? = some (.int .i64 (gR us j).2.2)) ∧ Hid (Below w.heap.size w wr)) (fun iv _ => n - (intOf iv).toNat)
  case atStart =>
    refine ⟨0, _, _, by omega, rfl, HK4, HV3, HR3, Lib.hid (fun j _ hj => ?_), HB3⟩
    have hj' : j < us.length := by rw [HLN.out]; exact hj
    rw [List.getElem?_map, List.getElem?_map, List.getElem?_eq_getElem hj', gR_of hj']
    exact ⟨rfl, rfl⟩
  case round =>
    clear HK4 HV3 HR3 HB3
    obtain ⟨i, ks, vs, hi, rfl, hK, hV, hR, hC, hB⟩ := hrel
    by_cases hlt : i < n
    · have hlt1 : (i : Int) < (n : Int) := by omega
      have hK' := hK.out
      have hV' := hV.out
      have hR' := hR.out
      obtain ⟨g1, c1, e, vb1, hg1, hn1, hm1⟩ := own_at hK' (by omega)
      injection e with e1 _ e3
      subst e1 e3
      obtain ⟨g2, c2, e, vb2, hg2, hn2, hm2⟩ := own_at hV' (by omega)
      injection e with e1 _ e3
      subst e1 e3
      obtain ⟨g3, c3, e, vb3, hg3, hn3, hm3⟩ := own_at hR' (by omega)
      injection e with e1 _ e3
      subst e1 e3
      obtain ⟨x1, x2⟩ := hC.out i (Nat.le_refl _) hlt
      have d1 := hK'.cellAt i (by omega)
      have d2 := hV'.cellAt i (by omega)
      rw [x1] at d1
      rw [x2] at d2
      have hl3 : i < us.length := by rw [HLN.out]; exact hlt
      have hx : ∀ j, j < 3 → wr.cell? ⟨g3, i * 3 + j, none⟩ = (triC (gR us i))[j]? := fun j hj => by
        rw [hR'.cellAt _ (by omega), flat_get triC 3 triC_len us i j hj, List.getElem?_eq_getElem hl3, gR_of hl3]
        rfl
      have d3 := hx 0 (by omega)
      have d4 := hx 2 (by omega)
      rw [Nat.add_zero] at d3
      simp only [triC, List.getElem?_cons_succ, List.getElem?_cons_zero] at d3 d4
      have n12 : g1 ≠ g2 := fun e => own_ne_own hK' hV' (by decide) vb1 (by rw [vb2, e])
      have n13 : g1 ≠ g3 := fun e => own_ne_own hK' hR' (by decide) vb1 (by rw [vb3, e])
      have n23 : g2 ≠ g3 := fun e => own_ne_own hV' hR' (by decide) vb2 (by rw [vb3, e])
      have hb1 := (own_lt hK' vb1).1
      have hb2 := (own_lt hV' vb2).1
      clear hx x1 x2 hK' hV' hR' vb1 vb2 vb3
      generalize gR us i = x at *
      go_wp2_with fail
      go_quiet (fail)
      have K2 := Lib.hid (own_turns hK.out ((Turns.refl (fun _ => False) wr).drewN nq) (fun _ _ => id))
      have V2 := Lib.hid (own_turns hV.out ((Turns.refl (fun _ => False) wr).drewN nq) (fun _ _ => id))
      have R2 := Lib.hid (own_turns hR.out ((Turns.refl (fun _ => False) wr).drewN nq) (fun _ _ => id))
      have B2 := Lib.hid (hB.out.trans (below_drewN' (Below.refl w.heap.size wr) nq))
      clear d1 d2 d3 d4 hK hV hR hB
      generalize wr.drewN nq = V at *
      have hik : i < ks.length := by have := K2.out.1; omega
      have hiv : i < vs.length := by have := V2.out.1; omega
      have d1 := K2.out.cellAt i (by omega)
      have d2 := V2.out.cellAt i (by omega)
      rw [List.getElem?_eq_getElem hik] at d1
      rw [List.getElem?_eq_getElem hiv] at d2
      have z1 := K2.out.frozenAt i
      have z2 := V2.out.frozenAt i
      have n12' : g2 ≠ g1 := fun e => n12 e.symm
      have TS1 : Turns (fun j => j = g1) V (V.setCell ⟨g1, i, none⟩ (.int .i64 7)) := Turns.of_set V ⟨g1, i, none⟩ _ rfl
      have TS2 : Turns (fun j => j = g2) (V.setCell ⟨g1, i, none⟩ (.int .i64 7)) ((V.setCell ⟨g1, i, none⟩ (.int .i64 7)).setCell ⟨g2, i, none⟩ (.int .i64 7)) := Turns.of_set _ ⟨g2, i, none⟩ _ rfl
      have K4 := Lib.hid (own_turns (K2.out.stored i (.int .i64 7)).1 TS2 (fun g hg e => by simp [Value.ownBlock] at hg; omega))
      have V4 := Lib.hid ((own_turns V2.out TS1 (fun g hg e => by simp [Value.ownBlock] at hg; omega)).stored i (.int .i64 7)).1
      have R4 := Lib.hid (own_turns (own_turns R2.out TS1 (fun g hg e => by simp [Value.ownBlock] at hg; omega)) TS2 (fun g hg e => by simp [Value.ownBlock] at hg; omega))
      have B4 := Lib.hid ((B2.out.setCell (p := ⟨g1, i, none⟩) (by simp; omega) (.int .i64 7)).setCell (p := ⟨g2, i, none⟩) (by simp; omega) (.int .i64 7))
      have C4 : Hid (∀ j, i + 1 ≤ j → j < n → (ks.set i (.int .i64 7))[j]? = some (.int .i64 (gR us j).1) ∧ (vs.set i (.int .i64 7))[j]? = some (.int .i64 (gR us j).2.2)) := Lib.hid (fun j h1 h2 => by
        rw [List.getElem?_set_ne (by omega), List.getElem?_set_ne (by omega)]
        exact hC.out j (by omega) h2)
      clear TS1 TS2
      go_wp2_with fail
      go_roundw
      case measure => simp only [intOf]; omega
      case rel => exact ⟨i + 1, _, _, by omega, by go_num, K4, V4, R4, C4, B4⟩
    · have hlt1 : ¬ (i : Int) < (n : Int) := by omega
      go_wp2_with fail
      go_ret
      exact ⟨rfl, hB.out⟩
end Go.Proofs.Ytoihhckiacmfcaa
