/- QueueLeases: the walk. -/
import Derived.Test.YtpbheicfplpemaaQuLeP
import Derived.Laws.Concat
namespace Go.Proofs.Ytpbheicfplpemaa
open Go.RowKit

set_option maxRecDepth 20000 in
theorem leases_long0 (a0 a1 : Option Addr) (n c0 m c1 : Nat) (now : Int) (w : World) (hl : 30 < (n : Int)) : Calls Try.prog 4 #[.slice a0 n c0, .slice a1 m c1, .int .i64 now] w fun e w' => e = .returned (.bool true) ∧ Below w.heap.size w w' := by
  go_enter Try.func4, Try.ntmps4
  go_wp2_with fail
  refine (awake_any w).mono ?_
  rintro e w1 ⟨rfl, hb⟩
  have HB := Lib.hid hb
  clear hb
  go_wp2_with fail
  go_ret
  exact ⟨rfl, HB.out⟩
set_option maxRecDepth 20000 in
theorem leases_long1 (a0 a1 : Option Addr) (n c0 m c1 : Nat) (now : Int) (w : World) (h0 : ¬ 30 < (n : Int)) (hl : 30 < (m : Int)) : Calls Try.prog 4 #[.slice a0 n c0, .slice a1 m c1, .int .i64 now] w fun e w' => e = .returned (.bool true) ∧ Below w.heap.size w w' := by
  go_enter Try.func4, Try.ntmps4
  go_wp2_with fail
  refine (awake_any w).mono ?_
  rintro e w1 ⟨rfl, hb⟩
  have HB := Lib.hid hb
  clear hb
  go_wp2_with fail
  go_ret
  exact ⟨rfl, HB.out⟩
theorem info_i64 : (Try.prog.info? 2).map (fun i => (i.zero, i.size, i.bytes)) = some (some (.int .i64 0), 1, 8) := by kernel_rfl
theorem name_slice (k : Nat) (hk : k < 40) (wx : World) : (Instr.slice 9 (.string names52) (some (.int .i64 (k : Int))) (some (.int .i64 ((k : Int) + 1))) none).run Try.prog wx = .ok (.string (ltr k)) wx := by
  have := run_slice_string (P := Try.prog) wx 9 names52 .i64 .i64 k ((k + 1 : Nat) : Int) Try.underlying9 (by omega) (by omega) (by rw [names_size]; omega)
  simpa [ltr] using this
theorem isForI_plain (k who : ByteArray) : isForI 0 who 0 ⟨k, ⟨#[]⟩, 0, 0⟩ = true := by simp [isForI]
theorem own_fz {w : World} {base n k g cap : Nat} {e : TypeId} {size : Nat} {xs : List Value} (h : w.ownsRow base e size (.slice (some ⟨g, 0, none⟩) n cap) n xs) : w.frozen? ⟨g, k, none⟩ = false := by
  rcases h.2 with ⟨h0, _⟩ | ⟨g', cap', cur, hv, _, hb, _⟩
  · cases h0
  · cases hv
    simp [World.frozen?, hb]
def KeyLt (n : Nat) (tm : ByteArray → Option Int) : Prop := ∀ s, tm s ≠ none → ∃ j, j < n ∧ s = ltr j
theorem KeyLt.fresh {k : Nat} {tm : ByteArray → Option Int} (h : KeyLt k tm) (hk : k < 40) : tm (ltr k) = none := by
  cases e : tm (ltr k) with
  | none => rfl
  | some v =>
    obtain ⟨j, hj, e2⟩ := h (ltr k) (by rw [e]; simp)
    have := ltr_inj k hk j (by omega) e2
    omega
theorem KeyLt.upd {k : Nat} {tm : ByteArray → Option Int} (h : KeyLt k tm) (x y : Int) : KeyLt (k + 1) (updS (updS tm (ltr k) x) (ltr k) y) := fun s hs => by
  unfold updS at hs
  by_cases e : s = ltr k
  · exact ⟨k, by omega, e⟩
  · rw [if_neg e, if_neg e] at hs
    obtain ⟨j, hj, e2⟩ := h s hs
    exact ⟨j, by omega, e2⟩

set_option maxRecDepth 20000 in
set_option maxHeartbeats 8000000 in
theorem leases_short (a0 a1 : Option Addr) (n c0 m c1 : Nat) (z g : Nat → Int) (now : Int) (w : World) (i0 : Ints w a0 n z) (i1 : Ints w a1 m g) (h0 : ¬ 30 < (n : Int)) (h1 : ¬ 30 < (m : Int)) :
    Calls Try.prog 4 #[.slice a0 n c0, .slice a1 m c1, .int .i64 now] w fun e w' => e = .returned (.bool true) ∧ Below w.heap.size w w' := by
  obtain ⟨t0, hi, hz0, hz1, hz2⟩ := info_parts info_i64
  have I0 := Lib.hid i0
  have I1 := Lib.hid i1
  have HN0 := Lib.hid (newQ · 30 0 (by omega) (by omega) (by omega))
  clear i0 i1
  go_enter Try.func4, Try.ntmps4
  go_wp2_with fail
  refine (awake_any w).mono ?_
  rintro e w1 ⟨rfl, hb⟩
  have HB := Lib.hid hb
  clear hb
  go_wp2_with fail
  refine (HN0.out w1).mono ?_
  rintro e w2 ⟨q, O, T, rfl, s2, l2, b2⟩
  have HA := Lib.hid (show LM w w2 q (((0 : Nat) : Int) + 1) _ _ O T _ _ (.slice none 0 0) z 0 from ⟨OA.mk s2 (fun i hi => Nat.le_trans HB.out.size (l2 i hi)) (HB.out.trans (b2.mono HB.out.size)), World.ownsRow_nil _ _ _ _, fun g hg => by simp [Value.ownBlock] at hg⟩)
  have H1 := Lib.hid (lo_start z)
  have K1 : Hid (KeyLt 0 (fun _ => none)) := Lib.hid (fun _ h => absurd rfl h)
  clear s2 l2 b2
  go_wp2_with fail
  go_loopw [10, 11, 12, 13, 14, 15] (fun uvv ivv _ _ _ _ wr => ∃ (i : Nat) (wv : Value) (om : Int → Option Ot) (tm : ByteArray → Option Int), i ≤ n ∧ ivv = .int .i64 (i : Int) ∧ Hid (LM w wr q ((i : Int) + 1) wv [] O T om tm uvv z i) ∧ Hid (OutsS om (los z i)) ∧ Hid (KeyLt i tm)) (fun _ ivv _ _ _ _ _ => n - (intOf ivv).toNat)
  case atStart => exact ⟨0, _, _, _, by omega, rfl, HA, H1, K1⟩
  case round =>
    clear HA H1 K1
    obtain ⟨i, wv, om, tm, hi', rfl, hA, hO, hK⟩ := hrel
    by_cases hlt : i < n
    · have hlt1 : (i : Int) < (n : Int) := by omega
      obtain ⟨x1, rfl, hx1, hc1⟩ := (I0.out.bel hA.out.a.bel).cell i hlt
      have hzb := I0.out.wf i hlt
      generalize hzi : z i = zi at *
      have HZI := Lib.hid hzi
      by_cases hz1' : zi < 1
      · go_wp2_with fail
        go_ret
        exact ⟨rfl, hA.out.a.bel⟩
      · have hsl := fun wx => name_slice i (by omega) wx
        unfold names52 at hsl
        have hP := Lib.hid (putQ wr q 30 0 _ wv [] O T om tm hA.out.a.st (ltr i) ⟨#[]⟩ 0 (hK.out.fresh (by omega)) (by simp) (by simp))
        clear hzi hx1
        go_wp2_with fail
        refine hP.out.mono ?_
        rintro e w3 ⟨rfl, wv3, s3, n3, t3⟩
        have HA3 := Lib.hid (hA.out.move s3 n3 t3)
        have hI := isForI_plain (ltr i) ⟨#[119]⟩
        have HQ := Lib.hid (pollHead w3 q 30 0 _ wv3 _ _ O T _ _ s3 ⟨#[119]⟩ 0 zi (by omega) (by omega) (by omega) (by omega) (by intro t ht; simp at ht; subst ht; constructor <;> simp) (by intro t ht; simp at ht; subst ht; simp) hI)
        clear s3 n3 t3 hP hc1
        obtain ⟨x1, e1, hx1, hc1⟩ := (I0.out.bel HA3.out.a.bel).cell i hlt
        injection e1 with e1
        subst e1
        rw [HZI.out] at hc1
        clear hx1
        go_wp2_with fail
        refine HQ.out.mono ?_
        rintro e w4 ⟨wv4, rfl, s4, n4, t4⟩
        have HA4 := Lib.hid (HA3.out.move s4 n4 t4)
        have HOm : Hid (updI om ((i : Int) + 1) ⟨{ (⟨ltr i, ⟨#[]⟩, 0, 0⟩ : Tk) with att := (0 : Int) + 1 }, (i : Int) + 1, ⟨#[119]⟩, addI 0 zi⟩ = updI om ((i : Int) + 1) (lo z i)) := Lib.hid (by
          rw [addI_zero (by omega) (by omega)]
          unfold lo
          rw [HZI.out]
          rfl)
        have HO4 := Lib.hid (lo_next hO.out)
        have HK4 := Lib.hid (hK.out.upd 0 ((i : Int) + 1))
        clear s4 n4 t4 HQ hc1
        obtain ⟨x1, e1, hx1, hc1⟩ := (I0.out.bel HA4.out.a.bel).cell i hlt
        injection e1 with e1
        subst e1
        rw [HZI.out] at hc1
        clear hx1
        have hrw := HA4.out.row
        obtain ⟨A2, c2, rfl⟩ := own_slice' hrw
        have hbz := Below.new w4 (.cells #[.int .i64 zi] 2)
        have HA5 := Lib.hid (HA4.out.bel hbz)
        have HR5 := Lib.hid HA5.out.row
        have HN := Lib.hid (Blk.news (Blk.new w4 2 [.int .i64 zi]))
        have HM1 : Hid (i + 1 ≤ maxLen) := Lib.hid (by unfold maxLen; omega)
        have HM2 : Hid ((i + 1) * 8 ≤ 140737488355328) := Lib.hid (by omega)
        have HBz := Lib.hid hbz
        clear hrw hbz
        go_wp2_with (at_builtin; refine wpList_append_own_at _ rfl _ _ 37 rfl w.heap.size 2 t0 (.int .i64 0) 1 8 Try.underlying37 hi hz0 hz1 hz2 rfl (by decide) _ _ _ rfl HR5.out ⟨w4.heap.size, 0, none⟩ 1 1 [.int .i64 zi] rfl rfl HN.out (by intro u hu; simp at hu; subst hu; rfl) HM1.out HM2.out HA5.out.a.bel.size ?_; intro v1 y1 hown hgr _ hat)
        have HA6 := Lib.hid (HA5.out.app HZI.out.symm hown (.of_grown hgr (fun r e => e)) (fun g' hg' => by rcases hat with e | e <;> rw [e] at hg'
                                                                                                            · exact .inl hg'
                                                                                                            · injection hg' with hg'; exact .inr (by omega)))
        rw [show ({ (⟨ltr i, ⟨#[]⟩, 0, 0⟩ : Tk) with att := (⟨ltr i, ⟨#[]⟩, 0, 0⟩ : Tk).att + 1 } : Tk) = ({ (⟨ltr i, ⟨#[]⟩, 0, 0⟩ : Tk) with att := (0 : Int) + 1 } : Tk) from rfl, HOm.out] at HA6
        go_roundw
        case measure => simp only [intOf]; omega
        case rel => exact ⟨i + 1, _, _, _, by omega, by go_num, HA6, HO4, HK4⟩
    · obtain rfl : i = n := by omega
      have hlt1 : ¬ (i : Int) < (i : Int) := by omega
      have hrw := hA.out.row
      obtain ⟨A2, c2, rfl⟩ := own_slice' hrw
      have hFew : Hid (i ≤ 30) := Lib.hid (by omega)
      clear hrw hK
      go_wp2_with fail
      go_loopw [16, 17] (fun ivv _ wq => ∃ (k : Nat) (om : Int → Option Ot) (u : Nat → Int), k ≤ m ∧ ivv = .int .i64 (k : Int) ∧ Hid (LM w wq q ((i : Int) + 1) wv [] O T om tm (.slice A2 i c2) u i) ∧ Hid (OutsS om (los u i))) (fun ivv _ _ => m - (intOf ivv).toNat)
      case atStart => exact ⟨0, _, _, by omega, rfl, hA, hO⟩
      case round =>
        clear hA hO
        obtain ⟨k, om, u, hk', rfl, hA, hO⟩ := hrel
        by_cases hkm : k < m
        · have hkm1 : (k : Int) < (m : Int) := by omega
          obtain ⟨x1, rfl, hx1, hc1⟩ := (I1.out.bel hA.out.a.bel).cell k hkm
          have hzb := I1.out.wf k hkm
          generalize hgk : g k = gk at *
          have HGK := Lib.hid hgk
          clear hgk hx1
          by_cases hg1 : gk < 1
          · have hBt := Lib.hid (beatA wr q 30 0 _ wv [] O T om tm hA.out.a.st ((k : Int) + 1) 0 gk hg1)
            go_upto_region 25 with (go_at_call 16; refine hBt.out.mono ?_; rintro e w3 ⟨rfl, hb3⟩; have HA3 := Lib.hid (hA.out.bel hb3); clear hb3)
            clear hc1
            obtain ⟨x1, e1, hx1, hc1⟩ := (I1.out.bel HA3.out.a.bel).cell k hkm
            injection e1 with e1
            subst e1
            rw [HGK.out] at hc1
            clear hx1
            go_wp2_with fail
            go_roundw
            case measure => simp only [intOf]; omega
            case rel => exact ⟨k + 1, _, _, by omega, by go_num, HA3, hO⟩
          · by_cases hki : k < i
            · have hki1 : ¬ (i : Int) ≤ (k : Int) := by omega
              obtain ⟨gb, cb, he, hvb, hgl, hnc, hcm⟩ := own_at hA.out.row (by omega)
              injection he with he1 he2 he3
              subst he1 he3
              have hBt := Lib.hid (beat1 wr q 30 0 _ wv [] O T om tm hA.out.a.st ((k : Int) + 1) 0 gk (lo u k) hg1 hzb.2 (by omega) (lo_at hO.out hki))
              go_upto_region 25 with (go_at_call 16; refine hBt.out.mono ?_; rintro e w3 ⟨rfl, s3, t3⟩; have HA3 := Lib.hid (hA.out.move s3 (NextR.refl _ _) t3); clear s3 t3)
              clear hc1
              obtain ⟨x1, e1, hx1, hc1⟩ := (I1.out.bel HA3.out.a.bel).cell k hkm
              injection e1 with e1
              subst e1
              rw [HGK.out] at hc1
              clear hx1
              have hcu : w3.cell? ⟨gb, k, none⟩ = some (.int .i64 (u k)) := by
                have := HA3.out.row.cellAt k (by rw [Nat.mul_one]; omega)
                rw [this, iv_at u hki]
              have hfu : w3.frozen? ⟨gb, k, none⟩ = false := own_fz HA3.out.row
              have hcu' : w3.drew.cell? ⟨gb, k, none⟩ = some (.int .i64 (u k)) := hcu
              have hfu' : w3.drew.frozen? ⟨gb, k, none⟩ = false := hfu
              go_upto_region 33 with (fail)
              refine wp_tail 12 (by kernel_rfl) (by kernel_rfl) ?_
              simp only [List.take_succ_cons, List.take_zero, List.drop_succ_cons, List.drop_zero]
              repeat still_step
              refine wpStill_nil ?_
              go_wp2_with fail
              have HOm : Hid (beatOt (lo u k) 0 gk = lo (ups u k (max (u k) gk)) k) := Lib.hid (by
                unfold beatOt
                rw [addI_zero (by omega) (by omega)]
                unfold lo ups
                rw [if_pos rfl])
              have HA4 := Lib.hid ((HA3.out.store (i := k) (x := max (u k) gk)).bel (below_drewN' (Below.refl _ _) 1))
              have HO4 := Lib.hid (lo_beat hO.out hki (max (u k) gk))
              rw [HOm.out] at HA4
              go_roundw
              case measure => simp only [intOf]; omega
              case rel => exact ⟨k + 1, _, _, by omega, by go_num, HA4, HO4⟩
            · have hki1 : (i : Int) ≤ (k : Int) := by omega
              have hBt := Lib.hid (beat0 wr q 30 0 _ wv [] O T om tm hA.out.a.st ((k : Int) + 1) 0 gk hg1 (lo_none hO.out (by omega)))
              go_upto_region 25 with (go_at_call 16; refine hBt.out.mono ?_; rintro e w3 ⟨rfl, hb3⟩; have HA3 := Lib.hid (hA.out.bel hb3); clear hb3)
              clear hc1
              obtain ⟨x1, e1, hx1, hc1⟩ := (I1.out.bel HA3.out.a.bel).cell k hkm
              injection e1 with e1
              subst e1
              rw [HGK.out] at hc1
              clear hx1
              go_wp2_with fail
              go_roundw
              case measure => simp only [intOf]; omega
              case rel => exact ⟨k + 1, _, _, by omega, by go_num, HA3, hO⟩
        · obtain rfl : k = m := by omega
          have hkm1 : ¬ (k : Int) < (k : Int) := by omega
          have hE := Lib.hid (expireQ wr q 30 0 _ wv [] O T om tm hA.out.a.st (los u i) hO.out (los_ok u i (by omega)) (by rw [los_len]; omega) now)
          go_wp2_with (go_at_call 17; refine hE.out.mono ?_; rintro e w5 ⟨lv, rfl, r5, b5⟩; obtain ⟨A5, c5, rfl⟩ := own_slice' r5; have HR5 := Lib.hid r5; have HA5 := Lib.hid (hA.out.bel b5); clear r5 b5)
          clear hE
          go_loopw [19, 20] (fun kv jv wq => ∃ (j : Nat), j ≤ i ∧ jv = .int .i64 (j : Int) ∧ kv = .int .i64 ((((los u j).filter (over now)).length : Nat) : Int) ∧ Hid (Below w5.heap.size w5 wq)) (fun _ jv _ => i - (intOf jv).toNat)
          case atStart => exact ⟨0, by omega, rfl, rfl, Lib.hid (Below.refl _ _)⟩
          case round =>
            clear hA
            obtain ⟨j, hj', rfl, rfl, hW⟩ := hrel
            by_cases hji : j < i
            · have hji1 : (j : Int) < (i : Int) := by omega
              have HA6 := Lib.hid (HA5.out.bel hW.out)
              obtain ⟨gb, cb, he, hvb, hgl, hnc, hcm⟩ := own_at HA6.out.row (by omega)
              injection he with he1 he2 he3
              subst he1 he3
              have hcu : wr.cell? ⟨gb, j, none⟩ = some (.int .i64 (u j)) := by
                have := HA6.out.row.cellAt j (by rw [Nat.mul_one]; omega)
                rw [this, iv_at u hji]
              by_cases hov : u j ≤ now
              · have hov1 : ¬ now < u j := by omega
                obtain ⟨hat, hln⟩ := over_split u i j now hji hov
                have HLn := Lib.hid hln
                generalize ((los u j).filter (over now)).length = kk at *
                generalize hF : (los u i).filter (over now) = F at *
                have hkF : kk < F.length := (List.getElem?_eq_some_iff.1 hat).1
                have hFl : F.length ≤ i := by rw [← hF]; exact Nat.le_trans (List.length_filter_le _ _) (by rw [los_len]; omega)
                have HR6 := own_turns HR5.out (.of_below (S := fun _ => False) hW.out) (fun _ _ => id)
                obtain ⟨gl, cl, he, hvb2, hgl2, hnc2, hcm2⟩ := own_at HR6 (by omega)
                injection he with he1 he2 he3
                subst he1 he3
                have hx : ∀ c, c < 3 → wr.cell? ⟨gl, kk * 3 + c, none⟩ = (ouC (lo u j))[c]? := fun c hc => by
                  rw [HR6.cellAt _ (by omega), flat_get ouC 3 ouC_len F kk c hc, hat]
                  rfl
                have d0 : wr.cell? ⟨gl, kk * 3, none⟩ = some (.string (ltr j)) := hx 0 (by omega)
                have d1 : wr.cell? ⟨gl, kk * 3 + 1, none⟩ = some (.int .i64 ((j : Int) + 1)) := hx 1 (by omega)
                have d2 : wr.cell? ⟨gl, kk * 3 + 2, none⟩ = some (.int .i64 1) := hx 2 (by omega)
                have hge : decide ((F.length : Int) ≤ (kk : Int)) = false := decide_eq_false (by omega)
                have hsl := fun wx => name_slice j (by omega) wx
                unfold names52 at hsl
                have hqe := fun wx => outEq (ltr j) ((j : Int) + 1) 1 wx
                have hw1 : IntKind.i64.wrap ((j : Int) + 1) = (j : Int) + 1 := by rw [IntKind.wrap_i64]; omega
                have hw2 : wrap64 ((j : Int) + 1) = (j : Int) + 1 := by unfold wrap64; omega
                clear hx HR6 hat hln hF
                go_upto_region 40 with (fail)
                go_quiet (fail)
                clear hqe hsl d0 d1 d2 hge hw1 hw2
                go_wp2_with fail
                go_roundw
                case measure => simp only [intOf]; omega
                case rel => exact ⟨j + 1, by omega, by go_num, by rw [HLn.out]; go_num, Lib.hid (hW.out.trans (below_drewN' (Below.refl _ _) nq))⟩
              · have hov1 : now < u j := by omega
                have HSk := Lib.hid (over_skip u j now hov)
                go_wp2_with fail
                go_roundw
                case measure => simp only [intOf]; omega
                case rel => exact ⟨j + 1, by omega, by go_num, by rw [HSk.out], hW⟩
            · obtain rfl : j = i := by omega
              have hji1 : ¬ (j : Int) < (j : Int) := by omega
              have HA6 := Lib.hid (HA5.out.bel hW.out)
              have hQ := Lib.hid (outsQ wr q 30 0 _ wv [] O T om tm HA6.out.a.st (los u j) hO.out (los_ok u j (by omega)) (by rw [los_len]; omega))
              rw [los_len] at hQ
              clear HR5 HA5
              go_wp2_with (go_at_call 18; refine hQ.out.mono ?_; rintro e w7 ⟨lv, rfl, r7, b7⟩; obtain ⟨A7, c7, rfl⟩ := own_slice' r7; have HA7 := Lib.hid (HA6.out.bel b7); clear r7 b7)
              go_ret
              exact ⟨rfl, HA7.out.a.bel⟩
end Go.Proofs.Ytpbheicfplpemaa
