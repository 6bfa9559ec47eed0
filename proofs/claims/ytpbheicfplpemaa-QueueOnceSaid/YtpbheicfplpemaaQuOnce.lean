/- QueueOnce: the walk. -/
import Derived.Test.YtpbheicfplpemaaQuOnceM
namespace Go.Proofs.Ytpbheicfplpemaa
open Go.RowKit

set_option maxRecDepth 20000 in
theorem once_long (most grace : Int) (a : Option Addr) (n c : Nat) (S : Nat → Sp) (w : World) (hS : Stps w a n S) (hn : n ≤ 4611686018427387904) (hl : 80 < (n : Int)) : Calls Try.prog 5 #[.int .i64 most, .int .i64 grace, .slice a n c] w fun e w' => e = .returned (.bool true) ∧ Below w.heap.size w w' := by
  have HS := Lib.hid hS
  clear hS
  go_enter Try.func5, Try.ntmps5
  go_wp2_with fail
  refine (awake_any w).mono ?_
  rintro e w1 ⟨rfl, hb⟩
  have HB := Lib.hid hb
  clear hb
  go_wp2_with fail
  refine (long_any w1 a n c S (HS.out.bel HB.out) hn).mono ?_
  rintro e w2 ⟨b, rfl, hbf, rfl⟩
  clear hbf
  cases b
  all_goals
    go_wp2_with fail
    go_ret
    exact ⟨rfl, HB.out⟩
set_option maxRecDepth 20000 in
theorem once_out (most grace : Int) (a : Option Addr) (n c : Nat) (S : Nat → Sp) (w : World) (hS : Stps w a n S) (hl : ¬ 80 < (n : Int)) (hb : most < 1 ∨ ¬ most < 1 ∧ 4096 < most ∨ (¬ most < 1 ∧ ¬ 4096 < most) ∧ grace < 0) : Calls Try.prog 5 #[.int .i64 most, .int .i64 grace, .slice a n c] w fun e w' => e = .returned (.bool true) ∧ Below w.heap.size w w' := by
  have HS := Lib.hid hS
  have HN := Lib.hid (fun w => newB w most grace hb)
  clear hS hb
  go_enter Try.func5, Try.ntmps5
  go_wp2_with fail
  refine (awake_any w).mono ?_
  rintro e w1 ⟨rfl, hb⟩
  have HB := Lib.hid hb
  clear hb
  go_wp2_with fail
  refine (long_any w1 a n c S (HS.out.bel HB.out) (by omega)).mono ?_
  rintro e w2 ⟨b, rfl, hbf, rfl⟩
  clear hbf
  cases b
  · go_wp2_with (go_at_call 9; refine (HN.out _).mono ?_; rintro e w' ⟨rfl, rfl⟩)
    go_ret
    exact ⟨rfl, HB.out⟩
  · go_wp2_with fail
    go_ret
    exact ⟨rfl, HB.out⟩
structure OS (i : Nat) (next : Int) (ts : List Tk) (om : Int → Option Ot) (tm kf : ByteArray → Option Int) (zs : List Ot) : Prop where
  on : ON i ts zs tm kf
  outs : OutsS om zs
  tok : ∀ x ∈ zs, 0 < x.token ∧ x.token < next
  nx : 1 ≤ next ∧ next ≤ (i : Int) + 1
theorem OS.ok {i : Nat} {next : Int} {ts : List Tk} {om : Int → Option Ot} {tm kf : ByteArray → Option Int} {zs : List Ot} (h : OS i next ts om tm kf zs) (hi : i ≤ 80) : ∀ x ∈ zs, OtOk x := fun x hx => by
  have := h.tok x hx
  have := h.nx
  unfold OtOk
  omega
theorem OS.mono {i j : Nat} {next : Int} {ts : List Tk} {om : Int → Option Ot} {tm kf : ByteArray → Option Int} {zs : List Ot} (h : OS i next ts om tm kf zs) (hj : i ≤ j) : OS j next ts om tm kf zs :=
  ⟨h.on.mono hj, h.outs, h.tok, by have := h.nx; omega⟩
set_option maxRecDepth 20000 in
set_option maxHeartbeats 16000000 in
theorem once_in (most grace : Int) (a : Option Addr) (n c : Nat) (S : Nat → Sp) (w : World) (hS : Stps w a n S) (hl : ¬ 80 < (n : Int)) (hm : 1 ≤ most ∧ most ≤ 4096) (hg : 0 ≤ grace ∧ grace ≤ 9223372036854775807) : Calls Try.prog 5 #[.int .i64 most, .int .i64 grace, .slice a n c] w fun e w' => e = .returned (.bool true) ∧ Below w.heap.size w w' := by
  have hmm := @run_makeMap Try.prog
  obtain ⟨t0, hi', hz0, hz1, hz2⟩ := info_parts info_hold
  have HS := Lib.hid hS
  have HN := Lib.hid (fun w => newQ w most grace hm.1 hm.2 hg.1)
  have HMG := Lib.hid (And.intro hm hg)
  clear hS hm hg
  go_enter Try.func5, Try.ntmps5
  go_wp2_with fail
  refine (awake_any w).mono ?_
  rintro e w1 ⟨rfl, hb⟩
  have HB := Lib.hid hb
  clear hb
  go_wp2_with fail
  refine (long_any w1 a n c S (HS.out.bel HB.out) (by omega)).mono ?_
  rintro e w2 ⟨b, rfl, hbf, rfl⟩
  clear hbf
  by_cases hbb : b = true
  · subst hbb
    go_wp2_with fail
    go_ret
    exact ⟨rfl, HB.out⟩
  obtain rfl : b = false := by simpa using hbb
  clear hbb
  go_wp2_with fail
  refine (HN.out w2).mono ?_
  rintro e w3 ⟨q, O, T, rfl, s3, l3, b3⟩
  have hbm := Below.new w3 (.map #[] 0)
  have hM0 := MapIs.empty kStr w3
  rw [show (fun _ => none : ByteArray → Option Value) = sV (fun _ => none) from rfl] at hM0
  have HA := Lib.hid (show OM w (w3.alloc (.map #[] 0)) q most grace 1 (.slice none 0 0) [] O T (fun _ => none) (fun _ => none) w3.heap.size 0 (fun _ => none) (.slice none 0 0) [] from
    ⟨⟨s3.bel hbm, fun i hi => Nat.le_trans HB.out.size (l3 i hi), (HB.out.trans (b3.mono HB.out.size)).trans (hbm.mono (Nat.le_trans HB.out.size b3.size))⟩, hM0, World.ownsRow_nil _ _ _ _, fun g hg => by simp [Value.ownBlock] at hg, fun hq => Nat.lt_irrefl _ (s3.lts _ hq), Nat.le_trans HB.out.size b3.size⟩)
  have HO := Lib.hid (show OS 0 1 [] (fun _ => none) (fun _ => none) (fun _ => none) [] from ⟨ON.start, ⟨List.Pairwise.nil, fun k x => ⟨fun h => (by cases h), fun h => (by cases h.1)⟩⟩, fun _ h => (by cases h), by simp⟩)
  clear s3 l3 b3 hbm hM0
  go_wp2_with fail
  generalize w3.heap.size = K at *
  go_loopw [10, 11, 12, 13, 14, 15, 16, 17, 18, 19, 20, 21, 22, 23, 24, 25, 26, 27, 28, 29] (fun hvv lav iv _ _ _ _ _ _ _ _ _ _ _ _ _ _ _ _ _ wr => ∃ (i : Nat) (next : Int) (wv : Value) (ts : List Tk) (om : Int → Option Ot) (tm kf : ByteArray → Option Int) (nk : Nat) (zs : List Ot), i ≤ n ∧ iv = .int .i64 (i : Int) ∧ lav = .int .i64 (next - 1) ∧ Hid (OM w wr q most grace next wv ts O T om tm K nk kf hvv zs) ∧ Hid (OS i next ts om tm kf zs)) (fun _ _ iv _ _ _ _ _ _ _ _ _ _ _ _ _ _ _ _ _ _ => n - (intOf iv).toNat)
  case atStart => exact ⟨0, 1, _, _, _, _, _, _, _, by omega, rfl, rfl, HA, HO⟩
  case round =>
    clear HA HO
    obtain ⟨i, next, wv, ts, om, tm, kf, nk, zs, hin, rfl, rfl, hA, hO⟩ := hrel
    by_cases hlt : i < n
    · have hlt1 : (i : Int) < (n : Int) := by omega
      obtain ⟨b, o, rfl, hbl, c0, c1, c2, c3, c4, c5⟩ := (HS.out.bel hA.out.a.bel).cell i hlt
      obtain ⟨hat, hle, hnum⟩ := HS.out.wf i hlt
      generalize S i = x at *
      obtain ⟨d, key, who, at_, lease, num⟩ := x
      simp only at c0 c1 c2 c3 c4 c5 hat hle hnum
      have hrow := hA.out.hold
      obtain ⟨AH, cH, rfl⟩ := own_slice' hrow
      have hnx := hO.out.nx
      clear hrow
      have hbx := Below.new wr (.cells #[.int .u8 d, .string key, .string who, .int .i64 at_, .int .i64 lease, .int .i64 num] 50)
      have KX := Lib.hid (Blk.new wr 50 [.int .u8 d, .string key, .string who, .int .i64 at_, .int .i64 lease, .int .i64 num])
      have HX := Lib.hid (hA.out.bel hbx)
      have HLQ : Hid (¬ QSet q wv O T wr.heap.size) := Lib.hid (fun hq => Nat.lt_irrefl _ (hA.out.a.st.lts _ hq))
      clear hbx
      go_upto_region 15 with (fail)
      clear c0 c1 c2 c3 c4 c5 hA
      generalize hxe : wr.alloc (.cells #[.int .u8 d, .string key, .string who, .int .i64 at_, .int .i64 lease, .int .i64 num] 50) = X at *
      clear hxe
      have hbX : wr.heap.size < X.heap.size := KX.out.lt
      generalize wr.heap.size = l at *
      have u0 := KX.out.cell 0
      have u1 := KX.out.cell 1
      have u2 := KX.out.cell 2
      have u3 := KX.out.cell 3
      have u4 := KX.out.cell 4
      have u5 := KX.out.cell 5
      simp only [List.getElem?_cons_succ, List.getElem?_cons_zero] at u0 u1 u2 u3 u4 u5
      have hlq : ¬ QSet q wv O T l := HLQ.out
      by_cases hd0 : d = 0
      · subst hd0
        as_aux_lemma =>
          have hlk := lookS HX.out.keys key true
          by_cases hk : kf key = none
          · rw [hk] at hlk
            simp only [Option.getD_none, Option.isSome_none, if_true] at hlk
            have htm : tm key = none := by
              cases e : tm key with
              | none => rfl
              | some v => exact absurd hk (hO.out.on.there key (by rw [e]; simp))
            by_cases hfull : (ts.length : Int) < most
            · have hP := Lib.hid (putQ X q most grace next wv ts O T om tm HX.out.a.st key who at_ htm hfull (by have := hO.out.on.len; omega))
              go_upto_region 19 with (go_at_call 10; refine hP.out.mono ?_; rintro e X2 ⟨rfl, wv2, s2, n2, t2⟩; have HX2 := Lib.hid (HX.out.move s2 n2 t2); have KX2 := Lib.hid (KX.out.turns t2 hlq); clear s2 n2 t2)
              clear u0 u1 u2 u3 u4 u5 hlk hP
              have u1 := KX2.out.cell 1
              simp only [List.getElem?_cons_succ, List.getElem?_cons_zero] at u1
              have HSS := Lib.hid (show OS (i + 1) next _ om _ _ zs from ⟨hO.out.on.put (who := who) hk hat, hO.out.outs, hO.out.tok, by omega⟩)
              go_upto_region 44 with (at_mapUpdate; refine wpl_update _ rfl _ _ _ 47 rfl (str_keys Try.underlying9) Try.underlying47 HX2.out.keys key (.int .i64 0) rfl rfl rfl ?_; intro w4 hm4 ht4; have HZ := Lib.hid (HX2.out.upd' hm4 ht4); clear hm4 ht4)
              clear u1
              have HSt := Lib.hid (HZ.out.stand HSS.out.outs (HSS.out.ok (by omega)) HSS.out.on (by omega))
              go_wp2_with (go_at_call 22; refine HSt.out.mono ?_; rintro e wE ⟨rfl, hbE⟩; have HE := Lib.hid (HZ.out.bel hbE); clear hbE)
              go_roundw
              case measure => simp only [intOf]; omega
              case rel => exact ⟨i + 1, next, _, _, _, _, _, _, _, by omega, by go_num, rfl, HE, HSS⟩
            · have hP := Lib.hid (putF X q most grace next wv ts O T om tm HX.out.a.st key who at_ htm hfull)
              go_upto_region 44 with (go_at_call 10; refine hP.out.mono ?_; rintro e X2 ⟨rfl, hb2⟩; have HZ := Lib.hid (HX.out.bel hb2); clear hb2)
              clear u0 u1 u2 u3 u4 u5 hlk hP
              have HSS := Lib.hid (hO.out.mono (Nat.le_succ i))
              have HSt := Lib.hid (HZ.out.stand HSS.out.outs (HSS.out.ok (by omega)) HSS.out.on (by omega))
              go_wp2_with (go_at_call 22; refine HSt.out.mono ?_; rintro e wE ⟨rfl, hbE⟩; have HE := Lib.hid (HZ.out.bel hbE); clear hbE)
              go_roundw
              case measure => simp only [intOf]; omega
              case rel => exact ⟨i + 1, next, _, _, _, _, _, _, _, by omega, by go_num, rfl, HE, HSS⟩
          · obtain ⟨kv, hkv⟩ : ∃ kv, kf key = some kv := by
              cases e : kf key with
              | none => exact absurd e hk
              | some v => exact ⟨v, rfl⟩
            rw [hkv] at hlk
            simp only [Option.getD_some, Option.isSome_some, if_true] at hlk
            go_upto_region 44 with (fail)
            clear u0 u1 u2 u3 u4 u5 hlk
            have HZ := HX
            have HSS := Lib.hid (hO.out.mono (Nat.le_succ i))
            have HSt := Lib.hid (HZ.out.stand HSS.out.outs (HSS.out.ok (by omega)) HSS.out.on (by omega))
            go_wp2_with (go_at_call 22; refine HSt.out.mono ?_; rintro e wE ⟨rfl, hbE⟩; have HE := Lib.hid (HZ.out.bel hbE); clear hbE)
            go_roundw
            case measure => simp only [intOf]; omega
            case rel => exact ⟨i + 1, next, _, _, _, _, _, _, _, by omega, by go_num, rfl, HE, HSS⟩
      · have hq0 : (d == 0) = false := beq_eq_false_iff_ne.2 hd0
        by_cases hd1 : d = 1
        · subst hd1
          as_aux_lemma =>
            by_cases hl1 : lease < 1
            · have hP := Lib.hid (pollA X q most grace next wv ts O T om tm HX.out.a.st who at_ lease hl1)
              go_wp2_with fail
              refine hP.out.mono ?_
              rintro e X2 ⟨rfl, hb2⟩
              have HE := Lib.hid (HX.out.bel hb2)
              clear hb2 u0 u1 u2 u3 u4 u5 hP
              go_wp2_with fail
              go_roundw
              case measure => simp only [intOf]; omega
              case rel => exact ⟨i + 1, _, _, _, _, _, _, _, _, by omega, by go_num, rfl, HE, Lib.hid (hO.out.mono (Nat.le_succ i))⟩
            · have hP := Lib.hid (pollQ X q most grace next wv ts O T om tm HX.out.a.st who at_ lease (by omega) ⟨by omega, hle.2⟩ hat (by have := HMG.out.2; omega) hO.out.on.rdy (fun t ht => by have := hO.out.on.att t ht; omega))
              go_wp2_with fail
              refine hP.out.mono ?_
              rintro e X2 (⟨rfl, hnone, hb2⟩ | ⟨j, wv2, hj, hf1, hf2, he, s2, n2, t2⟩)
              · have HE := Lib.hid (HX.out.bel hb2)
                clear hb2 u0 u1 u2 u3 u4 u5 hP hnone
                go_wp2_with fail
                go_roundw
                case measure => simp only [intOf]; omega
                case rel => exact ⟨i + 1, _, _, _, _, _, _, _, _, by omega, by go_num, rfl, HE, Lib.hid (hO.out.mono (Nat.le_succ i))⟩
              · rw [gT_get hj] at he s2
                obtain rfl := he
                have HX2 := Lib.hid (HX.out.move s2 n2 t2)
                have hkt := hO.out.on.wt _ (List.getElem_mem hj)
                have hta := hO.out.on.att _ (List.getElem_mem hj)
                have HSS := Lib.hid (show OS (i + 1) (next + 1) _ _ _ _ (zs ++ [⟨{ ts[j] with att := (ts[j]).att + 1 }, next, who, addI at_ lease⟩]) from ⟨hO.out.on.poll hj next who (addI at_ lease), hO.out.outs.add _ next rfl (fun y hy => (hO.out.tok y hy).2), fun y hy => by
                  rcases List.mem_append.1 hy with hy | hy
                  · have := hO.out.tok y hy; omega
                  · simp at hy; subst hy; simp only; omega, by omega⟩)
                have hlk := lookS HX2.out.keys (ts[j]).key true
                rw [hkt] at hlk
                simp only [Option.getD_some, Option.isSome_some, if_true] at hlk
                clear s2 n2 t2 hP hf1 hf2 u0 u1 u2 u3 u4 u5 hkt
                generalize ts[j] = t at *
                have hqq : decide (next ≤ next - 1) = false := decide_eq_false (by omega)
                have hqq2 : ¬ next ≤ next - 1 := by omega
                have hzl : zs.length ≤ 80 := by have := hO.out.on.len; omega
                go_upto_region 28 with (at_mapUpdate; refine wpl_update _ rfl _ _ _ 47 rfl (str_keys Try.underlying9) Try.underlying47 HX2.out.keys t.key (.int .i64 (t.att + 1)) rfl rfl rfl ?_; intro w4 hm4 ht4; have HX4 := Lib.hid (HX2.out.upd' hm4 ht4); clear hm4 ht4)
                clear hlk hqq hqq2
                have hbz := Below.new w4 (.cells #[.int .i64 next, .string t.key] 53)
                have HX5 := Lib.hid (HX4.out.bel hbz)
                have HR5 := Lib.hid HX5.out.hold
                have HNw := Lib.hid (Blk.news (Blk.new w4 53 [.int .i64 next, .string t.key]))
                have HM1 : Hid (zs.length + 1 ≤ maxLen) := Lib.hid (by unfold maxLen; omega)
                have HM2 : Hid ((zs.length + 1) * 24 ≤ 140737488355328) := Lib.hid (by omega)
                clear hbz
                go_upto_region 44 with (at_builtin; refine wpList_append_own_at _ rfl _ _ 48 rfl w.heap.size 53 t0 _ 2 24 Try.underlying48 hi' hz0 hz1 hz2 rfl (by decide) _ _ _ rfl HR5.out ⟨w4.heap.size, 0, none⟩ 1 1 [.int .i64 next, .string t.key] rfl rfl HNw.out (by intro u hu; simp at hu; rcases hu with rfl | rfl <;> rfl) HM1.out HM2.out HX5.out.a.bel.size ?_; intro v1 y1 hown hgr _ hatt; have HAT := Lib.hid hatt; have HOW := Lib.hid hown; have HGR := Lib.hid hgr; clear hown hgr hatt)
                have HZ := Lib.hid (HX5.out.held (zs' := zs ++ [⟨{ t with att := t.att + 1 }, next, who, addI at_ lease⟩]) (.of_grown HGR.out (fun r e => e)) (by rw [List.length_append, List.map_append, List.flatMap_append]; simpa [hdo, hdC] using HOW.out) (fun g' hg' => by
                  rcases HAT.out with e | e <;> rw [e] at hg'
                  · exact .inl hg'
                  · injection hg' with hg'; exact .inr (by omega)))
                have HSt := Lib.hid (HZ.out.stand HSS.out.outs (HSS.out.ok (by omega)) HSS.out.on (by omega))
                clear HAT HOW HGR HX5 HR5
                go_wp2_with (go_at_call 22; refine HSt.out.mono ?_; rintro e wE ⟨rfl, hbE⟩; have HE := Lib.hid (HZ.out.bel hbE); clear hbE)
                go_roundw
                case measure => simp only [intOf]; omega
                case rel => exact ⟨i + 1, _, _, _, _, _, _, _, _, by omega, by go_num, by rw [Int.add_sub_cancel], HE, HSS⟩
        · have hq1 : (d == 1) = false := beq_eq_false_iff_ne.2 hd1
          by_cases hd3 : d = 3
          · subst hd3
            as_aux_lemma =>
              have hzl : zs.length ≤ 80 := by have := hO.out.on.len; omega
              by_cases hx : om num = none
              · have hP := Lib.hid (doneE X (.pointer (some ⟨q, 0, none⟩)) num 5 (by decide) (find0 X q most grace next wv ts O T om tm HX.out.a.st num hx))
                have hHd := Lib.hid (fun (Y : World) (hY : Y.ownsRow w.heap.size 53 2 (.slice AH zs.length cH) zs.length ((zs.map hdo).flatMap hdC)) => held0 Y w.heap.size zs.length _ (zs.map hdo) hY (by simp) (by omega) num (fun y hy => by
                  obtain ⟨z, hz, rfl⟩ := List.mem_map.1 hy
                  exact hO.out.outs.none hx z hz))
                go_upto_region 31 with (go_at_call 14; refine hP.out.mono ?_; rintro e X2 ⟨rfl, hb2⟩; have HX2 := Lib.hid (HX.out.bel hb2); have KX2 := Lib.hid (KX.out.bel hb2); clear hb2)
                clear u0 u1 u2 u3 u4 u5 hP
                have u5 := KX2.out.cell 5
                simp only [List.getElem?_cons_succ, List.getElem?_cons_zero] at u5
                have hHe := Lib.hid (hHd.out X2 HX2.out.hold)
                go_upto_region 44 with (go_at_call 20; refine hHe.out.mono ?_; rintro e X3 ⟨rfl, rfl⟩)
                clear u5 hHe hHd
                have HZ := HX2
                have HSS := Lib.hid (hO.out.mono (Nat.le_succ i))
                have HSt := Lib.hid (HZ.out.stand HSS.out.outs (HSS.out.ok (by omega)) HSS.out.on (by omega))
                go_wp2_with (go_at_call 22; refine HSt.out.mono ?_; rintro e wE ⟨rfl, hbE⟩; have HE := Lib.hid (HZ.out.bel hbE); clear hbE)
                go_roundw
                case measure => simp only [intOf]; omega
                case rel => exact ⟨i + 1, _, _, _, _, _, _, _, _, by omega, by go_num, rfl, HE, HSS⟩
              · obtain ⟨x, hx⟩ : ∃ x, om num = some x := by
                  cases e : om num with
                  | none => exact absurd e hx
                  | some x => exact ⟨x, rfl⟩
                obtain ⟨j, hjz, rfl, rfl⟩ := hO.out.outs.place hx
                have hox := hO.out.on.out _ (List.getElem_mem hjz)
                have hatx := hO.out.on.att2 _ (List.getElem_mem hjz)
                have hP := Lib.hid (done1 X q most grace next wv ts O T om tm HX.out.a.st (zs[j]).token (zs[j]) hx)
                have HSS := Lib.hid (show OS (i + 1) next ts _ _ _ (zs.eraseIdx j) from ⟨hO.out.on.done hjz, hO.out.outs.del hjz, fun y hy => hO.out.tok y ((List.eraseIdx_sublist _ _).subset hy), by omega⟩)
                have hHd := Lib.hid (fun (Y : World) (hY : Y.ownsRow w.heap.size 53 2 (.slice AH zs.length cH) zs.length ((zs.map hdo).flatMap hdC)) => held1 Y w.heap.size zs.length _ (zs.map hdo) hY (by simp) (by omega) (zs[j]).token j (by simpa using hjz) (by simp [hdo]) (fun k hk => by
                  simp only [List.getElem_map, hdo]
                  have := List.pairwise_iff_getElem.1 hO.out.outs.ris k j (by omega) hjz hk
                  omega))
                have hFr := Lib.hid (fun (Y : World) (hY : Y.ownsRow w.heap.size 53 2 (.slice AH zs.length cH) zs.length ((zs.map hdo).flatMap hdC)) => freed_any Y w.heap.size zs.length _ (zs.map hdo) hY (by simp) (by omega) j hjz)
                have HDA := Lib.hid (fun (Y : World) (hY : Y.ownsRow w.heap.size 53 2 (.slice AH zs.length cH) zs.length ((zs.map hdo).flatMap hdC)) (gh ch : Nat) (e : (Value.slice AH zs.length cH) = .slice (some ⟨gh, 0, none⟩) zs.length ch) => by
                  rw [e] at hY
                  have := (hd_cells hY (by simp) j (by simpa using hjz)).2
                  simpa [hdo] using this)
                clear hx
                generalize hyj : zs[j] = y at *
                clear hyj
                go_upto_region 31 with (go_at_call 14; refine hP.out.mono ?_; rintro e X2 ⟨rfl, s2, t2⟩; have HX2 := Lib.hid (HX.out.move s2 (NextR.refl _ _) t2); have KX2 := Lib.hid (KX.out.turns t2 hlq); clear s2 t2)
                clear u0 u1 u2 u3 u4 u5 hP
                have u5 := KX2.out.cell 5
                simp only [List.getElem?_cons_succ, List.getElem?_cons_zero] at u5
                have hHe := Lib.hid (hHd.out X2 HX2.out.hold)
                go_upto_region 32 with (go_at_call 20; refine hHe.out.mono ?_; rintro e X3 ⟨rfl, rfl⟩)
                clear u5 hHe hHd
                obtain ⟨gh, ch, he, hvb2, hgh, hnc2, hcm2⟩ := own_at HX2.out.hold (by omega)
                have f1 := HDA.out _ HX2.out.hold gh ch he
                injection he with he1 he2 he3
                subst he1 he3
                have hlk := lookS HX2.out.keys y.tk.key false
                rw [hox] at hlk
                simp only [Option.getD_some, Bool.false_eq_true, if_false] at hlk
                have hjj : (0 : Int) ≤ (j : Int) := by omega
                have hFe := Lib.hid (hFr.out X3 HX2.out.hold)
                go_upto_region 36 with (go_at_call 21; refine hFe.out.mono ?_; rintro e X4 ⟨v4, rfl, r4, b4⟩; obtain ⟨A4, k4, rfl⟩ := own_slice' r4; have R4 := Lib.hid r4; have B4 := Lib.hid b4; clear r4 b4)
                have HX4 := Lib.hid (HX2.out.held (zs' := zs.eraseIdx j) (.of_below B4.out) (by
                  have := ownsRow_base' R4.out HX2.out.a.bel.size
                  rw [List.length_eraseIdx, if_pos hjz, erase_map]
                  exact this) (fun g' hg' => .inr (own_lt R4.out hg').1))
                clear hlk f1 hFe hFr
                have hlk := lookS HX4.out.keys y.tk.key false
                rw [hox] at hlk
                simp only [Option.getD_some, Bool.false_eq_true, if_false] at hlk
                go_upto_region 44 with (at_mapUpdate; refine wpl_update _ rfl _ _ _ 47 rfl (str_keys Try.underlying9) Try.underlying47 HX4.out.keys y.tk.key (.int .i64 (y.tk.att + 1000)) rfl rfl rfl ?_; intro w5 hm5 ht5; have HZ := Lib.hid (HX4.out.upd' hm5 ht5); clear hm5 ht5)
                clear hlk
                have HSt := Lib.hid (HZ.out.stand HSS.out.outs (HSS.out.ok (by omega)) HSS.out.on (by omega))
                go_wp2_with (go_at_call 22; refine HSt.out.mono ?_; rintro e wE ⟨rfl, hbE⟩; have HE := Lib.hid (HZ.out.bel hbE); clear hbE)
                go_roundw
                case measure => simp only [intOf]; omega
                case rel => exact ⟨i + 1, _, _, _, _, _, _, _, _, by omega, by go_num, rfl, HE, HSS⟩
          · have hq3 : (d == 3) = false := beq_eq_false_iff_ne.2 hd3
            by_cases hd4 : d = 4
            · subst hd4
              as_aux_lemma =>
                have hzl : zs.length ≤ 80 := by have := hO.out.on.len; omega
                by_cases hx : om num = none
                · have hP := Lib.hid (backE X (.pointer (some ⟨q, 0, none⟩)) num at_ 5 (by decide) (find0 X q most grace next wv ts O T om tm HX.out.a.st num hx))
                  have hHd := Lib.hid (fun (Y : World) (hY : Y.ownsRow w.heap.size 53 2 (.slice AH zs.length cH) zs.length ((zs.map hdo).flatMap hdC)) => held0 Y w.heap.size zs.length _ (zs.map hdo) hY (by simp) (by omega) num (fun y hy => by
                    obtain ⟨z, hz, rfl⟩ := List.mem_map.1 hy
                    exact hO.out.outs.none hx z hz))
                  go_upto_region 39 with (go_at_call 13; refine hP.out.mono ?_; rintro e X2 ⟨rfl, hb2⟩; have HX2 := Lib.hid (HX.out.bel hb2); have KX2 := Lib.hid (KX.out.bel hb2); clear hb2)
                  clear u0 u1 u2 u3 u4 u5 hP
                  have u5 := KX2.out.cell 5
                  simp only [List.getElem?_cons_succ, List.getElem?_cons_zero] at u5
                  have hHe := Lib.hid (hHd.out X2 HX2.out.hold)
                  go_upto_region 44 with (go_at_call 20; refine hHe.out.mono ?_; rintro e X3 ⟨rfl, rfl⟩)
                  clear u5 hHe hHd
                  have HZ := HX2
                  have HSS := Lib.hid (hO.out.mono (Nat.le_succ i))
                  have HSt := Lib.hid (HZ.out.stand HSS.out.outs (HSS.out.ok (by omega)) HSS.out.on (by omega))
                  go_wp2_with (go_at_call 22; refine HSt.out.mono ?_; rintro e wE ⟨rfl, hbE⟩; have HE := Lib.hid (HZ.out.bel hbE); clear hbE)
                  go_roundw
                  case measure => simp only [intOf]; omega
                  case rel => exact ⟨i + 1, _, _, _, _, _, _, _, _, by omega, by go_num, rfl, HE, HSS⟩
                · obtain ⟨x, hx⟩ : ∃ x, om num = some x := by
                    cases e : om num with
                    | none => exact absurd e hx
                    | some x => exact ⟨x, rfl⟩
                  obtain ⟨j, hjz, rfl, rfl⟩ := hO.out.outs.place hx
                  have hox := hO.out.on.out _ (List.getElem_mem hjz)
                  have hatx := hO.out.on.att2 _ (List.getElem_mem hjz)
                  have hP := Lib.hid (back1 X q most grace next wv ts O T om tm HX.out.a.st (zs[j]).token at_ (zs[j]) hx (by have := hO.out.on.len; omega))
                  have HSS := Lib.hid (show OS (i + 1) next _ _ _ _ (zs.eraseIdx j) from ⟨hO.out.on.back hjz hat, hO.out.outs.del hjz, fun y hy => hO.out.tok y ((List.eraseIdx_sublist _ _).subset hy), by omega⟩)
                  have hHd := Lib.hid (fun (Y : World) (hY : Y.ownsRow w.heap.size 53 2 (.slice AH zs.length cH) zs.length ((zs.map hdo).flatMap hdC)) => held1 Y w.heap.size zs.length _ (zs.map hdo) hY (by simp) (by omega) (zs[j]).token j (by simpa using hjz) (by simp [hdo]) (fun k hk => by
                    simp only [List.getElem_map, hdo]
                    have := List.pairwise_iff_getElem.1 hO.out.outs.ris k j (by omega) hjz hk
                    omega))
                  have hFr := Lib.hid (fun (Y : World) (hY : Y.ownsRow w.heap.size 53 2 (.slice AH zs.length cH) zs.length ((zs.map hdo).flatMap hdC)) => freed_any Y w.heap.size zs.length _ (zs.map hdo) hY (by simp) (by omega) j hjz)
                  have HDA := Lib.hid (fun (Y : World) (hY : Y.ownsRow w.heap.size 53 2 (.slice AH zs.length cH) zs.length ((zs.map hdo).flatMap hdC)) (gh ch : Nat) (e : (Value.slice AH zs.length cH) = .slice (some ⟨gh, 0, none⟩) zs.length ch) => by
                    rw [e] at hY
                    have := (hd_cells hY (by simp) j (by simpa using hjz)).2
                    simpa [hdo] using this)
                  clear hx
                  generalize hyj : zs[j] = y at *
                  clear hyj
                  go_upto_region 39 with (go_at_call 13; refine hP.out.mono ?_; rintro e X2 ⟨rfl, wv2, s2, n2, t2⟩; have HX2 := Lib.hid (HX.out.move s2 n2 t2); have KX2 := Lib.hid (KX.out.turns t2 hlq); clear s2 n2 t2)
                  clear u0 u1 u2 u3 u4 u5 hP
                  have u5 := KX2.out.cell 5
                  simp only [List.getElem?_cons_succ, List.getElem?_cons_zero] at u5
                  have hHe := Lib.hid (hHd.out X2 HX2.out.hold)
                  go_upto_region 40 with (go_at_call 20; refine hHe.out.mono ?_; rintro e X3 ⟨rfl, rfl⟩)
                  clear u5 hHe hHd
                  obtain ⟨gh, ch, he, hvb2, hgh, hnc2, hcm2⟩ := own_at HX2.out.hold (by omega)
                  have f1 := HDA.out _ HX2.out.hold gh ch he
                  injection he with he1 he2 he3
                  subst he1 he3
                  have hlk := lookS HX2.out.keys y.tk.key false
                  rw [hox] at hlk
                  simp only [Option.getD_some, Bool.false_eq_true, if_false] at hlk
                  have hjj : (0 : Int) ≤ (j : Int) := by omega
                  have hFe := Lib.hid (hFr.out X3 HX2.out.hold)
                  go_upto_region 44 with (go_at_call 21; refine hFe.out.mono ?_; rintro e X4 ⟨v4, rfl, r4, b4⟩; obtain ⟨A4, k4, rfl⟩ := own_slice' r4; have R4 := Lib.hid r4; have B4 := Lib.hid b4; clear r4 b4)
                  have HX4 := Lib.hid (HX2.out.held (zs' := zs.eraseIdx j) (.of_below B4.out) (by
                    have := ownsRow_base' R4.out HX2.out.a.bel.size
                    rw [List.length_eraseIdx, if_pos hjz, erase_map]
                    exact this) (fun g' hg' => .inr (own_lt R4.out hg').1))
                  clear hlk f1 hFe hFr
                  have HZ := HX4
                  have HSt := Lib.hid (HZ.out.stand HSS.out.outs (HSS.out.ok (by omega)) HSS.out.on (by omega))
                  go_wp2_with (go_at_call 22; refine HSt.out.mono ?_; rintro e wE ⟨rfl, hbE⟩; have HE := Lib.hid (HZ.out.bel hbE); clear hbE)
                  go_roundw
                  case measure => simp only [intOf]; omega
                  case rel => exact ⟨i + 1, _, _, _, _, _, _, _, _, by omega, by go_num, rfl, HE, HSS⟩
            · have hq4 : (d == 4) = false := beq_eq_false_iff_ne.2 hd4
              have HZ := HX
              go_upto_region 44 with (fail)
              clear u0 u1 u2 u3 u4 u5
              have HSS := Lib.hid (hO.out.mono (Nat.le_succ i))
              have HSt := Lib.hid (HZ.out.stand HSS.out.outs (HSS.out.ok (by omega)) HSS.out.on (by omega))
              go_wp2_with (go_at_call 22; refine HSt.out.mono ?_; rintro e wE ⟨rfl, hbE⟩; have HE := Lib.hid (HZ.out.bel hbE); clear hbE)
              go_roundw
              case measure => simp only [intOf]; omega
              case rel => exact ⟨i + 1, _, _, _, _, _, _, _, _, by omega, by go_num, rfl, HE, HSS⟩
    · obtain rfl : i = n := by omega
      have hlt1 : ¬ (i : Int) < (i : Int) := by omega
      go_wp2_with fail
      go_ret
      exact ⟨rfl, hA.out.a.bel⟩
end Go.Proofs.Ytpbheicfplpemaa
