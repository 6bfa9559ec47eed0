/- HeapTakes: those that are removed, or get another key, leave all others in their order. -/
import Derived.Test.YtoihhckiacmfcaaHpTakesPlain
import Derived.Test.YtoihhckiacmfcaaHpAwake
import Derived.Deep.OwnRows
import Derived.Deep.LoopGhost
namespace Go.Proofs.Ytoihhckiacmfcaa
open Go.RowKit

set_option maxRecDepth 20000 in
theorem takes_long0 (a0 a1 a2 : Option Addr) (n c0 m c1 l c2 : Nat) (w : World) (hl : 100 < (n : Int)) : Calls Try.prog 3 #[.slice a0 n c0, .slice a1 m c1, .slice a2 l c2] w fun e w' => e = .returned (.bool true) ∧ Below w.heap.size w w' := by
  go_enter Try.func3, Try.ntmps3
  go_wp2_with fail
  refine (awake_any w).mono ?_
  rintro e w1 ⟨rfl, hb⟩
  have HB := Lib.hid hb
  clear hb
  go_wp2_with fail
  go_ret
  exact ⟨rfl, HB.out⟩
set_option maxRecDepth 20000 in
theorem takes_long1 (a0 a1 a2 : Option Addr) (n c0 m c1 l c2 : Nat) (w : World) (h0 : ¬ 100 < (n : Int)) (hl : 100 < (m : Int)) : Calls Try.prog 3 #[.slice a0 n c0, .slice a1 m c1, .slice a2 l c2] w fun e w' => e = .returned (.bool true) ∧ Below w.heap.size w w' := by
  go_enter Try.func3, Try.ntmps3
  go_wp2_with fail
  refine (awake_any w).mono ?_
  rintro e w1 ⟨rfl, hb⟩
  have HB := Lib.hid hb
  clear hb
  go_wp2_with fail
  go_ret
  exact ⟨rfl, HB.out⟩

theorem made_bl (n : Nat) : madeCells #[Value.bool false] n = (bl (fun _ => false) n).toArray := by
  apply Array.toList_inj.1
  rw [toList_madeCells_one]
  rw [show (bl (fun _ => false) n).toArray.toList = bl (fun _ => false) n from rfl]
  unfold bl
  rw [List.map_const', List.length_range]
theorem info_bool : (Try.prog.info? 4).map (fun i => (i.zero, i.size, i.bytes)) = some (some (.bool false), 1, 1) := by kernel_rfl
theorem TM.make {w w1 w2 : World} {p : Nat} {v : Value} {M : Nat} {xs : List Th} {n : Nat} (hb : Below w.heap.size w w1) (hs : HStI w2 p v M xs n) (hl : ∀ i, HS p v M i → w1.heap.size ≤ i) (hb2 : Below w1.heap.size w1 w2) :
    TM w (w2.alloc (.cells (madeCells #[.bool false] n) 4)) p v M xs n w2.heap.size (fun _ => false) :=
  ⟨hs.bel (Below.new _ _), by rw [made_bl]; exact Blk.new _ _ _, fun i hi => ⟨Nat.le_trans hb.size (hl i hi), fun e => by have := hs.lts i hi; omega⟩, Nat.le_trans hb.size hb2.size,
    (hb.trans (hb2.mono hb.size)).alloc (Nat.le_trans hb.size hb2.size) _⟩

set_option maxRecDepth 20000 in
set_option maxHeartbeats 8000000 in
theorem takes_short (a0 a1 a2 : Option Addr) (n c0 m c1 l c2 : Nat) (z g c : Nat → Int) (w : World) (i0 : Ints w a0 n z) (i1 : Ints w a1 m g) (i2 : Ints w a2 l c) (h0 : ¬ 100 < (n : Int)) (h1 : ¬ 100 < (m : Int)) :
    Calls Try.prog 3 #[.slice a0 n c0, .slice a1 m c1, .slice a2 l c2] w fun e w' => e = .returned (.bool true) ∧ Below w.heap.size w w' := by
  have I0 := Lib.hid i0
  have I1 := Lib.hid i1
  have I2 := Lib.hid i2
  clear i0 i1 i2
  go_enter Try.func3, Try.ntmps3
  go_wp2_with fail
  refine (awake_any w).mono ?_
  rintro e w1 ⟨rfl, hb⟩
  have HB := Lib.hid hb
  clear hb
  go_wp2_with fail
  refine (filled_any w1 a0 n c0 z (I0.out.bel HB.out) (by omega)).mono ?_
  rintro e w2 ⟨p, rfl, v, M, xs, hs, hp, hl, hb⟩
  have HS := Lib.hid hs
  have HP := Lib.hid hp
  have HL := Lib.hid hl
  have HB2 := Lib.hid hb
  clear hs hp hl hb
  have hmk := run_make_row' (P := Try.prog) 27 4 (.bool false) 1 Try.underlying27 info_bool rfl .i64 .i64 n (by omega) (by omega)
  go_wp2_with fail
  have HT := Lib.hid (TM.make HB.out HS.out HL.out HB2.out)
  have H1 := Lib.hid (T1.start (g := g) (m := m) (l := l) HP.out)
  have htb : w.heap.size ≤ w2.heap.size := Nat.le_trans HB.out.size HB2.out.size
  generalize w2.alloc (.cells (madeCells #[.bool false] n) 4) = W at *
  generalize w2.heap.size = tb at *
  clear hmk HS HP HL HB2
  go_loopw [9, 10, 11, 12, 13, 14] (fun tkv iv _ _ _ _ wr => ∃ (k tk : Nat) (v : Value) (xs : List Th) (ts : Nat → Bool), k ≤ m ∧ iv = .int .i64 (k : Int) ∧ tkv = .int .i64 (tk : Int) ∧ Hid (TM w wr p v M xs n tb ts) ∧ Hid (T1 z g n m l xs ts tk)) (fun _ iv _ _ _ _ _ => m - (intOf iv).toNat)
  case atStart => exact ⟨0, 0, v, xs, _, by omega, rfl, rfl, HT, H1⟩
  case round =>
    clear HT H1
    obtain ⟨k, tk, v, xs, ts, hk, rfl, rfl, hT, h1⟩ := hrel
    by_cases hlt : k < m
    · have hlt1 : (k : Int) < (m : Int) := by omega
      obtain ⟨x1, rfl, hx1, hc1⟩ := (I1.out.bel hT.out.bel).cell k hlt
      clear hx1
      generalize hgk : g k = gk at *
      have HG := Lib.hid hgk
      clear hgk
      by_cases hr : 0 ≤ gk ∧ gk < (n : Int)
      · obtain ⟨j, rfl⟩ : ∃ j : Nat, gk = (j : Int) := ⟨gk.toNat, by omega⟩
        have hjn : j < n := by omega
        have hj1 : (j : Int) < (n : Int) := by omega
        have hb := hT.out.row.cell j
        rw [bl_at ts hjn] at hb
        clear hr
        cases hts : ts j with
        | false =>
          rw [hts] at hb
          have HTS := Lib.hid hts
          clear hts
          obtain ⟨t, ht, htn⟩ := (h1.out.on j hjn).1 HTS.out
          obtain ⟨q, hq, rfl⟩ := List.mem_iff_getElem.1 ht
          rw [← gT_of hq] at htn
          have HQ := Lib.hid htn
          clear ht htn
          by_cases hkl : k < l
          · have hkl1 : (k : Int) < (l : Int) := by omega
            obtain ⟨x2, rfl, hx2, hc2⟩ := (I2.out.bel hT.out.bel).cell k hkl
            clear hx2
            go_wp2_with fail
            refine (change1I wr p v M xs n hT.out.st (j : Int) (c k) q hq (by rw [HQ.out])).mono ?_
            rintro e w3 ⟨rfl, zs, p3, s3, t3⟩
            have HT3 := Lib.hid (hT.out.move s3 rfl t3)
            have H13 := Lib.hid (h1.out.change hq p3 hlt hkl (by rw [HG.out, HQ.out]))
            clear p3 s3 t3
            go_wp2_with fail
            go_roundw
            case measure => simp only [intOf]; omega
            case rel => exact ⟨k + 1, tk, v, zs, ts, by omega, by go_num, rfl, HT3, H13⟩
          · have hkl1 : ¬ (k : Int) < (l : Int) := by omega
            have HV : Hid ((gT xs q).v 0 = .int .i64 (j : Int)) := Lib.hid (by rw [h1.out.v _ (mem_gT hq), HQ.out])
            have hcn := h1.out.cnt
            go_wp2_with fail
            refine (remove1I wr p v M xs n hT.out.st (j : Int) q hq (by rw [HQ.out])).mono ?_
            rintro e w3 ⟨he, zs, v3, p3, s3, o3, t3⟩
            rw [HV.out] at he
            obtain rfl := he
            have HT3 := Lib.hid (hT.out.move s3 o3 t3)
            have H13 := Lib.hid (h1.out.remove hT.out.st.apart p3)
            have hb3 := HT3.out.row.cell j
            have hf3 := HT3.out.row.fz j
            rw [bl_at ts hjn] at hb3
            rw [HQ.out] at H13
            clear p3 s3 o3 t3 HV
            go_wp2_with fail
            go_roundw
            case measure => simp only [intOf]; omega
            case rel => exact ⟨k + 1, tk + 1, v3, zs, ups ts j, by omega, by go_num, by go_num, Lib.hid (HT3.out.mark j), H13⟩
        | true =>
          rw [hts] at hb
          clear hts
          by_cases hkl : k < l
          · have hkl1 : (k : Int) < (l : Int) := by omega
            go_wp2_with fail
            go_roundw
            case measure => simp only [intOf]; omega
            case rel => exact ⟨k + 1, tk, v, xs, ts, by omega, by go_num, rfl, hT, h1⟩
          · have hkl1 : ¬ (k : Int) < (l : Int) := by omega
            go_wp2_with fail
            go_roundw
            case measure => simp only [intOf]; omega
            case rel => exact ⟨k + 1, tk, v, xs, ts, by omega, by go_num, rfl, hT, h1⟩
      · have HK : Hid (∀ t ∈ xs, (t.num : Int) ≠ gk) := Lib.hid fun t ht e => hr (by have := hT.out.st.lt t ht; omega)
        by_cases hz0 : 0 ≤ gk
        · have hz1 : ¬ gk < (n : Int) := fun h => hr ⟨hz0, h⟩
          clear hr
          by_cases hkl : k < l
          · have hkl1 : (k : Int) < (l : Int) := by omega
            go_wp2_with fail
            go_roundw
            case measure => simp only [intOf]; omega
            case rel => exact ⟨k + 1, tk, v, xs, ts, by omega, by go_num, rfl, hT, h1⟩
          · have hkl1 : ¬ (k : Int) < (l : Int) := by omega
            go_wp2_with fail
            refine (remove0I wr p v M xs n hT.out.st gk HK.out).mono ?_
            rintro e w3 ⟨rfl, rfl⟩
            go_wp2_with fail
            go_roundw
            case measure => simp only [intOf]; omega
            case rel => exact ⟨k + 1, tk, v, xs, ts, by omega, by go_num, rfl, hT, h1⟩
        · clear hr
          by_cases hkl : k < l
          · have hkl1 : (k : Int) < (l : Int) := by omega
            go_wp2_with fail
            go_roundw
            case measure => simp only [intOf]; omega
            case rel => exact ⟨k + 1, tk, v, xs, ts, by omega, by go_num, rfl, hT, h1⟩
          · have hkl1 : ¬ (k : Int) < (l : Int) := by omega
            go_wp2_with fail
            refine (remove0I wr p v M xs n hT.out.st gk HK.out).mono ?_
            rintro e w3 ⟨rfl, rfl⟩
            go_wp2_with fail
            go_roundw
            case measure => simp only [intOf]; omega
            case rel => exact ⟨k + 1, tk, v, xs, ts, by omega, by go_num, rfl, hT, h1⟩
    · obtain rfl : k = m := by omega
      have hlt1 : ¬ (k : Int) < (k : Int) := by omega
      have H2 := Lib.hid h1.out.start2
      have HC := Lib.hid h1.out.cnt
      have hcn : tk ≤ n := by have := HC.out; omega
      clear h1
      go_wp2_with fail
      go_loopw [15] (fun iv wq => ∃ (i : Nat) (ts : Nat → Bool), iv = .int .i64 (i : Int) ∧ Hid (TM w wq p v M xs n tb ts) ∧ Hid (T2 z g k l i xs ts)) (fun iv _ => k - (intOf iv).toNat)
      case atStart => exact ⟨0, ts, rfl, hT, H2⟩
      case round =>
        clear hT H2
        obtain ⟨i, ts, rfl, hT, h2⟩ := hrel
        by_cases hil : i < k ∧ i < l
        · obtain ⟨hi1, hi2⟩ := hil
          have hi3 : (i : Int) < (k : Int) := by omega
          have hi4 : (i : Int) < (l : Int) := by omega
          obtain ⟨x1, rfl, hx1, hc1⟩ := (I1.out.bel hT.out.bel).cell i hi1
          clear hx1
          generalize hgk : g i = gk at *
          have HG := Lib.hid hgk
          clear hgk
          by_cases hr : 0 ≤ gk ∧ gk < (n : Int)
          · obtain ⟨j, rfl⟩ : ∃ j : Nat, gk = (j : Int) := ⟨gk.toNat, by omega⟩
            have hjn : j < n := by omega
            have hj1 : (j : Int) < (n : Int) := by omega
            clear hr
            have hb := hT.out.row.cell j
            have hf := hT.out.row.fz j
            rw [bl_at ts hjn] at hb
            go_wp2_with fail
            go_roundw
            case measure => simp only [intOf]; omega
            case rel => exact ⟨i + 1, ups ts j, by go_num, Lib.hid (hT.out.mark j), Lib.hid (h2.out.mark HG.out)⟩
          · have H2' := Lib.hid (h2.out.skip hT.out.st.lt (by rw [HG.out]; exact hr))
            by_cases hz0 : 0 ≤ gk
            · have hz1 : ¬ gk < (n : Int) := fun h => hr ⟨hz0, h⟩
              clear hr
              go_wp2_with fail
              go_roundw
              case measure => simp only [intOf]; omega
              case rel => exact ⟨i + 1, ts, by go_num, hT, H2'⟩
            · clear hr
              go_wp2_with fail
              go_roundw
              case measure => simp only [intOf]; omega
              case rel => exact ⟨i + 1, ts, by go_num, hT, H2'⟩
        · have HKL := Lib.hid hil
          have HX := Lib.hid (T3.start h2.out hil hT.out.st.lt (fun i hi => (I0.out.wf i hi).1))
          have HLen := Lib.hid (lenI wr p v M xs n hT.out.st)
          have hne : ((xs.length : Int) != (n : Int) - (tk : Int)) = false := by
            have := HC.out
            simp only [bne_eq_false_iff_eq]
            omega
          clear hil h2
          have hout : (i : Int) < (k : Int) ∧ ¬ (i : Int) < (l : Int) ∨ ¬ (i : Int) < (k : Int) := by have := HKL.out; omega
          rcases hout with ⟨hi3, hi4⟩ | hi3
          · go_wp2_with (go_at_call 11; refine HLen.out.mono ?_; rintro e w' ⟨rfl, rfl⟩)
            clear hne HLen HKL HC
            go_loopg [16, 17, 18, 19, 20, 21] xs.length (fun gh lkv lav _ _ _ _ wq => ∃ (v : Value) (xs : List Th) (lk la : Int), gh = xs.length ∧ lkv = .int .i64 lk ∧ lav = .int .i64 la ∧ Hid (TM w wq p v M xs n tb ts) ∧ Hid (T3 z xs ts lk la))
            case atStart => exact ⟨v, xs, _, _, rfl, rfl, rfl, hT, HX⟩
            case round =>
              clear hT HX
              obtain ⟨v, xs, lk, la, rfl, rfl, rfl, hT, h3⟩ := hrel
              have HLen := Lib.hid (lenI wr p v M xs n hT.out.st)
              by_cases h0 : 0 < xs.length
              · have h0' : (0 : Int) < (xs.length : Int) := by omega
                have hx := mem_gT h0
                have HV : Hid ((gT xs 0).v 0 = .int .i64 ((gT xs 0).num : Int)) := Lib.hid (by rw [h3.out.v _ hx])
                have hnum : (gT xs 0).num < n := hT.out.st.lt _ hx
                have hnb := Lib.hid (h3.out.not_back hx)
                have hpop := Lib.hid (pop1I wr p v M xs n hT.out.st h0)
                have hnx := Lib.hid (h3.out.next hT.out.st.heap h0 (zs := xs.drop 1))
                generalize hxe : gT xs 0 = x at *
                have HXE := Lib.hid hxe
                clear hx hnx hxe
                obtain ⟨y1, rfl, hy1, hc1⟩ := (I0.out.bel hT.out.bel).cell x.num hnum
                have hnum' : (x.num : Int) < (n : Int) := by omega
                go_wp2_with (go_at_call 11; refine HLen.out.mono ?_; rintro e w' ⟨rfl, rfl⟩)
                refine hpop.out.mono ?_
                rintro e w4 ⟨he, zs, v4, p4, s4, o4, t4⟩
                rw [HV.out] at he
                obtain rfl := he
                have hl4 := p4.length_eq
                rw [List.length_cons] at hl4
                have HT4 := Lib.hid (hT.out.move s4 o4 t4)
                have HP4 := Lib.hid p4
                have hb := HT4.out.row.cell x.num
                rw [bl_at ts hnum] at hb
                have hc4 : w4.cell? (y1.add x.num) = some (.int .i64 (z x.num)) := by
                  obtain ⟨y2, e2, _, hq⟩ := (I0.out.bel HT4.out.bel).cell x.num hnum
                  injection e2 with e2
                  subst e2
                  exact hq
                have HL4 := Lib.hid hl4
                clear p4 s4 o4 t4 hc1 hy1 hl4
                cases hts : ts x.num with
                | true =>
                  rw [hts] at hb
                  clear hts
                  go_wp2_with fail
                  go_roundg zs.length
                  case measure => have := HL4.out; omega
                  case rel => exact ⟨v4, zs, lk, la, rfl, rfl, rfl, HT4, Lib.hid (h3.out.pop HP4.out)⟩
                | false =>
                  rw [hts] at hb
                  have HN : Hid (T3 z zs ts (z x.num) (x.num : Int)) := Lib.hid (by
                    have := h3.out.next (zs := zs) hT.out.st.heap h0 (by rw [HXE.out]; exact HP4.out) (by rw [HXE.out]; exact hts)
                    rwa [HXE.out] at this)
                  obtain ⟨n1, n2⟩ := hnb.out hts
                  clear hts
                  by_cases n3 : z x.num = lk
                  · have n4 : ¬ (x.num : Int) < la := fun h => n2 ⟨n3, h⟩
                    have n5 : (z x.num == lk) = true := by rw [beq_iff_eq]; exact n3
                    clear n2 n3
                    go_wp2_with fail
                    go_roundg zs.length
                    case measure => have := HL4.out; omega
                    case rel => exact ⟨v4, zs, _, _, rfl, rfl, rfl, HT4, HN⟩
                  · have n5 : (z x.num == lk) = false := beq_eq_false_iff_ne.2 n3
                    clear n2 n3
                    go_wp2_with fail
                    go_roundg zs.length
                    case measure => have := HL4.out; omega
                    case rel => exact ⟨v4, zs, _, _, rfl, rfl, rfl, HT4, HN⟩
              · have h0' : ¬ (0 : Int) < (xs.length : Int) := by omega
                go_wp2_with (go_at_call 11; refine HLen.out.mono ?_; rintro e w' ⟨rfl, rfl⟩)
                go_ret
                exact ⟨rfl, hT.out.bel⟩
          · go_wp2_with (go_at_call 11; refine HLen.out.mono ?_; rintro e w' ⟨rfl, rfl⟩)
            clear hne HLen HKL HC
            go_loopg [16, 17, 18, 19, 20, 21] xs.length (fun gh lkv lav _ _ _ _ wq => ∃ (v : Value) (xs : List Th) (lk la : Int), gh = xs.length ∧ lkv = .int .i64 lk ∧ lav = .int .i64 la ∧ Hid (TM w wq p v M xs n tb ts) ∧ Hid (T3 z xs ts lk la))
            case atStart => exact ⟨v, xs, _, _, rfl, rfl, rfl, hT, HX⟩
            case round =>
              clear hT HX
              obtain ⟨v, xs, lk, la, rfl, rfl, rfl, hT, h3⟩ := hrel
              have HLen := Lib.hid (lenI wr p v M xs n hT.out.st)
              by_cases h0 : 0 < xs.length
              · have h0' : (0 : Int) < (xs.length : Int) := by omega
                have hx := mem_gT h0
                have HV : Hid ((gT xs 0).v 0 = .int .i64 ((gT xs 0).num : Int)) := Lib.hid (by rw [h3.out.v _ hx])
                have hnum : (gT xs 0).num < n := hT.out.st.lt _ hx
                have hnb := Lib.hid (h3.out.not_back hx)
                have hpop := Lib.hid (pop1I wr p v M xs n hT.out.st h0)
                have hnx := Lib.hid (h3.out.next hT.out.st.heap h0 (zs := xs.drop 1))
                generalize hxe : gT xs 0 = x at *
                have HXE := Lib.hid hxe
                clear hx hnx hxe
                obtain ⟨y1, rfl, hy1, hc1⟩ := (I0.out.bel hT.out.bel).cell x.num hnum
                have hnum' : (x.num : Int) < (n : Int) := by omega
                go_wp2_with (go_at_call 11; refine HLen.out.mono ?_; rintro e w' ⟨rfl, rfl⟩)
                refine hpop.out.mono ?_
                rintro e w4 ⟨he, zs, v4, p4, s4, o4, t4⟩
                rw [HV.out] at he
                obtain rfl := he
                have hl4 := p4.length_eq
                rw [List.length_cons] at hl4
                have HT4 := Lib.hid (hT.out.move s4 o4 t4)
                have HP4 := Lib.hid p4
                have hb := HT4.out.row.cell x.num
                rw [bl_at ts hnum] at hb
                have hc4 : w4.cell? (y1.add x.num) = some (.int .i64 (z x.num)) := by
                  obtain ⟨y2, e2, _, hq⟩ := (I0.out.bel HT4.out.bel).cell x.num hnum
                  injection e2 with e2
                  subst e2
                  exact hq
                have HL4 := Lib.hid hl4
                clear p4 s4 o4 t4 hc1 hy1 hl4
                cases hts : ts x.num with
                | true =>
                  rw [hts] at hb
                  clear hts
                  go_wp2_with fail
                  go_roundg zs.length
                  case measure => have := HL4.out; omega
                  case rel => exact ⟨v4, zs, lk, la, rfl, rfl, rfl, HT4, Lib.hid (h3.out.pop HP4.out)⟩
                | false =>
                  rw [hts] at hb
                  have HN : Hid (T3 z zs ts (z x.num) (x.num : Int)) := Lib.hid (by
                    have := h3.out.next (zs := zs) hT.out.st.heap h0 (by rw [HXE.out]; exact HP4.out) (by rw [HXE.out]; exact hts)
                    rwa [HXE.out] at this)
                  obtain ⟨n1, n2⟩ := hnb.out hts
                  clear hts
                  by_cases n3 : z x.num = lk
                  · have n4 : ¬ (x.num : Int) < la := fun h => n2 ⟨n3, h⟩
                    have n5 : (z x.num == lk) = true := by rw [beq_iff_eq]; exact n3
                    clear n2 n3
                    go_wp2_with fail
                    go_roundg zs.length
                    case measure => have := HL4.out; omega
                    case rel => exact ⟨v4, zs, _, _, rfl, rfl, rfl, HT4, HN⟩
                  · have n5 : (z x.num == lk) = false := beq_eq_false_iff_ne.2 n3
                    clear n2 n3
                    go_wp2_with fail
                    go_roundg zs.length
                    case measure => have := HL4.out; omega
                    case rel => exact ⟨v4, zs, _, _, rfl, rfl, rfl, HT4, HN⟩
              · have h0' : ¬ (0 : Int) < (xs.length : Int) := by omega
                go_wp2_with (go_at_call 11; refine HLen.out.mono ?_; rintro e w' ⟨rfl, rfl⟩)
                go_ret
                exact ⟨rfl, hT.out.bel⟩
end Go.Proofs.Ytoihhckiacmfcaa
