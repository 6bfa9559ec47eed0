/- QueueOrder: the walk of its first part. -/
import Derived.Test.YtpbheicfplpemaaQuOrder
import Derived.Laws.Concat
namespace Go.Proofs.Ytpbheicfplpemaa
open Go.RowKit

set_option maxRecDepth 20000 in
set_option maxHeartbeats 8000000 in
theorem order_in (n ready grace now : Int) (a : Option Addr) (lb cb : Nat) (B : Nat → Bool) (w : World) (hB : Bools w a lb B) (h0 : 0 ≤ n) (hle : n ≤ 40) (hr : -9223372036854775808 ≤ ready ∧ ready ≤ 9223372036854775807) (hno : -9223372036854775808 ≤ now ∧ now ≤ 9223372036854775807) : Calls Try.prog 3 #[.int .i64 n, .slice a lb cb, .int .i64 ready, .int .i64 grace, .int .i64 now] w fun e w' => e = .returned (.bool true) ∧ Below w.heap.size w w' := by
  obtain ⟨N, rfl⟩ : ∃ N : Nat, n = (N : Int) := ⟨n.toNat, by omega⟩
  have hn1 : ¬ (N : Int) < 0 := by omega
  have hn2 : ¬ 40 < (N : Int) := by omega
  have HBS := Lib.hid hB
  have HN0 := Lib.hid (newQ · 40 0 (by omega) (by omega) (by omega))
  clear hB h0
  go_enter Try.func3, Try.ntmps3
  go_wp2_with fail
  refine (awake_any w).mono ?_
  rintro e w1 ⟨rfl, hb⟩
  have HB := Lib.hid hb
  clear hb
  go_wp2_with fail
  refine (HN0.out w1).mono ?_
  rintro e w2 ⟨q, O, T, rfl, s2, l2, b2⟩
  have HA := Lib.hid (OA.mk s2 (fun i hi => Nat.le_trans HB.out.size (l2 i hi)) (HB.out.trans (b2.mono HB.out.size)))
  have H1 := Lib.hid O1.start
  clear s2 l2 b2
  go_wp2_with fail
  go_loopw [14, 16] (fun wantv iv wr => ∃ (k : Nat) (wv : Value) (ts : List Tk) (tm : ByteArray → Option Int), k ≤ N ∧ iv = .int .i64 (k : Int) ∧ wantv = .string (cat ts) ∧ Hid (OA w wr q 40 0 1 wv ts O T (fun _ => none) tm) ∧ Hid (O1 k ts tm)) (fun _ iv _ => N - (intOf iv).toNat)
  case atStart => exact ⟨0, _, _, _, by omega, rfl, rfl, HA, H1⟩
  case round =>
    clear HA H1
    obtain ⟨k, wv, ts, tm, hk, rfl, rfl, hA, h1⟩ := hrel
    by_cases hlt : k < N
    · have hlt1 : (k : Int) < (N : Int) := by omega
      have hsl : ∀ wx, (Instr.slice 9 (.string names52) (some (.int .i64 (k : Int))) (some (.int .i64 ((k : Int) + 1))) none).run Try.prog wx = .ok (.string (ltr k)) wx := fun wx => by
        have := run_slice_string (P := Try.prog) wx 9 names52 .i64 .i64 k ((k + 1 : Nat) : Int) Try.underlying9 (by omega) (by omega) (by rw [names_size]; omega)
        simpa [ltr] using this
      unfold names52 at hsl
      have hP := Lib.hid (putQ wr q 40 0 1 wv ts O T _ tm hA.out.st (ltr k) ⟨#[]⟩ 0 (h1.out.fresh (by omega)) (by have := h1.out.len; omega) (by have := h1.out.len; omega))
      have hsz : ¬ 9223372036854775807 < (cat ts).size + (ltr k).size := by rw [cat_size _ h1.out.gd, h1.out.len, ltr_size k (by omega)]; omega
      go_wp2_with fail
      refine hP.out.mono ?_
      rintro e w3 ⟨rfl, wv3, s3, n3, t3⟩
      have HA3 := Lib.hid (hA.out.move s3 n3 t3)
      have H13 := Lib.hid (h1.out.next (by omega))
      have hcat : cat (ts ++ [⟨ltr k, ⟨#[]⟩, 0, 0⟩]) = cat ts ++ ltr k := by rw [cat_append, cat_one]
      have HC := Lib.hid hcat
      clear s3 n3 t3 hcat hP
      go_wp2_with fail
      go_roundw
      case measure => simp only [intOf]; omega
      case rel => exact ⟨k + 1, wv3, _, _, by omega, by go_num, by rw [HC.out], HA3, H13⟩
    · obtain rfl : k = N := by omega
      have hlt1 : ¬ (k : Int) < (k : Int) := by omega
      have H2 := Lib.hid (h1.out.start2 (by omega))
      clear h1
      go_wp2_with fail
      go_loopg [15, 17, 18, 19, 20, 21] (wgt ts) (fun gh agv gov _ _ _ _ wq => ∃ (wv : Value) (ts' : List Tk) (om : Int → Option Ot) (tm : ByteArray → Option Int) (again got : ByteArray), gh = wgt ts' ∧ agv = .string again ∧ gov = .string got ∧ Hid (OA w wq q 40 0 ((got.size : Int) + 1) wv ts' O T om tm) ∧ Hid (O2 (cat ts) again got ts'))
      case atStart => exact ⟨_, _, _, _, _, _, rfl, rfl, rfl, hA, H2⟩
      case round =>
        clear hA H2
        obtain ⟨wv, ts', om, tm, again, got, rfl, rfl, rfl, hA, h2⟩ := hrel
        have hL := Lib.hid (lenQ wr q 40 0 _ wv ts' O T om tm hA.out.st)
        cases ts' with
        | nil =>
          obtain rfl : got = cat ts ++ again := by have := h2.out.cat; rw [cat, cat_nil_r] at this; exact this
          have hszn : ¬ 9223372036854775807 < (cat ts).size + again.size := by have := h2.out.w; rw [ByteArray.size_append] at this; omega
          have hL0 : ¬ (0 : Int) < ((([] : List Tk).length : Nat) : Int) := by simp
          have HAB := Lib.hid hA.out.bel
          clear h2 hA
          by_cases hrg : 0 ≤ ready ∧ ready ≤ 1000 ∧ 0 ≤ grace ∧ grace ≤ 1000
          · obtain ⟨r1, r2, r3, r4⟩ := hrg
            have r1' : ¬ ready < 0 := by omega
            have r2' : ¬ 1000 < ready := by omega
            have r3' : ¬ grace < 0 := by omega
            have r4' : ¬ 1000 < grace := by omega
            have HR := Lib.hid (And.intro r1 (And.intro r2 (And.intro r3 r4)))
            clear r1 r2 r3 r4
            have HN1 := Lib.hid (newQ wr 1 grace (by omega) (by omega) HR.out.2.2.1)
            go_upto_region 32 with (go_at_call 11; refine hL.out.mono ?_; rintro e w' ⟨rfl, rfl⟩)
            refine HN1.out.mono ?_
            rintro e w5 ⟨q5, O5, T5, rfl, s5, l5, b5⟩
            have HA5 := Lib.hid (OA.mk s5 (fun i hi => Nat.le_trans HAB.out.size (l5 i hi)) (HAB.out.trans (b5.mono HAB.out.size)))
            have HP5 := Lib.hid (putQ w5 q5 1 grace 1 _ _ O5 T5 _ _ s5 ⟨#[97]⟩ ⟨#[109, 105, 110, 101]⟩ ready rfl (by simp) (by simp))
            clear s5 l5 b5 HN1
            go_wp2_with fail
            refine HP5.out.mono ?_
            rintro e w6 ⟨rfl, wv6, s6, n6, t6⟩
            have HA6 := Lib.hid (HA5.out.move s6 n6 t6)
            clear s6 n6 t6 HP5 HA5
            go_wp2_with fail
            refine (twinQ w6 q5 1 grace 1 wv6 _ O5 T5 _ _ HA6.out.st).mono ?_
            rintro e w7 ⟨q7, wv7, O7, T7, rfl, s7, l7, b7⟩
            have S7 := Lib.hid s7
            have L7 := Lib.hid l7
            have HA7 := Lib.hid (OA.mk (HA6.out.st.bel b7) HA6.out.lo (HA6.out.bel.trans (b7.mono HA6.out.bel.size)))
            have LT7 := Lib.hid (fun i hi => HA6.out.st.lts i hi)
            clear s7 l7 b7
            go_wp2_with fail
            have HQ8 := Lib.hid (pollOne w7 q5 1 grace 1 wv6 _ O5 T5 _ _ HA7.out.st ⟨#[111, 116, 104, 101, 114]⟩ now 1 (by omega) (by omega) hno (by have := HR.out; omega) hr (by simp))
            have HQ9 := Lib.hid (fun w8 (t8 : Turns (QSet q5 wv6 O5 T5) w7 w8) => pollOne w8 q7 1 grace 1 wv7 _ O7 T7 _ _ (S7.out.keep t8 (fun i hi hq => by have := L7.out i hi; have := LT7.out i hq; omega)) ⟨#[109, 105, 110, 101]⟩ now 1 (by omega) (by omega) hno (by have := HR.out; omega) (by exact hr) (by simp))
            unfold OneY at HQ8 HQ9
            rw [isFor_other _ _ _ HR.out.1 HR.out.2.1 HR.out.2.2.1 HR.out.2.2.2] at HQ8
            simp only [isFor_mine] at HQ9
            have hcase : (ready ≤ now ∧ ready + grace ≤ now) ∨ (ready ≤ now ∧ ¬ ready + grace ≤ now) ∨ (¬ ready ≤ now ∧ ¬ ready + grace ≤ now) := by have := HR.out; omega
            rcases hcase with ⟨p1, p2⟩ | ⟨p1, p2⟩ | ⟨p1, p2⟩
            all_goals
              simp only [p1, p2, decide_true, decide_false, if_true, Bool.false_eq_true, if_false] at HQ8 HQ9
              refine HQ8.out.mono ?_
              rintro e w8 ⟨ks, kn, km, rfl, t8⟩
              have T8 := Lib.hid t8
              have HQ10 := HQ9.out w8 t8
              clear t8 HQ9 HQ8
              have HQ9 := Lib.hid HQ10
              clear HQ10
              go_wp2_with fail
              refine (HQ9.out).mono ?_
              rintro e w9 ⟨ks2, kn2, km2, rfl, t9⟩
              have HB8 := Lib.hid (HA7.out.bel.trans (T8.out.below HA7.out.bel.size fun i _ hi => HA7.out.lo i hi))
              have HB9 := Lib.hid (HB8.out.trans (t9.below HB8.out.size fun i _ hi => Nat.le_trans HA6.out.bel.size (L7.out i hi)))
              clear t9 HQ9
              go_wp2_with fail
              go_ret
              first
              | exact ⟨rfl, HB9.out⟩
              | (rw [decide_eq_false (show ¬ ready + grace ≤ now by omega)]; exact ⟨rfl, HB9.out⟩)
              | (rw [decide_eq_false (show ¬ ready + grace ≤ now by omega), decide_eq_false (show ¬ ready ≤ now by omega)]; exact ⟨rfl, HB9.out⟩)
          · have hout : ready < 0 ∨ ¬ ready < 0 ∧ 1000 < ready ∨ (¬ ready < 0 ∧ ¬ 1000 < ready) ∧ grace < 0 ∨ (¬ ready < 0 ∧ ¬ 1000 < ready) ∧ ¬ grace < 0 ∧ 1000 < grace := by omega
            clear hrg
            rcases hout with r1 | ⟨r1, r2⟩ | ⟨⟨r1, r2⟩, r3⟩ | ⟨⟨r1, r2⟩, r3, r4⟩
            all_goals
              go_wp2_with (go_at_call 11; refine hL.out.mono ?_; rintro e w' ⟨rfl, rfl⟩)
              go_ret
              exact ⟨rfl, HAB.out⟩
        | cons t ts' =>
          obtain ⟨key, st, rd, att⟩ := t
          obtain ⟨rfl, rfl, gat, gsz⟩ : st = ⟨#[]⟩ ∧ rd = 0 ∧ (att = 0 ∨ att = 1) ∧ key.size = 1 := by
            obtain ⟨g1, g2, g3, g4⟩ := h2.out.gd _ List.mem_cons_self
            exact ⟨g1, g2, g3, g4⟩
          have hI := Lib.hid (h2.out.isFor ⟨#[119]⟩)
          have hP := Lib.hid (pollHead wr q 40 0 _ wv _ ts' O T om tm hA.out.st ⟨#[119]⟩ 0 5 (by have := h2.out.w; omega) (by omega) (by omega) (by omega) h2.out.rdy h2.out.att hI.out)
          have hgs : got.size ≤ 80 := by have := h2.out.w; omega
          have hsz1 : ¬ 9223372036854775807 < got.size + key.size := by omega
          have h0' : (0 : Int) < ((⟨key, ⟨#[]⟩, 0, att⟩ :: ts' : List Tk).length : Int) := by simp
          go_wp2_with (go_at_call 11; refine hL.out.mono ?_; rintro e w' ⟨rfl, rfl⟩)
          refine hP.out.mono ?_
          rintro e w3 ⟨wv3, rfl, s3, n3, t3⟩
          have S3 := Lib.hid s3
          have N3 := Lib.hid n3
          have T3 := Lib.hid t3
          clear s3 n3 t3 hP hL
          have hsz2 : ¬ 9223372036854775807 < again.size + key.size := by have := h2.out.again; omega
          rcases gat with rfl | rfl
          · by_cases hlb : got.size < lb
            · have hlb1 : (got.size : Int) + 1 ≤ (lb : Int) := by omega
              obtain ⟨x1, rfl, hx1, hc1⟩ := (HBS.out.bel (hA.out.move S3.out N3.out T3.out).bel) got.size hlb
              cases hBv : B got.size with
              | true =>
                rw [hBv] at hc1
                have HB3 := Lib.hid (back1 w3 q 40 0 _ wv3 ts' O T _ _ S3.out ((got.size : Int) + 1) 0 _ (if_pos rfl) (by have := h2.out.len; simp at this; omega))
                go_wp2_with fail
                refine HB3.out.mono ?_
                rintro e w4 ⟨rfl, wv4, s4, n4, t4⟩
                have HA4 := Lib.hid ((hA.out.move S3.out N3.out T3.out).move s4 n4 t4)
                have H4 := Lib.hid (h2.out.back rfl)
                have hg4 : (got.size : Int) + 1 + 1 = ((got ++ key).size : Int) + 1 := by rw [ByteArray.size_append, gsz]; omega
                have hwm : wgt (ts' ++ [⟨key, ⟨#[]⟩, 0, 0 + 1⟩]) < wgt (⟨key, ⟨#[]⟩, 0, 0⟩ :: ts') := by rw [wgt_append]; simp [wgt]; omega
                rw [hg4] at HA4
                clear s4 n4 t4 hg4 HB3
                go_wp2_with fail
                go_roundg (wgt (ts' ++ [⟨key, ⟨#[]⟩, 0, 0 + 1⟩]))
                case measure => exact hwm
                case rel => exact ⟨wv4, _, _, _, _, _, rfl, rfl, rfl, HA4, H4⟩
              | false =>
                rw [hBv] at hc1
                have HD3 := Lib.hid (done1 w3 q 40 0 _ wv3 ts' O T _ _ S3.out ((got.size : Int) + 1) _ (if_pos rfl))
                go_wp2_with fail
                refine HD3.out.mono ?_
                rintro e w4 ⟨rfl, s4, t4⟩
                have HA4 := Lib.hid ((hA.out.move S3.out N3.out T3.out).same s4 t4)
                have H4 := Lib.hid h2.out.done
                have hg4 : (got.size : Int) + 1 + 1 = ((got ++ key).size : Int) + 1 := by rw [ByteArray.size_append, gsz]; omega
                have hwm : wgt ts' < wgt (⟨key, ⟨#[]⟩, 0, 0⟩ :: ts') := by simp [wgt]
                rw [hg4] at HA4
                clear s4 t4 hg4 HD3
                go_wp2_with fail
                go_roundg (wgt ts')
                case measure => exact hwm
                case rel => exact ⟨wv3, _, _, _, _, _, rfl, rfl, rfl, HA4, H4⟩
            · have hlb1 : ¬ (got.size : Int) + 1 ≤ (lb : Int) := by omega
              have HD3 := Lib.hid (done1 w3 q 40 0 _ wv3 ts' O T _ _ S3.out ((got.size : Int) + 1) _ (if_pos rfl))
              go_wp2_with fail
              refine HD3.out.mono ?_
              rintro e w4 ⟨rfl, s4, t4⟩
              have HA4 := Lib.hid ((hA.out.move S3.out N3.out T3.out).same s4 t4)
              have H4 := Lib.hid h2.out.done
              have hg4 : (got.size : Int) + 1 + 1 = ((got ++ key).size : Int) + 1 := by rw [ByteArray.size_append, gsz]; omega
              have hwm : wgt ts' < wgt (⟨key, ⟨#[]⟩, 0, 0⟩ :: ts') := by simp [wgt]
              rw [hg4] at HA4
              clear s4 t4 hg4 HD3
              go_wp2_with fail
              go_roundg (wgt ts')
              case measure => exact hwm
              case rel => exact ⟨wv3, _, _, _, _, _, rfl, rfl, rfl, HA4, H4⟩
          · skip
            have HD3 := Lib.hid (done1 w3 q 40 0 _ wv3 ts' O T _ _ S3.out ((got.size : Int) + 1) _ (if_pos rfl))
            go_wp2_with fail
            refine HD3.out.mono ?_
            rintro e w4 ⟨rfl, s4, t4⟩
            have HA4 := Lib.hid ((hA.out.move S3.out N3.out T3.out).same s4 t4)
            have H4 := Lib.hid h2.out.done
            have hg4 : (got.size : Int) + 1 + 1 = ((got ++ key).size : Int) + 1 := by rw [ByteArray.size_append, gsz]; omega
            have hwm : wgt ts' < wgt (⟨key, ⟨#[]⟩, 0, 1⟩ :: ts') := by simp [wgt]
            rw [hg4] at HA4
            clear s4 t4 hg4 HD3
            go_wp2_with fail
            go_roundg (wgt ts')
            case measure => exact hwm
            case rel => exact ⟨wv3, _, _, _, _, _, rfl, rfl, rfl, HA4, H4⟩
end Go.Proofs.Ytpbheicfplpemaa
