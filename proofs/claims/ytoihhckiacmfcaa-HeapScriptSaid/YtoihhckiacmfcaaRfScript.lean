/- HeapScript: things come and go, step by step, as the document says. -/
import Derived.Test.YtoihhckiacmfcaaRfTold
import Derived.Test.YtoihhckiacmfcaaRfHCopy
import Derived.Test.YtoihhckiacmfcaaRfState
import Derived.Test.YtoihhckiacmfcaaHpAwake
import Derived.Deep.Cut
import Derived.Deep.CutBlock
namespace Go.Proofs.Ytoihhckiacmfcaa
open Go.RowKit

set_option maxRecDepth 20000 in
theorem script_long (a0 : Option Addr) (n c0 : Nat) (w : World) (hl : 120 < (n : Int)) : Calls Try.prog 5 #[.slice a0 n c0] w fun e w' => e = .returned (.bool true) ∧ Below w.heap.size w w' := by
  go_enter Try.func5, Try.ntmps5
  go_wp2_with fail
  refine (awake_any w).mono ?_
  rintro e w1 ⟨rfl, hb⟩
  have HB := Lib.hid hb
  clear hb
  go_wp2_with fail
  go_ret
  exact ⟨rfl, HB.out⟩

set_option maxRecDepth 20000 in
set_option maxHeartbeats 16000000 in
theorem script_short (hS : SortSays) (a0 : Option Addr) (n c0 : Nat) (d key num : Nat → Int) (w : World) (i0 : Stps w a0 n d key num) (h0 : ¬ 120 < (n : Int)) :
    Calls Try.prog 5 #[.slice a0 n c0] w fun e w' => e = .returned (.bool true) ∧ Below w.heap.size w w' := by
  have I0 := Lib.hid i0
  have HSS := Lib.hid hS
  clear i0 hS
  go_enter Try.func5, Try.ntmps5
  go_wp2_with fail
  refine (awake_any w).mono ?_
  rintro e w1 ⟨rfl, hb⟩
  have HB := Lib.hid hb
  clear hb
  go_wp2_with fail
  refine (newI w1).mono ?_
  rintro e w2 ⟨p, M, rfl, hs, hp, hM, hb⟩
  have HT : Hid (ScS w (w2.alloc (.cells #[.slice none 0 0, .int .i64 0] 43)) p (.slice none 0 0) M [] w2.heap.size (.slice none 0 0) [] 0) := Lib.hid (by
    have hlt := hs.lts
    have hs1 := HB.out.size
    have hs2 := hb.size
    refine ⟨hs.bel (Below.new _ _), ⟨Blk.new w2 _ [.slice none 0 0, .int .i64 0], World.ownsRow_nil _ _ _ _, by simp, by omega, fun _ => rfl⟩, Cor.nil, ?_, ?_, ?_, (HB.out.trans (hb.mono hs1)).trans ((Below.new _ _).mono (by omega))⟩
    · rintro i (rfl | rfl | hi)
      · omega
      · omega
      · simp [Value.ownBlock] at hi
    · rintro i (rfl | hi)
      · omega
      · simp [Value.ownBlock] at hi
    · rintro i hi (rfl | hi2)
      · have := hlt _ hi; omega
      · simp [Value.ownBlock] at hi2)
  clear hs hp hM hb
  go_wp2_with fail
  generalize w2.alloc (.cells #[.slice none 0 0, .int .i64 0] 43) = W at *
  generalize w2.heap.size = r at *
  go_loopw [3, 5, 6, 7, 8, 9, 10, 11, 12, 13, 14, 15, 16, 17, 18, 19, 20, 21, 22, 23, 24, 25] (fun hv iv _ _ _ _ _ _ _ _ _ _ _ _ _ _ _ _ _ _ _ _ wr => ∃ (i p : Nat) (v : Value) (M : Nat) (xs : List Th) (rv : Value) (rs : List Tri) (nx : Nat), i ≤ n ∧ hv = .pointer (some ⟨p, 0, none⟩) ∧ iv = .int .i64 (i : Int) ∧ Hid (nx ≤ i) ∧ Hid (ScS w wr p v M xs r rv rs nx)) (fun _ iv _ _ _ _ _ _ _ _ _ _ _ _ _ _ _ _ _ _ _ _ _ => n - (intOf iv).toNat)
  case atStart => exact ⟨0, p, _, M, [], _, [], 0, by omega, rfl, rfl, Lib.hid (by omega), HT⟩
  case round =>
    clear HT
    obtain ⟨i, p, v, M, xs, rv, rs, nx, hi, rfl, rfl, hN, hT⟩ := hrel
    by_cases hlt : i < n
    · have hlt1 : (i : Int) < (n : Int) := by omega
      obtain ⟨xb, xo, rfl, hxb, s0, s1, s2⟩ := (I0.out.bel hT.out.bel).cell i hlt
      clear hxb
      have W0 := Blk.new wr 45 [.int .u8 (d i), .int .i64 (key i), .int .i64 (num i)]
      have HT1 := Lib.hid (hT.out.bel' (Below.new wr (.cells #[.int .u8 (d i), .int .i64 (key i), .int .i64 (num i)] 45)))
      have HLT := Lib.hid hT.out.hp.lts
      have HRT := Lib.hid hT.out.rf.lts
      clear hT
      go_upto_block 2 with fail
      generalize wr.alloc (.cells #[.int .u8 (d i), .int .i64 (key i), .int .i64 (num i)] 45) = V at *
      have HBX : Hid (∀ j, HS p v M j → j < wr.heap.size) := HLT
      have HBR : Hid (∀ j, RSet r rv j → j < wr.heap.size) := HRT
      clear HLT HRT
      generalize wr.heap.size = bx at *

      go_cut [3, 7, 8, 9, 10, 11, 12, 13, 14, 15, 16, 17, 18, 19] from 46 to 152 (fun s3 _ _ _ _ _ _ _ _ _ _ _ _ _ wx => ∃ (p : Nat) (v : Value) (M : Nat) (xs : List Th) (rv : Value) (rs : List Tri) (nx : Nat), s3 = .pointer (some ⟨p, 0, none⟩) ∧ Hid (nx ≤ i + 1) ∧ Hid (ScS w wx p v M xs r rv rs nx))
      case first =>
        have hxn := HT1.out.hp.len
        have hrn := HT1.out.lenI
        have hnn := hN.out
        have hbx : ∀ j, HS p v M j → j < bx := HBX.out
        have hbr : ∀ j, RSet r rv j → j < bx := HBR.out
        have a1 := W0.cell 1
        have a2 := W0.cell 2
        simp only [List.getElem?_cons_succ, List.getElem?_cons_zero] at a1 a2
        generalize hd : d i = D at *
        clear hd
        have hq : ∀ k : Int, D = k → ((D == k) = true) := fun k e => beq_iff_eq.2 e
        have hq' : ∀ k : Int, D ≠ k → ((D == k) = false) := fun k e => beq_eq_false_iff_ne.2 e
        by_cases d0 : D = 0
        · have q0 := hq 0 d0
          clear hq hq' d0
          have HP := Lib.hid (pushI V p v M xs nx HT1.out.hp (key i) (num i) (by omega))
          have hb1 : rs.length < 1000 ∧ nx < 1000 := by omega
          clear hbx hbr hxn hrn
          go_wp2_with fail
          refine HP.out.mono ?_
          rintro e w3 ⟨rfl, zs, v', p3, s3, n3, t3⟩
          have K3 := W0.turns t3 (fun e => by have := HBX.out _ e; omega)
          have HR := Lib.hid (rpush w3 r rv rs nx (HT1.out.ref1 t3) (key i) (num i) hb1.1 hb1.2)
          have P3 := Lib.hid p3
          have S3 := Lib.hid s3
          have N3 := Lib.hid n3
          have T3 := Lib.hid t3
          clear p3 s3 n3 t3 HP a1 a2
          have a1 := K3.cell 1
          have a2 := K3.cell 2
          simp only [List.getElem?_cons_succ, List.getElem?_cons_zero] at a1 a2
          go_wp2_with fail
          refine HR.out.mono ?_
          rintro e w4 ⟨rfl, rv', r4, n4, t4⟩
          have HT4 := Lib.hid (HT1.out.step S3.out N3.out T3.out r4 n4.r t4 (HT1.out.cor.push (key i) (num i) P3.out))
          clear r4 n4 t4 hb1
          go_wp2_with fail
          go_meet
          exact ⟨p, v', M, zs, rv', _, nx + 1, rfl, Lib.hid (by omega), HT4⟩
        have q0 := hq' 0 d0
        by_cases d1 : D = 1
        · have q1 := hq 1 d1
          clear hq hq' d0 d1 a1 a2
          by_cases h0 : 0 < xs.length
          · have HP := Lib.hid (pop1I V p v M xs nx HT1.out.hp h0)
            obtain ⟨a, ha⟩ := HT1.out.cor.int _ (mem_gT h0)
            have HAA := Lib.hid ha
            clear hbx hbr ha
            go_wp2_with fail
            refine HP.out.mono ?_
            rintro e w3 ⟨he, zs, v', p3, s3, o3, t3⟩
            rw [HAA.out] at he
            obtain rfl := he
            have HR := Lib.hid (rpop1 w3 r rv rs nx (HT1.out.ref1 t3) HT1.out.cor.ris (by omega))
            have P3 := Lib.hid p3
            have S3 := Lib.hid s3
            have O3 := Lib.hid o3
            have T3 := Lib.hid t3
            clear p3 s3 o3 t3 HP hxn hrn
            go_wp2_with fail
            refine HR.out.mono ?_
            rintro e w4 ⟨q, hq, rfl, rv', r4, n4, t4⟩
            have hx := HT1.out.cor.head HT1.out.hp.heap h0 hq.1 hq.2
            have HT4 := Lib.hid (HT1.out.step S3.out (.inl O3.out) T3.out r4 n4 (t4.mono (fun i _ e => .inl e)) (HT1.out.cor.out P3.out hq.1 hx))
            have hag : agR (gR rs q) = .agg #[.int .i64 (gT xs 0).key, .int .i64 ((gT xs 0).num : Int), .int .i64 a] := by rw [hx]; unfold agR tri; rw [HAA.out]; rfl
            rw [hag]
            clear r4 n4 t4 hx hag hq
            go_wp2_with fail
            go_meet
            exact ⟨p, v', M, zs, rv', _, nx, rfl, Lib.hid (by omega), Lib.hid (HT4.out.bel' (Below.new _ _))⟩
          · obtain rfl : xs = [] := List.eq_nil_of_length_eq_zero (by omega)
            obtain rfl : rs = [] := by simpa using hrn
            have HP := Lib.hid (pop0I V p v M nx HT1.out.hp)
            clear hbx hbr hxn hrn h0
            go_wp2_with fail
            refine HP.out.mono ?_
            rintro e w3 ⟨rfl, hb⟩
            have HT3 := Lib.hid (HT1.out.bel' hb)
            have HR := Lib.hid (rpop0 w3 r rv nx HT3.out.rf)
            clear hb HP
            go_wp2_with fail
            refine HR.out.mono ?_
            rintro e w4 ⟨rfl, hb⟩
            have HT4 := Lib.hid (HT3.out.bel' hb)
            clear hb HR
            go_wp2_with fail
            go_meet
            exact ⟨p, v, M, [], rv, [], nx, rfl, Lib.hid (by omega), Lib.hid (HT4.out.bel' (Below.new _ _))⟩
        have q1 := hq' 1 d1
        by_cases d2 : D = 2
        · have q2 := hq 2 d2
          clear hq hq' d0 d1 d2 a1 hxn hrn
          rcases num_in HT1.out.cor (num i) with ⟨j, hj, hjn⟩ | ⟨hn1, hn2⟩
          · have HP := Lib.hid (remove1I V p v M xs nx HT1.out.hp (num i) j hj hjn)
            obtain ⟨a, ha⟩ := HT1.out.cor.int _ (mem_gT hj)
            have HAA := Lib.hid ha
            have HJN := Lib.hid hjn
            clear hbx hbr ha hjn
            go_wp2_with fail
            refine HP.out.mono ?_
            rintro e w3 ⟨he, zs, v', p3, s3, o3, t3⟩
            rw [HAA.out] at he
            obtain rfl := he
            have K3 := W0.turns t3 (fun e => by have := HBX.out _ e; omega)
            have HR := Lib.hid (rremove w3 r rv rs nx (HT1.out.ref1 t3) (num i))
            have P3 := Lib.hid p3
            have S3 := Lib.hid s3
            have O3 := Lib.hid o3
            have T3 := Lib.hid t3
            clear p3 s3 o3 t3 HP a2
            have a2 := K3.cell 2
            simp only [List.getElem?_cons_succ, List.getElem?_cons_zero] at a2
            go_wp2_with fail
            refine HR.out.mono ?_
            rintro e w4 hc
            rcases hc with ⟨_, _, hno⟩ | ⟨q, hq, hk, rfl, rv', r4, n4, t4⟩
            · exact absurd HJN.out (hno _ (HT1.out.cor.mem (mem_gT hj)))
            have hx := HT1.out.cor.of_num hj hq (hk.trans HJN.out.symm)
            have HT4 := Lib.hid (HT1.out.step S3.out (.inl O3.out) T3.out r4 n4 (t4.mono (fun i _ e => .inl e)) (HT1.out.cor.out P3.out hq hx))
            have hag : (gR rs q).2.2 = a := by rw [hx]; unfold tri; rw [HAA.out]; rfl
            rw [hag]
            clear r4 n4 t4 hx hag hq hk
            go_wp2_with fail
            go_meet
            exact ⟨p, v', M, zs, rv', _, nx, rfl, Lib.hid (by omega), HT4⟩
          · have HP := Lib.hid (remove0I V p v M xs nx HT1.out.hp (num i) hn1)
            have HR := Lib.hid (rremove V r rv rs nx HT1.out.rf (num i))
            have HN2 := Lib.hid hn2
            clear hbx hbr hn1 hn2
            go_wp2_with fail
            refine HP.out.mono ?_
            rintro e w3 ⟨rfl, hw⟩
            subst hw
            clear HP
            go_wp2_with fail
            refine HR.out.mono ?_
            rintro e w4 hc
            rcases hc with ⟨rfl, hw, _⟩ | ⟨q, hq, hk, _⟩
            · subst hw
              clear HR
              go_wp2_with fail
              go_meet
              exact ⟨p, v, M, xs, rv, rs, nx, rfl, Lib.hid (by omega), HT1⟩
            · exact absurd hk (HN2.out _ (gR_mem hq))
        have q2 := hq' 2 d2
        by_cases d3 : D = 3
        · have q3 := hq 3 d3
          clear hq hq' d0 d1 d2 d3 hxn hrn
          rcases num_in HT1.out.cor (num i) with ⟨j, hj, hjn⟩ | ⟨hn1, hn2⟩
          · have HP := Lib.hid (change1I V p v M xs nx HT1.out.hp (num i) (key i) j hj hjn)
            have HJN := Lib.hid hjn
            clear hbx hbr hjn
            go_wp2_with fail
            refine HP.out.mono ?_
            rintro e w3 ⟨rfl, zs, p3, s3, t3⟩
            have K3 := W0.turns t3 (fun e => by have := HBX.out _ e; omega)
            have HR := Lib.hid (rchange w3 r rv rs nx (HT1.out.ref1 t3) (num i) (key i))
            have P3 := Lib.hid p3
            have S3 := Lib.hid s3
            have T3 := Lib.hid t3
            clear p3 s3 t3 HP a1 a2
            have a1 := K3.cell 1
            have a2 := K3.cell 2
            simp only [List.getElem?_cons_succ, List.getElem?_cons_zero] at a1 a2
            go_wp2_with fail
            refine HR.out.mono ?_
            rintro e w4 hc
            rcases hc with ⟨_, _, hno⟩ | ⟨q, hq, hk, rfl, r4, t4⟩
            · exact absurd HJN.out (hno _ (HT1.out.cor.mem (mem_gT hj)))
            have hx := HT1.out.cor.of_num hj hq (hk.trans HJN.out.symm)
            have HT4 := Lib.hid (HT1.out.step S3.out (.inl rfl) T3.out r4 (NextR.refl _ _) t4 (HT1.out.cor.change hj hq hx P3.out))
            clear r4 t4 hx hq hk
            go_wp2_with fail
            go_meet
            exact ⟨p, v, M, zs, rv, _, nx, rfl, Lib.hid (by omega), HT4⟩
          · have HP := Lib.hid (change0I V p v M xs nx HT1.out.hp (num i) (key i) hn1)
            have HR := Lib.hid (rchange V r rv rs nx HT1.out.rf (num i) (key i))
            have HN2 := Lib.hid hn2
            clear hbx hbr hn1 hn2
            go_wp2_with fail
            refine HP.out.mono ?_
            rintro e w3 ⟨rfl, hw⟩
            subst hw
            clear HP
            go_wp2_with fail
            refine HR.out.mono ?_
            rintro e w4 hc
            rcases hc with ⟨rfl, hw, _⟩ | ⟨q, hq, hk, _⟩
            · subst hw
              clear HR
              go_wp2_with fail
              go_meet
              exact ⟨p, v, M, xs, rv, rs, nx, rfl, Lib.hid (by omega), HT1⟩
            · exact absurd hk (HN2.out _ (gR_mem hq))
        have q3 := hq' 3 d3
        by_cases d4 : D = 4
        · have q4 := hq 4 d4
          clear hq hq' d0 d1 d2 d3 d4 hxn hrn a2
          have HP := Lib.hid (hcopy V p v M xs nx HT1.out.hp)
          clear hbx hbr
          go_wp2_with fail
          refine HP.out.mono ?_
          rintro e w3 ⟨p', v', M', rfl, s3, l3, b3⟩
          have K3 := W0.bel b3
          have HQ := Lib.hid (pushI w3 p v M xs nx (HT1.out.hp.bel b3) (key i) 99 (by omega))
          have S3 := Lib.hid s3
          have L3 := Lib.hid l3
          have B3 := Lib.hid b3
          clear s3 l3 b3 HP a1
          have a1 := K3.cell 1
          simp only [List.getElem?_cons_succ, List.getElem?_cons_zero] at a1
          go_wp2_with fail
          refine HQ.out.mono ?_
          rintro e w4 ⟨rfl, zs, v4, p4, s4, n4, t4⟩
          have HT4 := Lib.hid (HT1.out.copy S3.out L3.out B3.out t4)
          clear p4 s4 n4 t4 HQ
          go_wp2_with fail
          go_meet
          exact ⟨p', v', M', xs, rv, rs, nx, rfl, Lib.hid (by omega), HT4⟩
        have q4 := hq' 4 d4
        by_cases d5 : D = 5
        · have q5 := hq 5 d5
          clear hq hq' d0 d1 d2 d3 d4 d5 hxn hrn a1 a2 hbx hbr
          have HP := Lib.hid (told_any HSS.out V p v M xs nx HT1.out.hp r rv rs HT1.out.rf HT1.out.cor)
          go_wp2_with fail
          refine HP.out.mono ?_
          rintro e w3 ⟨rfl, hb⟩
          have HT3 := Lib.hid (HT1.out.bel' hb)
          clear hb HP
          go_wp2_with fail
          go_meet
          exact ⟨p, v, M, xs, rv, rs, nx, rfl, Lib.hid (by omega), HT3⟩
        have q5 := hq' 5 d5
        clear hq hq' d0 d1 d2 d3 d4 d5 hxn hrn a1 a2 hbx hbr
        go_wp2_with fail
        go_meet
        exact ⟨p, v, M, xs, rv, rs, nx, rfl, Lib.hid (by omega), HT1⟩
      case rest =>
        obtain ⟨p, v, M, xs, rv, rs, nx, rfl, hN2, hT⟩ := hcut
        clear HT1 HBX HBR W0
        have hxl := hT.out.lenI
        obtain ⟨Ar, cr, rfl⟩ := own_slice' hT.out.rf.row
        by_cases h0 : 0 < xs.length
        · have HP := Lib.hid (peek1I wc p v M xs nx hT.out.hp h0)
          obtain ⟨a, ha⟩ := hT.out.cor.int _ (mem_gT h0)
          have HAA := Lib.hid ha
          clear ha
          go_wp2_with fail
          refine HP.out.mono ?_
          rintro e w3 ⟨he, hb⟩
          rw [HAA.out] at he
          obtain rfl := he
          have HT3 := Lib.hid (hT.out.bel' hb)
          have HR := Lib.hid (rpeek1 w3 r _ rs nx HT3.out.rf hT.out.cor.ris (by omega))
          clear hb HP hT
          go_wp2_with fail
          refine HR.out.mono ?_
          rintro e w4 ⟨q, hq, rfl, hb⟩
          have hx := HT3.out.cor.head HT3.out.hp.heap h0 hq.1 hq.2
          have hag : agR (gR rs q) = .agg #[.int .i64 (gT xs 0).key, .int .i64 ((gT xs 0).num : Int), .int .i64 a] := by rw [hx]; unfold agR tri; rw [HAA.out]; rfl
          rw [hag]
          have HT4 := Lib.hid (HT3.out.bel' hb)
          clear hb HR HT3 hx hag hq hxl
          have HX := Lib.hid (HT4.out.bel' (Below.new _ (.cells #[.int .i64 (gT xs 0).key, .int .i64 ((gT xs 0).num : Int), .int .i64 a] 48)))
          have KX := Blk.new w4 48 [.int .i64 (gT xs 0).key, .int .i64 ((gT xs 0).num : Int), .int .i64 a]
          clear HT4
          go_wp2_with fail
          generalize w4.alloc (.cells #[.int .i64 (gT xs 0).key, .int .i64 ((gT xs 0).num : Int), .int .i64 a] 48) = X at *
          have kl := KX.lt
          generalize w4.heap.size = by4 at *
          have q0 := BelowW.cell kl (by have := KX.cell 0; simpa using this)
          have q1 := BelowW.cell kl (by have := KX.cell 1; simpa using this)
          have q2 := BelowW.cell kl (by have := KX.cell 2; simpa using this)
          have q3 := BelowW.cell HX.out.rf.blk.lt HX.out.rf.c0
          have hcl : ((xs.length : Int) != (rs.length : Int)) = false := by rw [bne_eq_false_iff_eq]; have := HX.out.lenI; omega
          clear KX kl
          refine wp_region_quiet_below (by kernel_rfl) (by kernel_rfl) ?_
          repeat (go_big_quiet_step ((go_at_call 11; exact Calls.below_same (lenI _ p v M _ nx (HX.out.hp.bel (BelowW.h _))))))
          refine wpQuiet_nil ?_
          intro wq hw'
          have hbq := belowW_out hw'
          have HY := Lib.hid (HX.out.bel' hbq)
          clear hw' hbq q0 q1 q2 q3 hcl
          go_wp2_with fail
          go_roundw
          case measure => simp only [intOf]; omega
          case rel => exact ⟨i + 1, p, v, M, xs, _, rs, nx, by omega, rfl, by go_num, hN2, HY⟩
        · obtain rfl : xs = [] := List.eq_nil_of_length_eq_zero (by omega)
          obtain rfl : rs = [] := by simpa using hxl
          have HP := Lib.hid (peek0I wc p v M nx hT.out.hp)
          clear h0 hxl
          go_wp2_with fail
          refine HP.out.mono ?_
          rintro e w3 ⟨rfl, hb⟩
          have HT3 := Lib.hid (hT.out.bel' hb)
          have HR := Lib.hid (rpeek0 w3 r _ nx HT3.out.rf)
          clear hb HP hT
          go_wp2_with fail
          refine HR.out.mono ?_
          rintro e w4 ⟨rfl, hb⟩
          have HT4 := Lib.hid (HT3.out.bel' hb)
          clear hb HR HT3
          have HX := Lib.hid (HT4.out.bel' (Below.new _ (.cells #[.int .i64 0, .int .i64 0, .int .i64 0] 48)))
          have KX := Blk.new w4 48 [.int .i64 0, .int .i64 0, .int .i64 0]
          clear HT4
          go_wp2_with fail
          generalize w4.alloc (.cells #[.int .i64 0, .int .i64 0, .int .i64 0] 48) = X at *
          have kl := KX.lt
          generalize w4.heap.size = by4 at *
          have q0 := BelowW.cell kl (by have := KX.cell 0; simpa using this)
          have q1 := BelowW.cell kl (by have := KX.cell 1; simpa using this)
          have q2 := BelowW.cell kl (by have := KX.cell 2; simpa using this)
          have q3 := BelowW.cell HX.out.rf.blk.lt HX.out.rf.c0
          have hcl : ((([] : List Th).length : Int) != (([] : List Tri).length : Int)) = false := by rw [bne_eq_false_iff_eq]; have := HX.out.lenI; omega
          clear KX kl
          refine wp_region_quiet_below (by kernel_rfl) (by kernel_rfl) ?_
          repeat (go_big_quiet_step ((go_at_call 11; exact Calls.below_same (lenI _ p v M _ nx (HX.out.hp.bel (BelowW.h _))))))
          refine wpQuiet_nil ?_
          intro wq hw'
          have hbq := belowW_out hw'
          have HY := Lib.hid (HX.out.bel' hbq)
          clear hw' hbq q0 q1 q2 q3 hcl
          go_wp2_with fail
          go_roundw
          case measure => simp only [intOf]; omega
          case rel => exact ⟨i + 1, p, v, M, [], _, [], nx, by omega, rfl, by go_num, hN2, HY⟩
    · have hlt1 : ¬ (i : Int) < (n : Int) := by omega
      have HP := Lib.hid (told_any HSS.out wr p v M xs nx hT.out.hp r rv rs hT.out.rf hT.out.cor)
      go_wp2_with fail
      refine HP.out.mono ?_
      rintro e w3 ⟨rfl, hb⟩
      have HB3 := Lib.hid (hT.out.bel.trans (hb.mono hT.out.bel.size))
      clear hb HP
      go_wp2_with fail
      go_ret
      exact ⟨rfl, HB3.out⟩
end Go.Proofs.Ytoihhckiacmfcaa
