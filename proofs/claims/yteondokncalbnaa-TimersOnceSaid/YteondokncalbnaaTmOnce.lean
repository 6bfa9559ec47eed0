/- TimersOnce: each timer comes due once. -/
import Derived.Test.YteondokncalbnaaTmOncePlain
import Derived.Deep.OwnRows
import Derived.Deep.LoopGhost
namespace Go.Proofs.Yteondokncalbnaa
open Go.RowKit

set_option maxRecDepth 20000 in
theorem once_long0 (a0 a1 : Option Addr) (n c0 m c1 : Nat) (w : World) (hl : 200 < (n : Int)) : Calls Try.prog 3 #[.slice a0 n c0, .slice a1 m c1] w fun e w' => e = .returned (.bool true) ∧ Below w.heap.size w w' := by
  go_enter Try.func3, Try.ntmps3
  go_wp2_with fail
  refine (awake_any w).mono ?_
  rintro e w1 ⟨rfl, hb⟩
  have HB := Lib.hid hb
  clear hb
  go_wp2_with fail
  go_ret
  exact ⟨rfl, HB.out⟩
set_option maxRecDepth 20000 in
theorem once_long1 (a0 a1 : Option Addr) (n c0 m c1 : Nat) (w : World) (h0 : ¬ 200 < (n : Int)) (hl : 50 < (m : Int)) : Calls Try.prog 3 #[.slice a0 n c0, .slice a1 m c1] w fun e w' => e = .returned (.bool true) ∧ Below w.heap.size w w' := by
  go_enter Try.func3, Try.ntmps3
  go_wp2_with fail
  refine (awake_any w).mono ?_
  rintro e w1 ⟨rfl, hb⟩
  have HB := Lib.hid hb
  clear hb
  go_wp2_with fail
  go_ret
  exact ⟨rfl, HB.out⟩
def lateB (z g : Nat → Int) (j : Nat) : Nat → Bool
  | 0 => false
  | k + 1 => lateB z g j k || decide (z j ≤ g k)
theorem lateB_iff (z g : Nat → Int) (j : Nat) : ∀ m, lateB z g j m = true ↔ ∃ k, k < m ∧ z j ≤ g k
  | 0 => ⟨(fun h => by cases h), fun ⟨k, hk, _⟩ => absurd hk (Nat.not_lt_zero _)⟩
  | m + 1 => by
    rw [lateB, Bool.or_eq_true, lateB_iff z g j m, decide_eq_true_iff]
    constructor
    · rintro (⟨k, hk, hz⟩ | hz)
      · exact ⟨k, by omega, hz⟩
      · exact ⟨m, by omega, hz⟩
    · rintro ⟨k, hk, hz⟩
      by_cases e : k = m
      · subst e; exact .inr hz
      · exact .inl ⟨k, by omega, hz⟩
theorem T7.same {z g : Nat → Int} {n m : Nat} {xs : List Th} {ts : Nat → Bool} (h : T7 z g n m xs ts) (j : Nat) (hj : j < n) : ts j = lateB z g j m := by
  rw [Bool.eq_iff_iff, h.late j hj, lateB_iff]

set_option maxRecDepth 20000 in
set_option maxHeartbeats 16000000 in
theorem once_short (a0 a1 : Option Addr) (n c0 m c1 : Nat) (z g : Nat → Int) (w : World) (i0 : Ints w a0 n z) (i1 : Ints w a1 m g) (h0 : ¬ 200 < (n : Int)) (h1 : ¬ 50 < (m : Int)) :
    Calls Try.prog 3 #[.slice a0 n c0, .slice a1 m c1] w fun e w' => e = .returned (.bool true) ∧ Below w.heap.size w w' := by
  have I0 := Lib.hid i0
  have I1 := Lib.hid i1
  clear i0 i1
  go_enter Try.func3, Try.ntmps3
  go_wp2_with fail
  refine (awake_any w).mono ?_
  rintro e w1 ⟨rfl, hb⟩
  have HB := Lib.hid hb
  clear hb
  go_wp2_with fail
  refine (filled_any w1 a0 n c0 z (I0.out.bel HB.out) (by omega)).mono ?_
  rintro e w2 ⟨t, rfl, p, v, M, A, xs, hs, hp, hl, hb⟩
  have HS := Lib.hid hs
  have HP := Lib.hid hp
  have HL := Lib.hid hl
  have HB2 := Lib.hid hb
  clear hs hp hl hb
  have hmk := run_make_row' (P := Try.prog) 27 4 (.bool false) 1 Try.underlying27 info_bool rfl .i64 .i64 n (by omega) (by omega)
  go_wp2_with fail
  have HT := Lib.hid (TW.make HB.out HS.out HL.out HB2.out)
  have H7 := Lib.hid (T7.start (g := g) HP.out)
  have HN : Hid (xs.length = n) := Lib.hid (by rw [HP.out.length_eq, tims_len])
  generalize w2.alloc (.cells (madeCells #[.bool false] n) 4) = W at *
  generalize w2.heap.size = tb at *
  clear hmk HS HP HL HB2
  go_loopw [8, 9, 10, 11, 12, 13, 14] (fun lf iv _ _ _ _ _ wr => ∃ (i : Nat) (v : Value) (xs : List Th) (ts : Nat → Bool), i ≤ m ∧ lf = .int .i64 (xs.length : Int) ∧ iv = .int .i64 (i : Int) ∧ Hid (xs.length ≤ n) ∧ Hid (TW w wr t p v M A xs n tb ts) ∧ Hid (T7 z g n i xs ts)) (fun _ iv _ _ _ _ _ _ => m - (intOf iv).toNat)
  case atStart => exact ⟨0, v, xs, _, by omega, by rw [HN.out], rfl, Lib.hid (by rw [HN.out]; exact Nat.le_refl _), HT, H7⟩
  case round =>
    clear HT H7 HN
    obtain ⟨i, v, xs, ts, hi, rfl, rfl, hN, hT, h7⟩ := hrel
    by_cases hli : i < m
    · have hli1 : (i : Int) < (m : Int) := by omega
      obtain ⟨x1, rfl, hx1, hc1⟩ := (I1.out.bel hT.out.bel).cell i hli
      clear hx1
      go_wp2_with fail
      refine (dueTab wr t p v M A xs n (g i) hT.out.tab).mono ?_
      rintro e w3 ⟨lv, rfl, ls, ys, v3, d3, l3, r3, s3, o3, t3⟩
      obtain ⟨A2, k2, rfl⟩ := own_slice' r3
      have HT3 := Lib.hid (hT.out.due s3 o3 t3)
      have HD := Lib.hid d3
      have HLa := Lib.hid l3
      have HR3 := Lib.hid r3
      have HA := Lib.hid hT.out.tab.st.apart
      have H8 := Lib.hid (T8.start ls ts)
      have hbd := hT.out.row.lt
      have HX : Hid (ls.length + ys.length = xs.length) := Lib.hid (by have := d3.perm.length_eq; simpa using this)
      clear d3 l3 r3 s3 o3 t3 hT hc1
      generalize wr.heap.size = Bd at *
      go_wp2_with fail
      go_loopw [8, 11, 12] (fun lf kv _ wq => ∃ (k : Nat) (ts' : Nat → Bool), k ≤ ls.length ∧ lf = .int .i64 ((xs.length : Int) - (k : Int)) ∧ kv = .int .i64 (k : Int) ∧ Hid (TW w wq t p v3 M A ys n tb ts') ∧ Hid (wq.ownsRow Bd 31 3 (.slice A2 ls.length k2) ls.length (ls.flatMap tmC)) ∧ Hid (T8 ls ts ts' k)) (fun _ kv _ _ => ls.length - (intOf kv).toNat)
      case atStart => exact ⟨0, ts, by omega, by simp, rfl, HT3, HR3, H8⟩
      case round =>
        clear HT3 HR3 H8
        obtain ⟨k, ts', hk, rfl, rfl, hT, hR, h8⟩ := hrel
        have hlx : ls.length ≤ xs.length := by have := HX.out; omega
        have hxn : xs.length ≤ n := hN.out
        by_cases hlt : k < ls.length
        · have hlt2 : (k : Int) < (ls.length : Int) := by omega
          obtain ⟨f1, f2, f3, f4⟩ := h8.out.fresh h7.out HD.out HA.out hlt
          have H9 := Lib.hid (h8.out.step hlt)
          obtain ⟨gb, cb, e, _, hgb, hkc, hcm⟩ := own_at hR.out (by omega)
          injection e with e1 _ e3
          subst e1 e3
          obtain ⟨b0, b1, b2⟩ := tim_cells hR.out rfl k hlt f2
          have F2 := Lib.hid f2
          have F4 := Lib.hid f4
          clear f2 f4
          generalize ls[k].num = j at *
          obtain ⟨y, rfl, hy, hcj⟩ := (I0.out.bel hT.out.bel).cell j f1
          clear hy hcj h8
          have q0 : decide ((j : Int) < 0) = false := decide_eq_false (by omega)
          have q1 : decide ((n : Int) ≤ (j : Int)) = false := decide_eq_false (by omega)
          have q2 : decide (n ≤ j) = false := decide_eq_false (by omega)
          have q3 : decide (g i < z j) = false := decide_eq_false (by omega)
          have q4 : (j : Int) < (n : Int) := by omega
          have ho : Hid (ownr j = if j % 2 = 1 then ⟨#[98]⟩ else ⟨#[97]⟩) := Lib.hid rfl
          generalize ownr j = ow at *
          by_cases hj2 : j % 2 = 1
          · obtain rfl : ow = ⟨#[98]⟩ := by rw [ho.out, if_pos hj2]
            have q5 : ((j : Int).tmod 2 == 1) = true := by rw [beq_iff_eq, Int.tmod_eq_emod_of_nonneg (by omega)]; omega
            have q6 : ((j : Int) % 2 == 1) = true := by rw [beq_iff_eq]; omega
            clear ho hj2
            go_wp2_with fail
            have W0 := Blk.new wr 31 [.int .i64 (z j), .string ⟨#[98]⟩, .int .i64 (j : Int)]
            have hB0 := Below.new wr (.cells #[.int .i64 (z j), .string ⟨#[98]⟩, .int .i64 (j : Int)] 31)
            have HT0 := Lib.hid (hT.out.bel' hB0)
            have HR0 := Lib.hid (own_turns hR.out (.of_below (S := fun _ => False) hB0) (fun _ _ => id))
            clear hT hR b0 b1 b2 hB0
            generalize wr.alloc (.cells #[.int .i64 (z j), .string ⟨#[98]⟩, .int .i64 (j : Int)] 31) = V at *
            generalize wr.heap.size = bx at *
            have a0 := W0.cell 0
            have a1 := W0.cell 1
            have a2 := W0.cell 2
            simp only [List.getElem?_cons_succ, List.getElem?_cons_zero] at a0 a1 a2
            have d1 := HT0.out.row.cell j
            rw [bl_at ts' f1, F4.out] at d1
            obtain ⟨y', e, _, d2⟩ := (I0.out.bel HT0.out.bel).cell j f1
            injection e with e
            subst e
            obtain ⟨x', e, _, d3⟩ := (I1.out.bel HT0.out.bel).cell i hli
            injection e with e
            subst e
            go_quiet (fail)
            have HT1 := Lib.hid (HT0.out.bel' (below_drewN' (Below.refl V.heap.size V) nq))
            have HR1 := Lib.hid (own_turns HR0.out (.of_below (S := fun _ => False) (below_drewN' (Below.refl V.heap.size V) nq)) (fun _ _ => id))
            have W1 := W0.drewN nq
            clear W0 HT0 HR0 a0 a1 a2 d1 d2 d3 q0 q1 q2 q3 q5 q6
            generalize V.drewN nq = V at *
            have a0 := W1.cell 0
            have a2 := W1.cell 2
            simp only [List.getElem?_cons_succ, List.getElem?_cons_zero] at a0 a2
            by_cases hk0 : k = 0
            · obtain rfl : k = 0 := by omega
              go_wp2_with fail
              go_quiet (fail)
              clear a0 a2
              have HT2 := Lib.hid (HT1.out.bel' (below_drewN' (Below.refl V.heap.size V) nq))
              have HR2 := Lib.hid (own_turns HR1.out (.of_below (S := fun _ => False) (below_drewN' (Below.refl V.heap.size V) nq)) (fun _ _ => id))
              have W2 := W1.drewN nq
              clear W1 HT1 HR1
              generalize V.drewN nq = V at *
              have a2 := W2.cell 2
              simp only [List.getElem?_cons_succ, List.getElem?_cons_zero] at a2
              have d1 := HT2.out.row.cell j
              have z1 := HT2.out.row.fz j
              rw [bl_at ts' f1, F4.out] at d1
              go_wp2_with fail
              have HT3 := Lib.hid (HT2.out.mark j)
              have HR3 := Lib.hid (own_turns HR2.out (Turns.of_set (S := fun i => i = tb) V ⟨tb, j, none⟩ (.bool true) rfl) (fun g hg e => by have := (own_lo HR2.out hg).1; omega))
              go_roundw
              case measure => simp only [intOf]; omega
              case rel => exact ⟨0 + 1, ups ts' j, by omega, congrArg (Value.int .i64) (by omega), by go_num, HT3, HR3, H9⟩
            · obtain ⟨k1, rfl⟩ : ∃ k1, k = k1 + 1 := ⟨k - 1, by omega⟩
              have hk1 : k1 < ls.length := by omega
              have hpv := HD.out.prev hlt
              have hx1 := (h7.out.sub ls[k1] (HD.out.perm.mem_iff.1 (List.mem_append_left _ (List.getElem_mem hk1)))).2
              have hx2 := congrArg Th.key F2.out
              have hx3 := congrArg Th.num F2.out
              rw [hx2, hx3, show ls[k1].key = z ls[k1].num from congrArg Th.key hx1] at hpv
              simp only [tim] at hpv
              obtain ⟨b0, _, b2⟩ := tim_cells HR1.out rfl k1 hk1 hx1
              clear hx1 hx2 hx3
              generalize ls[k1].num = j' at *
              have p0 : decide (z j < z j') = false := decide_eq_false (by omega)
              have p1 : z j' = z j → decide ((j : Int) < (j' : Int)) = false := fun e => decide_eq_false (by omega)
              have p2 : z j' = z j → decide (j < j') = false := fun e => decide_eq_false (by omega)
              have hw1 : IntKind.i64.wrap ((k1 : Int) + 1 - 1) = (k1 : Int) := by rw [IntWalk.i64_in _ (by omega)]; omega
              have hk1I : (k1 : Int) < (ls.length : Int) := by omega
              clear hpv
              by_cases hzz : z j' = z j
              · have p1 := p1 hzz
                have p2 := p2 hzz
                have p3 : (z j' == z j) = true := beq_iff_eq.2 hzz
                clear hzz
                go_wp2_with fail
                go_quiet (fail)
                clear a0 a2 b0 b2 p0 p1 p2 p3 hw1
                have HT2 := Lib.hid (HT1.out.bel' (below_drewN' (Below.refl V.heap.size V) nq))
                have HR2 := Lib.hid (own_turns HR1.out (.of_below (S := fun _ => False) (below_drewN' (Below.refl V.heap.size V) nq)) (fun _ _ => id))
                have W2 := W1.drewN nq
                clear W1 HT1 HR1
                generalize V.drewN nq = V at *
                have a2 := W2.cell 2
                simp only [List.getElem?_cons_succ, List.getElem?_cons_zero] at a2
                have d1 := HT2.out.row.cell j
                have z1 := HT2.out.row.fz j
                rw [bl_at ts' f1, F4.out] at d1
                go_wp2_with fail
                have HT3 := Lib.hid (HT2.out.mark j)
                have HR3 := Lib.hid (own_turns HR2.out (Turns.of_set (S := fun i => i = tb) V ⟨tb, j, none⟩ (.bool true) rfl) (fun g hg e => by have := (own_lo HR2.out hg).1; omega))
                go_roundw
                case measure => simp only [intOf]; omega
                case rel => exact ⟨(k1 + 1) + 1, ups ts' j, by omega, congrArg (Value.int .i64) (by omega), by go_num, HT3, HR3, H9⟩
              · have p3 : (z j' == z j) = false := beq_eq_false_iff_ne.2 hzz
                clear hzz
                go_wp2_with fail
                go_quiet (fail)
                clear a0 a2 b0 b2 p0 p1 p2 p3 hw1
                have HT2 := Lib.hid (HT1.out.bel' (below_drewN' (Below.refl V.heap.size V) nq))
                have HR2 := Lib.hid (own_turns HR1.out (.of_below (S := fun _ => False) (below_drewN' (Below.refl V.heap.size V) nq)) (fun _ _ => id))
                have W2 := W1.drewN nq
                clear W1 HT1 HR1
                generalize V.drewN nq = V at *
                have a2 := W2.cell 2
                simp only [List.getElem?_cons_succ, List.getElem?_cons_zero] at a2
                have d1 := HT2.out.row.cell j
                have z1 := HT2.out.row.fz j
                rw [bl_at ts' f1, F4.out] at d1
                go_wp2_with fail
                have HT3 := Lib.hid (HT2.out.mark j)
                have HR3 := Lib.hid (own_turns HR2.out (Turns.of_set (S := fun i => i = tb) V ⟨tb, j, none⟩ (.bool true) rfl) (fun g hg e => by have := (own_lo HR2.out hg).1; omega))
                go_roundw
                case measure => simp only [intOf]; omega
                case rel => exact ⟨(k1 + 1) + 1, ups ts' j, by omega, congrArg (Value.int .i64) (by omega), by go_num, HT3, HR3, H9⟩
          · obtain rfl : ow = ⟨#[97]⟩ := by rw [ho.out, if_neg hj2]
            have q5 : ((j : Int).tmod 2 == 1) = false := by rw [beq_eq_false_iff_ne, ne_eq, Int.tmod_eq_emod_of_nonneg (by omega)]; omega
            have q6 : ((j : Int) % 2 == 1) = false := by rw [beq_eq_false_iff_ne]; omega
            clear ho hj2
            go_wp2_with fail
            have W0 := Blk.new wr 31 [.int .i64 (z j), .string ⟨#[97]⟩, .int .i64 (j : Int)]
            have hB0 := Below.new wr (.cells #[.int .i64 (z j), .string ⟨#[97]⟩, .int .i64 (j : Int)] 31)
            have HT0 := Lib.hid (hT.out.bel' hB0)
            have HR0 := Lib.hid (own_turns hR.out (.of_below (S := fun _ => False) hB0) (fun _ _ => id))
            clear hT hR b0 b1 b2 hB0
            generalize wr.alloc (.cells #[.int .i64 (z j), .string ⟨#[97]⟩, .int .i64 (j : Int)] 31) = V at *
            generalize wr.heap.size = bx at *
            have a0 := W0.cell 0
            have a1 := W0.cell 1
            have a2 := W0.cell 2
            simp only [List.getElem?_cons_succ, List.getElem?_cons_zero] at a0 a1 a2
            have d1 := HT0.out.row.cell j
            rw [bl_at ts' f1, F4.out] at d1
            obtain ⟨y', e, _, d2⟩ := (I0.out.bel HT0.out.bel).cell j f1
            injection e with e
            subst e
            obtain ⟨x', e, _, d3⟩ := (I1.out.bel HT0.out.bel).cell i hli
            injection e with e
            subst e
            go_quiet (fail)
            have HT1 := Lib.hid (HT0.out.bel' (below_drewN' (Below.refl V.heap.size V) nq))
            have HR1 := Lib.hid (own_turns HR0.out (.of_below (S := fun _ => False) (below_drewN' (Below.refl V.heap.size V) nq)) (fun _ _ => id))
            have W1 := W0.drewN nq
            clear W0 HT0 HR0 a0 a1 a2 d1 d2 d3 q0 q1 q2 q3 q5 q6
            generalize V.drewN nq = V at *
            have a0 := W1.cell 0
            have a2 := W1.cell 2
            simp only [List.getElem?_cons_succ, List.getElem?_cons_zero] at a0 a2
            by_cases hk0 : k = 0
            · obtain rfl : k = 0 := by omega
              go_wp2_with fail
              go_quiet (fail)
              clear a0 a2
              have HT2 := Lib.hid (HT1.out.bel' (below_drewN' (Below.refl V.heap.size V) nq))
              have HR2 := Lib.hid (own_turns HR1.out (.of_below (S := fun _ => False) (below_drewN' (Below.refl V.heap.size V) nq)) (fun _ _ => id))
              have W2 := W1.drewN nq
              clear W1 HT1 HR1
              generalize V.drewN nq = V at *
              have a2 := W2.cell 2
              simp only [List.getElem?_cons_succ, List.getElem?_cons_zero] at a2
              have d1 := HT2.out.row.cell j
              have z1 := HT2.out.row.fz j
              rw [bl_at ts' f1, F4.out] at d1
              go_wp2_with fail
              have HT3 := Lib.hid (HT2.out.mark j)
              have HR3 := Lib.hid (own_turns HR2.out (Turns.of_set (S := fun i => i = tb) V ⟨tb, j, none⟩ (.bool true) rfl) (fun g hg e => by have := (own_lo HR2.out hg).1; omega))
              go_roundw
              case measure => simp only [intOf]; omega
              case rel => exact ⟨0 + 1, ups ts' j, by omega, congrArg (Value.int .i64) (by omega), by go_num, HT3, HR3, H9⟩
            · obtain ⟨k1, rfl⟩ : ∃ k1, k = k1 + 1 := ⟨k - 1, by omega⟩
              have hk1 : k1 < ls.length := by omega
              have hpv := HD.out.prev hlt
              have hx1 := (h7.out.sub ls[k1] (HD.out.perm.mem_iff.1 (List.mem_append_left _ (List.getElem_mem hk1)))).2
              have hx2 := congrArg Th.key F2.out
              have hx3 := congrArg Th.num F2.out
              rw [hx2, hx3, show ls[k1].key = z ls[k1].num from congrArg Th.key hx1] at hpv
              simp only [tim] at hpv
              obtain ⟨b0, _, b2⟩ := tim_cells HR1.out rfl k1 hk1 hx1
              clear hx1 hx2 hx3
              generalize ls[k1].num = j' at *
              have p0 : decide (z j < z j') = false := decide_eq_false (by omega)
              have p1 : z j' = z j → decide ((j : Int) < (j' : Int)) = false := fun e => decide_eq_false (by omega)
              have p2 : z j' = z j → decide (j < j') = false := fun e => decide_eq_false (by omega)
              have hw1 : IntKind.i64.wrap ((k1 : Int) + 1 - 1) = (k1 : Int) := by rw [IntWalk.i64_in _ (by omega)]; omega
              have hk1I : (k1 : Int) < (ls.length : Int) := by omega
              clear hpv
              by_cases hzz : z j' = z j
              · have p1 := p1 hzz
                have p2 := p2 hzz
                have p3 : (z j' == z j) = true := beq_iff_eq.2 hzz
                clear hzz
                go_wp2_with fail
                go_quiet (fail)
                clear a0 a2 b0 b2 p0 p1 p2 p3 hw1
                have HT2 := Lib.hid (HT1.out.bel' (below_drewN' (Below.refl V.heap.size V) nq))
                have HR2 := Lib.hid (own_turns HR1.out (.of_below (S := fun _ => False) (below_drewN' (Below.refl V.heap.size V) nq)) (fun _ _ => id))
                have W2 := W1.drewN nq
                clear W1 HT1 HR1
                generalize V.drewN nq = V at *
                have a2 := W2.cell 2
                simp only [List.getElem?_cons_succ, List.getElem?_cons_zero] at a2
                have d1 := HT2.out.row.cell j
                have z1 := HT2.out.row.fz j
                rw [bl_at ts' f1, F4.out] at d1
                go_wp2_with fail
                have HT3 := Lib.hid (HT2.out.mark j)
                have HR3 := Lib.hid (own_turns HR2.out (Turns.of_set (S := fun i => i = tb) V ⟨tb, j, none⟩ (.bool true) rfl) (fun g hg e => by have := (own_lo HR2.out hg).1; omega))
                go_roundw
                case measure => simp only [intOf]; omega
                case rel => exact ⟨(k1 + 1) + 1, ups ts' j, by omega, congrArg (Value.int .i64) (by omega), by go_num, HT3, HR3, H9⟩
              · have p3 : (z j' == z j) = false := beq_eq_false_iff_ne.2 hzz
                clear hzz
                go_wp2_with fail
                go_quiet (fail)
                clear a0 a2 b0 b2 p0 p1 p2 p3 hw1
                have HT2 := Lib.hid (HT1.out.bel' (below_drewN' (Below.refl V.heap.size V) nq))
                have HR2 := Lib.hid (own_turns HR1.out (.of_below (S := fun _ => False) (below_drewN' (Below.refl V.heap.size V) nq)) (fun _ _ => id))
                have W2 := W1.drewN nq
                clear W1 HT1 HR1
                generalize V.drewN nq = V at *
                have a2 := W2.cell 2
                simp only [List.getElem?_cons_succ, List.getElem?_cons_zero] at a2
                have d1 := HT2.out.row.cell j
                have z1 := HT2.out.row.fz j
                rw [bl_at ts' f1, F4.out] at d1
                go_wp2_with fail
                have HT3 := Lib.hid (HT2.out.mark j)
                have HR3 := Lib.hid (own_turns HR2.out (Turns.of_set (S := fun i => i = tb) V ⟨tb, j, none⟩ (.bool true) rfl) (fun g hg e => by have := (own_lo HR2.out hg).1; omega))
                go_roundw
                case measure => simp only [intOf]; omega
                case rel => exact ⟨(k1 + 1) + 1, ups ts' j, by omega, congrArg (Value.int .i64) (by omega), by go_num, HT3, HR3, H9⟩
        · have hlt2 : ¬ (k : Int) < (ls.length : Int) := by omega
          obtain rfl : k = ls.length := by omega
          have H10 := Lib.hid (h8.out.done h7.out HD.out HA.out HLa.out)
          have hnx := Lib.hid (nextTab wr t p v3 M A ys n hT.out.tab)
          clear h8 hlt hk
          go_wp2_with fail
          refine hnx.out.mono ?_
          rintro e w4 ⟨rfl, hb⟩
          have HT4 := Lib.hid (hT.out.bel' hb)
          have HLen := Lib.hid (lenTab w4 t p v3 M A ys n HT4.out.tab)
          obtain ⟨x', e, _, d3⟩ := (I1.out.bel HT4.out.bel).cell i hli
          injection e with e
          subst e
          clear hT hb hnx
          have HN4 : Hid (ys.length ≤ n) := Lib.hid (by have := HX.out; omega)
          have hx1 : (xs.length : Int) - (ls.length : Int) = (ys.length : Int) := by have := HX.out; omega
          by_cases hy0 : 0 < ys.length
          · rw [nk_pos hy0, isB_pos hy0]
            have q0 : ¬ (gT ys 0).key ≤ g i := by have := HLa.out _ (mem_gT hy0); omega
            have q1 : decide ((gT ys 0).key ≤ g i) = false := decide_eq_false q0
            have hy1 : (0 : Int) < (ys.length : Int) := by omega
            clear q0
            go_wp2_with (go_at_call 13; refine HLen.out.mono ?_; rintro e w' ⟨rfl, rfl⟩)
            go_roundw
            case measure => simp only [intOf]; omega
            case rel => exact ⟨i + 1, v3, ys, ts', by omega, rfl, by go_num, HN4, HT4, H10⟩
          · obtain rfl : ys = [] := List.eq_nil_of_length_eq_zero (by omega)
            rw [isB_nil]
            clear hy0
            go_wp2_with (go_at_call 13; refine HLen.out.mono ?_; rintro e w' ⟨rfl, rfl⟩)
            go_roundw
            case measure => simp only [intOf]; omega
            case rel => exact ⟨i + 1, v3, [], ts', by omega, rfl, by go_num, HN4, HT4, H10⟩
    · have hli1 : ¬ (i : Int) < (m : Int) := by omega
      obtain rfl : i = m := by omega
      go_wp2_with fail
      go_loopw [15, 16, 17] (fun jv _ _ wq => ∃ j : Nat, j ≤ n ∧ jv = .int .i64 (j : Int) ∧ Hid (TW w wq t p v M A xs n tb ts)) (fun jv _ _ _ => n - (intOf jv).toNat)
      case atStart => exact ⟨0, by omega, rfl, hT⟩
      case round =>
        clear hT
        obtain ⟨j, hj, rfl, hT⟩ := hrel
        by_cases hjn : j < n
        · have hjn1 : (j : Int) < (n : Int) := by omega
          go_wp2_with fail
          go_loopw [16, 17] (fun bv kv wq => ∃ k : Nat, k ≤ i ∧ bv = .bool (lateB z g j k) ∧ kv = .int .i64 (k : Int) ∧ Hid (TW w wq t p v M A xs n tb ts)) (fun _ kv _ => i - (intOf kv).toNat)
          case atStart => exact ⟨0, by omega, rfl, rfl, hT⟩
          case round =>
            clear hT
            obtain ⟨k, hk, rfl, rfl, hT⟩ := hrel
            by_cases hki : k < i
            · have hki1 : (k : Int) < (i : Int) := by omega
              obtain ⟨y, rfl, _, c0⟩ := (I0.out.bel hT.out.bel).cell j hjn
              obtain ⟨x, rfl, _, c1⟩ := (I1.out.bel hT.out.bel).cell k hki
              have HL : Hid (lateB z g j (k + 1) = (lateB z g j k || decide (z j ≤ g k))) := Lib.hid rfl
              generalize hb : lateB z g j k = b at *
              clear hb
              cases b with
              | true =>
                go_wp2_with fail
                go_quiet (fail)
                have HT2 := Lib.hid (hT.out.bel' (below_drewN' (Below.refl wr.heap.size wr) nq))
                go_wp2_with fail
                go_roundw
                case measure => simp only [intOf]; omega
                case rel => exact ⟨k + 1, by omega, by rw [HL.out]; rfl, by go_num, HT2⟩
              | false =>
                by_cases hz : z j ≤ g k
                · have q1 : decide (z j ≤ g k) = true := decide_eq_true hz
                  go_wp2_with fail
                  go_quiet (fail)
                  have HT2 := Lib.hid (hT.out.bel' (below_drewN' (Below.refl wr.heap.size wr) nq))
                  go_wp2_with fail
                  go_roundw
                  case measure => simp only [intOf]; omega
                  case rel => exact ⟨k + 1, by omega, by rw [HL.out, q1]; rfl, by go_num, HT2⟩
                · have q1 : decide (z j ≤ g k) = false := decide_eq_false hz
                  go_wp2_with fail
                  go_quiet (fail)
                  have HT2 := Lib.hid (hT.out.bel' (below_drewN' (Below.refl wr.heap.size wr) nq))
                  go_wp2_with fail
                  go_roundw
                  case measure => simp only [intOf]; omega
                  case rel => exact ⟨k + 1, by omega, by rw [HL.out, q1]; rfl, by go_num, HT2⟩
            · have hki1 : ¬ (k : Int) < (i : Int) := by omega
              obtain rfl : k = i := by omega
              have d1 := hT.out.row.cell j
              rw [bl_at ts hjn, h7.out.same j hjn] at d1
              go_wp2_with fail
              go_roundw
              case measure => simp only [intOf]; omega
              case rel => exact ⟨j + 1, by omega, by go_num, hT⟩
        · have hjn1 : ¬ (j : Int) < (n : Int) := by omega
          go_wp2_with fail
          go_ret
          exact ⟨rfl, hT.out.bel⟩
end Go.Proofs.Yteondokncalbnaa
