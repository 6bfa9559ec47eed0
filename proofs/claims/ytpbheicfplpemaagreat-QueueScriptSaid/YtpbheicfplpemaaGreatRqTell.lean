/- The document's queue (prompterref22): Waits, Expire, Outs, Next, Same. -/
import Derived.Test.YtpbheicfplpemaaGreatRqMem
import Derived.Test.YtpbheicfplpemaaGreatQuNext
import Derived.Test.YtpbheicfplpemaaGreatQuTellE
namespace Go.Proofs.YtpbheicfplpemaaGreat
open Go.RowKit

set_option maxRecDepth 20000 in
set_option maxHeartbeats 4000000 in
theorem rqWaits (w : World) (r : Nat) (most grace last : Int) (iv av : Value) (I Z : List Ot) (h : RQ w r most grace last iv av I Z) :
    Calls Tryz.prog 31 #[.pointer (some ⟨r, 0, none⟩)] w fun e W' => ∃ v, e = .returned v ∧ W'.ownsRow w.heap.size 9 1 v I.length (I.map fun t => .string t.tk.key) ∧ Below w.heap.size w W' := by
  obtain ⟨i0, hi, hz0, hz1, hz2⟩ := info_parts info_str
  have HH := Lib.hid h
  have hfew := h.few.1
  obtain ⟨A, c, rfl⟩ := own_slice' h.idle
  clear h
  go_enter Tryz.func31, Tryz.ntmps31
  go_wp2_with fail
  go_loopw [3, 4] (fun out iv wr => ∃ k : Nat, k ≤ I.length ∧ iv = .int .i64 (k : Int) ∧ Hid (wr.ownsRow w.heap.size 9 1 out k ((I.map fun t => Value.string t.tk.key).take k)) ∧ Hid (Below w.heap.size w wr)) (fun _ iv _ => I.length - (intOf iv).toNat)
  case atStart => exact ⟨0, by omega, rfl, Lib.hid (by simpa using World.ownsRow_nil _ _ _ _), Lib.hid (Below.refl _ _)⟩
  case round =>
    obtain ⟨k, hk, rfl, hO, hB⟩ := hrel
    have hX := Lib.hid (HH.out.bel hB.out)
    obtain ⟨_, _, _, q3, _⟩ := hX.out.cells
    by_cases hlt : k < I.length
    · have hlt1 : (k : Int) < (I.length : Int) := by omega
      obtain ⟨g, c0, he, hvb, hg, hnc, hcm⟩ := own_at hX.out.idle (by omega)
      injection he with he1 he2 he3
      subst he1 he3
      have hc0 := rq_cells hX.out.idle rfl k hlt 0 (by omega)
      simp only [otC, List.getElem?_cons_zero, Nat.add_zero] at hc0
      have HSn : Hid ((I.map fun t => Value.string t.tk.key).take (k + 1) = (I.map fun t => Value.string t.tk.key).take k ++ [.string (I[k]).tk.key]) := Lib.hid (by rw [List.take_succ_eq_append_getElem (by simpa using hlt), List.getElem_map])
      generalize I[k] = y at *
      obtain ⟨A2, c2, rfl⟩ := own_slice' hO.out
      have hbz := Below.new wr (.cells #[.string y.tk.key] 9)
      have HA := Lib.hid (own_turns hO.out (.of_below (S := fun _ => False) hbz) (fun _ _ => id))
      have HN := Lib.hid (Blk.news (Blk.new wr 9 [.string y.tk.key]))
      have HBA := Lib.hid (hB.out.trans (hbz.mono hB.out.size))
      have HM1 : Hid (k + 1 ≤ maxLen) := Lib.hid (by unfold maxLen; omega)
      have HM2 : Hid ((k + 1) * 16 ≤ 140737488355328) := Lib.hid (by omega)
      have hkc : k < c := by omega
      unfold maxLen at hcm
      clear hbz
      go_wp2_with (at_builtin; refine wpList_append_own_at _ rfl _ _ 68 rfl w.heap.size 9 i0 (.string ⟨#[]⟩) 1 16 Tryz.underlying68 hi hz0 hz1 hz2 rfl (by decide) _ _ _ rfl HA.out ⟨wr.heap.size, 0, none⟩ 1 1 [.string y.tk.key] rfl rfl HN.out (by intro u hu; simp at hu; subst hu; rfl) HM1.out HM2.out HBA.out.size ?_; intro v1 y1 hown hgr _ _)
      go_roundw
      case measure => simp [intOf]; omega
      case rel => exact ⟨k + 1, by omega, by go_num, Lib.hid (by rw [HSn.out]; exact hown), Lib.hid (HBA.out.grown hgr HBA.out.size (fun r e => (HA.out.lt r e).1))⟩
    · obtain rfl : k = I.length := by omega
      have hlt1 : ¬ (I.length : Int) < (I.length : Int) := by omega
      have hO2 := hO.out
      rw [List.take_of_length_le (by simp)] at hO2
      have HO2 := Lib.hid hO2
      clear hO hO2
      obtain ⟨A2, c2, rfl⟩ := own_slice' HO2.out
      go_wp2_with fail
      go_ret
      exact ⟨_, rfl, HO2.out, hB.out⟩
set_option maxRecDepth 20000 in
set_option maxHeartbeats 4000000 in
theorem rqExpire (w : World) (r : Nat) (most grace last : Int) (iv av : Value) (I Z : List Ot) (h : RQ w r most grace last iv av I Z) (now : Int) :
    Calls Tryz.prog 60 #[.pointer (some ⟨r, 0, none⟩), .int .i64 now] w fun e W' => ∃ v, e = .returned v ∧ W'.ownsRow w.heap.size 74 3 v (Z.filter (over now)).length ((Z.filter (over now)).flatMap ouC) ∧ Below w.heap.size w W' := by
  obtain ⟨i0, hi, hz0, hz1, hz2⟩ := info_parts info_api
  have HH := Lib.hid h
  have hfew := h.few.2
  obtain ⟨A, c, rfl⟩ := own_slice' h.away
  clear h
  go_enter Tryz.func60, Tryz.ntmps60
  go_wp2_with fail
  go_loopw [5, 6] (fun out iv wr => ∃ (k n : Nat), k ≤ Z.length ∧ n ≤ k ∧ iv = .int .i64 (k : Int) ∧ Hid (((Z.take k).filter (over now)).length = n) ∧ Hid (wr.ownsRow w.heap.size 74 3 out n (((Z.take k).filter (over now)).flatMap ouC)) ∧ Hid (Below w.heap.size w wr)) (fun _ iv _ => Z.length - (intOf iv).toNat)
  case atStart => exact ⟨0, 0, by omega, by omega, rfl, Lib.hid (by simp), Lib.hid (by simpa using World.ownsRow_nil _ _ _ _), Lib.hid (Below.refl _ _)⟩
  case round =>
    obtain ⟨k, n, hk, hnk, rfl, HN0, hO, hB⟩ := hrel
    have hX := Lib.hid (HH.out.bel hB.out)
    obtain ⟨_, _, _, _, q4⟩ := hX.out.cells
    by_cases hlt : k < Z.length
    · have hlt1 : (k : Int) < (Z.length : Int) := by omega
      obtain ⟨g, c0, he, hvb, hg, hnc, hcm⟩ := own_at hX.out.away (by omega)
      injection he with he1 he2 he3
      subst he1 he3
      have hx := rq_cells hX.out.away rfl k hlt
      have d0 := hx 0 (by omega)
      have d1 := hx 1 (by omega)
      have d2 := hx 2 (by omega)
      have d3 := hx 3 (by omega)
      have d4 := hx 4 (by omega)
      have d5 := hx 5 (by omega)
      have d6 := hx 6 (by omega)
      have HSn : Hid ((Z.take (k + 1)).filter (over now) = (Z.take k).filter (over now) ++ (if over now Z[k] then [Z[k]] else [])) := Lib.hid (by rw [List.take_succ_eq_append_getElem hlt, List.filter_append]; congr 1; by_cases ho : over now Z[k] = true <;> simp [ho])
      clear hx
      generalize Z[k] = x at *
      simp only [otC, List.getElem?_cons_succ, List.getElem?_cons_zero, Nat.add_zero] at d0 d1 d2 d3 d4 d5 d6
      obtain ⟨A2, c2, rfl⟩ := own_slice' hO.out
      have hbx := Below.new wr (.cells #[.string x.tk.key, .string x.tk.sticky, .int .i64 x.tk.ready, .int .i64 x.tk.att, .int .i64 x.token, .string x.worker, .int .i64 x.until_] 64)
      have KX := Lib.hid (Blk.new wr 64 [.string x.tk.key, .string x.tk.sticky, .int .i64 x.tk.ready, .int .i64 x.tk.att, .int .i64 x.token, .string x.worker, .int .i64 x.until_])
      have HX := Lib.hid (own_turns hO.out (.of_below (S := fun _ => False) hbx) (fun _ _ => id))
      have BX := Lib.hid (hB.out.trans (hbx.mono hB.out.size))
      unfold maxLen at hcm
      clear hbx
      go_upto_region 6 with (fail)
      clear d0 d1 d2 d3 d4 d5 d6 q4
      generalize wr.alloc (.cells #[.string x.tk.key, .string x.tk.sticky, .int .i64 x.tk.ready, .int .i64 x.tk.att, .int .i64 x.token, .string x.worker, .int .i64 x.until_] 64) = X at *
      have u0 := KX.out.cell 0
      have u3 := KX.out.cell 3
      have u4 := KX.out.cell 4
      have u6 := KX.out.cell 6
      simp only [List.getElem?_cons_succ, List.getElem?_cons_zero] at u0 u3 u4 u6
      by_cases ho : x.until_ ≤ now
      · have ho1 : decide (x.until_ ≤ now) = true := decide_eq_true ho
        have HF : Hid ((Z.take (k + 1)).filter (over now) = (Z.take k).filter (over now) ++ [x]) := Lib.hid (by rw [HSn.out]; unfold over; rw [if_pos ho1])
        have HN := Lib.hid (Blk.news (Blk.new X 74 (ouC x)))
        have hbz := Below.new X (.cells (ouC x).toArray 74)
        have HA := Lib.hid (own_turns HX.out (.of_below (S := fun _ => False) hbz) (fun _ _ => id))
        have HBA := Lib.hid (BX.out.trans (hbz.mono BX.out.size))
        have HM1 : Hid (n + 1 ≤ maxLen) := Lib.hid (by unfold maxLen; omega)
        have HM2 : Hid ((n + 1) * 32 ≤ 140737488355328) := Lib.hid (by omega)
        clear hbz ho
        go_wp2_with (at_builtin; refine wpList_append_own_at _ rfl _ _ 70 rfl w.heap.size 74 i0 _ 3 32 Tryz.underlying70 hi hz0 hz1 hz2 rfl (by decide) _ _ _ rfl HA.out ⟨X.heap.size, 0, none⟩ 1 1 (ouC x) rfl rfl HN.out (by intro u hu; simp [ouC] at hu; rcases hu with rfl | rfl | rfl <;> rfl) HM1.out HM2.out HBA.out.size ?_; intro v1 y1 hown hgr _ _)
        go_roundw
        case measure => simp [intOf]; omega
        case rel => exact ⟨k + 1, n + 1, by omega, by omega, by go_num, Lib.hid (by rw [HF.out, List.length_append, HN0.out]; rfl), Lib.hid (by rw [HF.out, List.flatMap_append]; simpa using hown), Lib.hid (HBA.out.grown hgr HBA.out.size (fun r e => (HA.out.lt r e).1))⟩
      · have ho1 : decide (x.until_ ≤ now) = false := decide_eq_false ho
        have HF : Hid ((Z.take (k + 1)).filter (over now) = (Z.take k).filter (over now)) := Lib.hid (by rw [HSn.out]; unfold over; rw [ho1]; simp)
        clear ho
        go_wp2_with fail
        go_roundw
        case measure => simp [intOf]; omega
        case rel => exact ⟨k + 1, n, by omega, by omega, by go_num, Lib.hid (by rw [HF.out, HN0.out]), Lib.hid (by rw [HF.out]; exact HX.out), BX⟩
    · obtain rfl : k = Z.length := by omega
      have hlt1 : ¬ (Z.length : Int) < (Z.length : Int) := by omega
      have h3 := HN0.out
      rw [List.take_length] at h3
      subst h3
      have hO2 := hO.out
      rw [List.take_length] at hO2
      have HO2 := Lib.hid hO2
      clear hO HN0
      obtain ⟨A2, c2, rfl⟩ := own_slice' hO2
      clear hO2
      go_wp2_with fail
      go_ret
      exact ⟨_, rfl, HO2.out, hB.out⟩
set_option maxRecDepth 20000 in
set_option maxHeartbeats 4000000 in
theorem rqNext (w : World) (r : Nat) (most grace last : Int) (iv av : Value) (I Z : List Ot) (h : RQ w r most grace last iv av I Z) :
    Calls Tryz.prog 36 #[.pointer (some ⟨r, 0, none⟩)] w fun e W' => e = .returned (.tuple #[.int .i64 (minU Z), .bool (decide (0 < Z.length))]) ∧ Below w.heap.size w W' := by
  have HH := Lib.hid h
  have hfew := h.few.2
  obtain ⟨A, c, rfl⟩ := own_slice' h.away
  obtain ⟨_, _, _, _, c4⟩ := h.cells
  cases Z with
  | nil =>
    clear h
    go_enter Tryz.func36, Tryz.ntmps36
    go_wp2_with fail
    go_ret2
    exact ⟨rfl, Below.refl _ _⟩
  | cons z zs =>
    obtain ⟨Z, hZ⟩ : ∃ Z, z :: zs = Z := ⟨_, rfl⟩
    have hz0 : minU (Z.take 1) = z.until_ := by subst hZ; rfl
    have hpos : 0 < Z.length := by subst hZ; simp
    have hz1 : Z[0] = z := by subst hZ; rfl
    rw [hZ] at c4 HH hfew h ⊢
    clear hZ
    obtain ⟨g, c0, he, hvb, hg, hnc, hcm⟩ := own_at h.away (by omega)
    injection he with he1 he2 he3
    subst he1 he3
    have d6 := rq_cells h.away rfl 0 hpos 6 (by omega)
    rw [hz1] at d6
    simp only [otC, List.getElem?_cons_succ, List.getElem?_cons_zero, Nat.zero_mul, Nat.zero_add] at d6
    have hne : ((Z.length : Int) == 0) = false := beq_eq_false_iff_ne.2 (by omega)
    have hpos1 : (0 : Int) < (Z.length : Int) := by omega
    have HP : Hid (decide (0 < Z.length) = true) := Lib.hid (decide_eq_true hpos)
    unfold maxLen at hcm
    clear h
    go_enter Tryz.func36, Tryz.ntmps36
    go_wp2_with fail
    go_loopw [4, 5] (fun lv iv wr => ∃ k : Nat, 0 < k ∧ k ≤ Z.length ∧ iv = .int .i64 (k : Int) ∧ lv = .int .i64 (minU (Z.take k)) ∧ Hid (Below w.heap.size w wr)) (fun _ iv _ => Z.length - (intOf iv).toNat)
    case atStart => exact ⟨1, by omega, by omega, rfl, by rw [hz0], Lib.hid (Below.refl _ _)⟩
    case round =>
      obtain ⟨k, hk0, hk, rfl, rfl, hB⟩ := hrel
      have hX := Lib.hid (HH.out.bel hB.out)
      obtain ⟨_, _, _, _, q4⟩ := hX.out.cells
      by_cases hlt : k < Z.length
      · have hlt1 : (k : Int) < (Z.length : Int) := by omega
        have e6 := rq_cells hX.out.away rfl k hlt 6 (by omega)
        have HSn := Lib.hid (minU_at hlt)
        have HE : Hid (minU (Z.take (k + 1)) = min (minU (Z.take k)) (Z[k]).until_) := Lib.hid (by rw [HSn.out, if_neg (by omega)])
        clear HSn d6 c4
        generalize Z[k] = y at *
        generalize minU (Z.take k) = m at *
        simp only [otC, List.getElem?_cons_succ, List.getElem?_cons_zero] at e6
        go_wp2_with fail
        exact ⟨⟨k + 1, by omega, by omega, by go_num, by rw [HE.out], hB⟩, by simp [intOf]; omega⟩
      · obtain rfl : k = Z.length := by omega
        have hlt1 : ¬ (Z.length : Int) < (Z.length : Int) := by omega
        have HT : Hid (Z.take Z.length = Z) := Lib.hid List.take_length
        rw [HT.out]
        go_wp2_with fail
        go_ret2
        exact ⟨by first | rfl | (rw [HP.out]; rfl), hB.out⟩
set_option maxRecDepth 20000 in
theorem rqOuts (w : World) (r : Nat) (most grace last : Int) (iv av : Value) (I Z : List Ot) (h : RQ w r most grace last iv av I Z) (hu : ∀ x ∈ Z, x.until_ ≤ 9223372036854775807) :
    Calls Tryz.prog 34 #[.pointer (some ⟨r, 0, none⟩)] w fun e W' => ∃ v, e = .returned v ∧ W'.ownsRow w.heap.size 74 3 v Z.length (Z.flatMap ouC) ∧ Below w.heap.size w W' := by
  have HE := Lib.hid (rqExpire w r most grace last iv av I Z h 9223372036854775807)
  have hf : Z.filter (over 9223372036854775807) = Z := by
    rw [List.filter_eq_self]
    intro x hx
    exact decide_eq_true (hu x hx)
  rw [hf] at HE
  clear h hu hf
  go_enter Tryz.func34, Tryz.ntmps34
  go_wp2_with fail
  refine HE.out.mono ?_
  rintro e w2 ⟨v2, rfl, hown, hb⟩
  obtain ⟨A2, c2', rfl⟩ := own_slice' hown
  have HO := Lib.hid hown
  have HB := Lib.hid hb
  clear hown hb
  go_wp2_with fail
  go_ret
  exact ⟨_, rfl, HO.out, HB.out⟩
/-- the cells of the k-th of those that are told -/
theorem ouc_cells {w : World} {base n g cap : Nat} {zs : List Ot} (h : w.ownsRow base 74 3 (.slice (some ⟨g, 0, none⟩) n cap) n (zs.flatMap ouC)) (hn : zs.length = n) (k : Nat) (hk : k < zs.length) : ∀ j, j < 3 → w.cell? ⟨g, k * 3 + j, none⟩ = (ouC zs[k])[j]? := fun j hj => by
  rw [h.cellAt _ (by omega), flat_get ouC 3 ouC_len zs k j hj, List.getElem?_eq_getElem hk]
  rfl
theorem oueq (a : ByteArray) (b c : Int) (w : World) : (Op.equalIn 10000 74 (.agg #[.string a, .int .i64 b, .int .i64 c]) (.agg #[.string a, .int .i64 b, .int .i64 c])).run Tryz.prog w = .ok true w := by
  rw [run_equalIn_struct w 9999 _ _ _ (by kernel_rfl) (by kernel_rfl)]
  simp [Program.fieldsOf, Tryz.underlying74, Op.eqFields, go_sem]
set_option maxRecDepth 20000 in
set_option maxHeartbeats 1600000 in
theorem rqSame (w : World) (b1 b2 n : Nat) (v1 v2 : Value) (L : List Ot) (hn : L.length = n) (h1 : w.ownsRow b1 74 3 v1 n (L.flatMap ouC)) (h2 : w.ownsRow b2 74 3 v2 n (L.flatMap ouC)) :
    Calls Tryz.prog 33 #[v1, v2] w fun e w' => e = .returned (.bool true) ∧ ∃ n, w' = w.drewN n := by
  have H1 := Lib.hid h1
  have H2 := Lib.hid h2
  have HN := Lib.hid hn
  obtain ⟨A1, c1, rfl⟩ := own_slice' h1
  obtain ⟨A2, c2, rfl⟩ := own_slice' h2
  clear h1 h2 hn
  go_enter Tryz.func33, Tryz.ntmps33
  go_wp2_with fail
  go_loopw [5] (fun i wr => ∃ (k m : Nat), i = .int .i64 (k : Int) ∧ k ≤ n ∧ wr = w.drewN m) (fun i _ => n - (intOf i).toNat)
  case atStart => exact ⟨0, 0, rfl, Nat.zero_le _, rfl⟩
  case round =>
    obtain ⟨k, m, rfl, hk, rfl⟩ := hrel
    by_cases hlt : k < n
    · have hlt1 : (k : Int) < (n : Int) := by omega
      have n0 : ¬ ((k : Int) < 0) := by omega
      obtain ⟨g1, d1, he, _, hg1, hc1, hm1⟩ := own_at H1.out (by omega)
      injection he with he1 he2 he3
      subst he1 he3
      obtain ⟨g2, d2, he, _, hg2, hc2, hm2⟩ := own_at H2.out (by omega)
      injection he with he1 he2 he3
      subst he1 he3
      have q1 := ouc_cells H1.out HN.out k (by rw [HN.out]; exact hlt)
      have q2 := ouc_cells H2.out HN.out k (by rw [HN.out]; exact hlt)
      have p0 := q1 0 (by omega)
      have p1 := q1 1 (by omega)
      have p2 := q1 2 (by omega)
      have r0 := q2 0 (by omega)
      have r1 := q2 1 (by omega)
      have r2 := q2 2 (by omega)
      simp only [ouC, Nat.add_zero, List.getElem?_cons_succ, List.getElem?_cons_zero] at p0 p1 p2 r0 r1 r2
      unfold maxLen at hm1 hm2
      clear q1 q2
      have hq := oueq (L[k]'(by rw [HN.out]; exact hlt)).tk.key (L[k]'(by rw [HN.out]; exact hlt)).token (L[k]'(by rw [HN.out]; exact hlt)).tk.att
      generalize (L[k]'(by rw [HN.out]; exact hlt)) = y at *
      go_wp2_with fail
      go_quiet (fail)
      go_wp2_with fail
      go_roundw
      case rel => exact ⟨k + 1, m + nq, by go_num, by omega, rfl⟩
      case measure => simp [intOf]; omega
    · have hlt1 : ¬ (k : Int) < (n : Int) := by omega
      go_wp2_with fail
      go_ret
      exact ⟨rfl, m, rfl⟩
end Go.Proofs.YtpbheicfplpemaaGreat
