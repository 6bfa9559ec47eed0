/- wal: record: what becomes of something that is saved, as bytes. -/
import Derived.Test.YteihedfmmiihiaaGreatWlApply
import Derived.Lib.SlicesS
namespace Go.Proofs.YteihedfmmiihiaaGreat
open Go.RowKit

theorem eq_en (x y : En) (w : World) : (Op.equalIn 10000 29 (.agg #[.int .i64 x.term, .string x.data]) (.agg #[.int .i64 y.term, .string y.data])).run Tryz.prog w = .ok (decide (x = y)) w := by
  rw [run_equalIn_struct w 9999 _ _ _ (by kernel_rfl) (by kernel_rfl)]
  simp [Program.fieldsOf, Tryz.underlying29, Op.eqFields, go_sem]
  have hd : x.data.toList = y.data.toList ↔ x.data = y.data := by
    rw [ByteArray.toList_eq, ByteArray.toList_eq]
    exact ⟨fun h => ByteArray.ext (Array.toList_inj.mp h), fun h => by rw [h]⟩
  have he : x = y ↔ x.term = y.term ∧ x.data = y.data := by
    cases x; cases y; simp
  by_cases h1 : x.term = y.term <;> by_cases h2 : x.data = y.data <;> simp [h1, h2, hd, he]
theorem eq_en2 (x y : En) (b : Bool) (hb : decide (x = y) = b) (w : World) : (Op.equalIn 10000 29 (.agg #[.int .i64 x.term, .string x.data]) (.agg #[.int .i64 y.term, .string y.data])).run Tryz.prog w = .ok b w := by
  rw [eq_en, hb]
/-- a slice of entries: its cells, at whatever place -/
theorem lg_at {w : World} {A : Option Addr} {n c : Nat} {L : List En} (h : Lg w A n c L) (k : Nat) (hk : k < L.length) : ∃ g o, A = some ⟨g, o, none⟩ ∧ g < w.heap.size ∧ w.cell? ⟨g, o + k * 2, none⟩ = some (.int .i64 L[k].term) ∧ w.cell? ⟨g, o + k * 2 + 1, none⟩ = some (.string L[k].data) := by
  obtain ⟨g, o, cs, e, hb, h0, h1⟩ := h.ens k hk
  exact ⟨g, o, e, (Array.getElem?_eq_some_iff.1 hb).1, h0, h1⟩
def enG (L : List En) (k : Nat) : En := L.getD k ⟨0, ⟨#[]⟩⟩
theorem enG_of {L : List En} {k : Nat} (h : k < L.length) : L[k] = enG L k := by simp [enG, List.getD, h]
theorem Ens.tail {w : World} {A : Option Addr} {L : List En} (h : Ens w A L) (i : Nat) : Ens w (Option.map (fun x => x.add (i * 2)) A) (L.drop i) := fun k hk => by
  rw [List.length_drop] at hk
  obtain ⟨g, o, cs, rfl, hb, h0, h1⟩ := h (i + k) (by omega)
  have ha : (⟨g, o, none⟩ : Addr).add (i * 2) = ⟨g, o + i * 2, none⟩ := by unfold Addr.add; split <;> simp_all
  refine ⟨g, o + i * 2, cs, by rw [Option.map_some, ha], hb, ?_, ?_⟩
  · rw [show o + i * 2 + k * 2 = o + (i + k) * 2 from by omega, h0, List.getElem_drop]
  · rw [show o + i * 2 + k * 2 + 1 = o + (i + k) * 2 + 1 from by omega, h1, List.getElem_drop]
theorem take_le_len {D : List En} {j : Nat} {b r : List UInt8} (h : r = b ++ D.flatMap enB) : (b ++ (D.take j).flatMap enB).length ≤ r.length := by
  rw [h]
  have e : D.flatMap enB = (D.take j).flatMap enB ++ (D.drop j).flatMap enB := by rw [← List.flatMap_append, List.take_append_drop]
  rw [e]
  simp only [List.length_append]
  omega
theorem take_enB {D : List En} {j : Nat} (h : j < D.length) : (D.take (j + 1)).flatMap enB = (D.take j).flatMap enB ++ enB (enG D j) := by
  rw [List.take_succ_eq_append_getElem h, List.flatMap_append, enG_of h]
  simp
theorem append_b2 (w : World) (H : Nat) (A : Option Addr) (c0 : Nat) (l : List UInt8) (ho : OwnB w H A c0 l) (hH : H ≤ w.heap.size) (B : Option Addr) (m c : Nat) (lb : List UInt8) (hs : Bs w B m lb) (hL : l.length + lb.length ≤ 100000000000) (ty : TypeId) (r : List UInt8) (hr : r = l ++ lb) :
    ∃ A' c' w', (Builtin.append_ #[30, 30] ty #[.slice A l.length c0, .slice B m c]).run Tryz.prog w = .ok (.slice A' r.length c') w' ∧ OwnB w' H A' c' r ∧ Below H w w' ∧ ∀ r t cs, Blk w r t cs → 5 ≠ t → Blk w' r t cs := by
  subst hr
  obtain ⟨A', c', w', h1, h2, h3, _⟩ := append_mine w H _ l ho hH B m c lb hs hL ty
  exact ⟨A', c', w', h1, h2, below_grown ho hH h3, fun r t cs hb ht => (h3.block r hb.lt (fun e => own_ne_blk ho e.symm hb ht rfl)).trans hb⟩
theorem Made.own {w w' : World} {l : List UInt8} {e : Ending} (h : Made w l e w') : ∃ A c, e = .returned (.slice A l.length c) ∧ OwnB w' w.heap.size A c l ∧ Below w.heap.size w w' := by
  obtain ⟨v, rfl, ho, hb⟩ := h
  obtain ⟨A, c, rfl⟩ := own_slice' ho
  exact ⟨A, c, rfl, ho, hb⟩
theorem sum_le : ∀ (l : List En), (∀ x ∈ l, EnOk x) → (l.map fun x => 32 + x.data.size).sum ≤ l.length * 65568
  | [], _ => by simp
  | x :: l, h => by
    have h1 := sum_le l (fun y hy => h y (List.mem_cons_of_mem _ hy))
    have h2 := (h x List.mem_cons_self).data
    simp only [List.map_cons, List.sum_cons, List.length_cons]
    omega
theorem rec_le (was s : Sv) (h : SvOk s) : (recB was s).length ≤ 300000000 := by
  have h1 := recB_len was s h
  have h2 := sum_le s.log h.en
  have h3 := h.log
  unfold wt at h1
  omega
set_option maxRecDepth 200000 in
set_option maxHeartbeats 4000000 in
theorem record_any (w : World) (was s : Sv) (A1 A2 : Option Addr) (n1 c1 n2 c2 : Nat) (h1 : Lg w A1 n1 c1 was.log) (h2 : Lg w A2 n2 c2 s.log) (hs : SvOk s) (hw : was.log.length ≤ 4096) (r : List UInt8) (hr : r = recB was s) :
    Calls Tryz.prog 30 #[svV was.term was.vote A1 n1 c1, svV s.term s.vote A2 n2 c2] w (GiveB w w.heap.size r) := by
  have N1 := h1.len
  have N2 := h2.len
  have B0 := Lib.hid (Below.new2 w (.cells #[.int .i64 was.term, .int .i64 was.vote, .slice A1 n1 c1] 27) (.cells #[.int .i64 s.term, .int .i64 s.vote, .slice A2 n2 c2] 27))
  have K1 := Lib.hid ((Blk.new w 27 [.int .i64 was.term, .int .i64 was.vote, .slice A1 n1 c1]).alloc (.cells #[.int .i64 s.term, .int .i64 s.vote, .slice A2 n2 c2] 27))
  have K2 := Lib.hid (Blk.new2 w (.cells #[.int .i64 was.term, .int .i64 was.vote, .slice A1 n1 c1] 27) 27 [.int .i64 s.term, .int .i64 s.vote, .slice A2 n2 c2])
  have L1 := Lib.hid (h1.bel B0.out)
  have L2 := Lib.hid (h2.bel B0.out)
  have HS := Lib.hid hs
  have HW := Lib.hid hw
  have HR := Lib.hid hr
  have HN1 := Lib.hid N1
  have HN2 := Lib.hid N2
  have HRL := Lib.hid (rec_le was s hs)
  obtain ⟨T, hT⟩ : ∃ T : Nat, s.term = (T : Int) := ⟨s.term.toNat, by have := hs.term; omega⟩
  obtain ⟨V, hV⟩ : ∃ V, s.vote = V := ⟨_, rfl⟩
  have HTl : Hid (T ≤ 1152921504606846976) := Lib.hid (by have := hs.term; omega)
  have HVl : Hid (-1 ≤ V ∧ V ≤ 6) := Lib.hid (by have := hs.vote; omega)
  have HT := Lib.hid hT
  have HV := Lib.hid hV
  rw [hT, hV] at B0 K1 K2 L1 L2 ⊢
  clear hT hV
  clear h1 h2 hs hw hr N1 N2
  unfold svV
  go_enter Tryz.func30, Tryz.ntmps30
  go_upto_region 1 with (fail)
  generalize hg : w.heap.size = g at *
  generalize ((w.alloc (.cells #[.int .i64 was.term, .int .i64 was.vote, .slice A1 n1 c1] 27)).alloc (.cells #[.int .i64 (T : Int), .int .i64 V, .slice A2 n2 c2] 27)) = X at *
  have d1 := K1.out.cell 2
  have d2 := K2.out.cell 2
  simp only [List.getElem?_cons_succ, List.getElem?_cons_zero] at d1 d2
  go_wp2_with fail
  go_loopw [5] (fun iv wr => ∃ (i k : Nat), i ≤ n1 ∧ i ≤ n2 ∧ iv = .int .i64 (i : Int) ∧ wr = X.drewN k ∧ Hid (∀ j, j < i → enG was.log j = enG s.log j)) (fun iv _ => n1 - (intOf iv).toNat)
  case atStart => exact ⟨0, 0, Nat.zero_le _, Nat.zero_le _, rfl, rfl, Lib.hid (fun j hj => absurd hj (Nat.not_lt_zero _))⟩
  case round =>
    obtain ⟨i, k, hi1, hi2, rfl, rfl, hj⟩ := hrel
    have hmx : (i : Int) < 5000 := by have := HW.out; have := HN1.out; omega
    have hcase : (i < n1 ∧ i < n2 ∧ enG was.log i = enG s.log i) ∨ ¬ (i < n1 ∧ i < n2 ∧ enG was.log i = enG s.log i) := Decidable.em _
    rcases hcase with ⟨x1, x2, he⟩ | hno
    · have q1 : (i : Int) < (n1 : Int) := by omega
      have q2 : (i : Int) < (n2 : Int) := by omega
      obtain ⟨g1, o1, rfl, hl1, p0, p1⟩ := lg_at L1.out i (by rw [← HN1.out]; exact x1)
      obtain ⟨g2, o2, rfl, hl2, r0, r1⟩ := lg_at L2.out i (by rw [← HN2.out]; exact x2)
      rw [enG_of] at p0 p1 r0 r1
      have hq := eq_en2 (enG was.log i) (enG s.log i) true (by simpa using he)
      have HE := Lib.hid (show ∀ j, j < i + 1 → enG was.log j = enG s.log j from fun j h => by
        by_cases e : j = i
        · subst e; exact he
        · exact hj.out j (by omega))
      clear he
      generalize enG was.log i = x at *
      generalize enG s.log i = y at *
      go_wp2_with fail
      refine wp_region_quiet_lit (by kernel_rfl) (by kernel_rfl) ?_
      repeat (go_big_quiet_step (fail))
      refine wpQuiet_nil ?_
      rintro _ ⟨nq, rfl⟩
      go_wp2_with fail
      refine ⟨⟨i + 1, k + nq, by omega, by omega, by rw [Int.natCast_add]; rfl, rfl, HE⟩, ?_⟩
      simp [intOf]; omega
    · have hcut : Hid (cutN was.log s.log = i) := Lib.hid (cutN_at _ _ i (fun j j1 j2 hji => by rw [enG_of, enG_of]; exact hj.out j hji) (by rw [← HN1.out]; exact hi1) (by rw [← HN2.out]; exact hi2) (fun j1 j2 e => hno ⟨by rw [HN1.out]; exact j1, by rw [HN2.out]; exact j2, by rw [enG_of, enG_of] at e; exact e⟩))
      have hsp : (decide (i < n1) = false) ∨ ((i : Int) < (n1 : Int) ∧ decide (i < n2) = false) ∨ ∃ (g1 o1 g2 o2 : Nat) (x y : En), (i : Int) < (n1 : Int) ∧ (i : Int) < (n2 : Int) ∧ A1 = some ⟨g1, o1, none⟩ ∧ A2 = some ⟨g2, o2, none⟩ ∧ X.cell? ⟨g1, o1 + i * 2, none⟩ = some (.int .i64 x.term) ∧ X.cell? ⟨g1, o1 + i * 2 + 1, none⟩ = some (.string x.data) ∧ X.cell? ⟨g2, o2 + i * 2, none⟩ = some (.int .i64 y.term) ∧ X.cell? ⟨g2, o2 + i * 2 + 1, none⟩ = some (.string y.data) ∧ ∀ w, (Op.equalIn 10000 29 (.agg #[.int .i64 x.term, .string x.data]) (.agg #[.int .i64 y.term, .string y.data])).run Tryz.prog w = .ok false w := by
        by_cases x1 : i < n1
        · right
          by_cases x2 : i < n2
          · right
            obtain ⟨g1, o1, e1, hl1, p0, p1⟩ := lg_at L1.out i (by rw [← HN1.out]; exact x1)
            obtain ⟨g2, o2, e2, hl2, r0, r1⟩ := lg_at L2.out i (by rw [← HN2.out]; exact x2)
            rw [enG_of] at p0 p1 r0 r1
            have he : ¬ enG was.log i = enG s.log i := fun e => hno ⟨x1, x2, e⟩
            exact ⟨g1, o1, g2, o2, _, _, by omega, by omega, e1, e2, p0, p1, r0, r1, eq_en2 _ _ false (by simpa using he)⟩
          · exact .inl ⟨by omega, decide_eq_false (by omega)⟩
        · exact .inl (decide_eq_false (by omega))
      clear hno hj
      rcases hsp with q1 | ⟨q1, q2⟩ | ⟨g1, o1, g2, o2, x, y, q1, q2, rfl, rfl, p0, p1, r0, r1, hq⟩
      all_goals
        go_wp2_with fail
        refine wp_region_quiet_lit (by kernel_rfl) (by kernel_rfl) ?_
        repeat (go_big_quiet_step (fail))
        refine wpQuiet_nil ?_
        rintro _ ⟨nq, rfl⟩
        go_upto_region 4 with (fail)
        have YB := Lib.hid (below_drewN' (below_drewN' (Below.refl X.heap.size X) k) nq)
        have M2 := Lib.hid (K2.out.bel YB.out)
        clear q1
        generalize (X.drewN k).drewN nq = Y at *
        have e0 := M2.out.cell 0
        have e1 := M2.out.cell 1
        have e2 := M2.out.cell 2
        simp only [List.getElem?_cons_succ, List.getElem?_cons_zero] at e0 e1 e2
        have w1 : IntKind.u64.wrap (T : Int) = (T : Int) := by rw [IntKind.wrap_u64]; have := HTl.out; omega
        have w2 : (T : Int) % 18446744073709551616 = (T : Int) := by have := HTl.out; omega
        go_wp2_with fail
        refine (putUint_any Y T (by have := HTl.out; omega)).mono ?_
        rintro e Y1 hmade
        obtain ⟨A1', a1, rfl, hpi, hpb⟩ := hmade.own
        obtain ⟨b1, hb1⟩ : ∃ b, b = Cd.uB T := ⟨_, rfl⟩
        obtain ⟨x2, hx2⟩ : ∃ b, b = Cd.uB (Cd.zig V) := ⟨_, rfl⟩
        obtain ⟨x3, hx3⟩ : ∃ b, b = Cd.uB i := ⟨_, rfl⟩
        obtain ⟨m, hm⟩ : ∃ m, m = n2 - i := ⟨_, rfl⟩
        obtain ⟨x4, hx4⟩ : ∃ b, b = Cd.uB m := ⟨_, rfl⟩
        obtain ⟨b2, hb2⟩ : ∃ b, b = b1 ++ x2 := ⟨_, rfl⟩
        obtain ⟨b3, hb3⟩ : ∃ b, b = b2 ++ x3 := ⟨_, rfl⟩
        obtain ⟨b4, hb4⟩ : ∃ b, b = b3 ++ x4 := ⟨_, rfl⟩
        obtain ⟨D, hD⟩ : ∃ D, D = s.log.drop i := ⟨_, rfl⟩
        have HREC : Hid (r = b4 ++ D.flatMap enB) := Lib.hid (by
          rw [HR.out, hb4, hb3, hb2, hb1, hx2, hx3, hx4, hm, hD, HN2.out]
          unfold recB
          rw [hcut.out, HT.out, HV.out]
          simp only [List.append_assoc]
          rfl)
        have HRL2 : Hid (r.length ≤ 300000000) := Lib.hid (by rw [HR.out]; exact HRL.out)
        have HDL : Hid (D.length = m) := Lib.hid (by rw [hD, hm, List.length_drop, HN2.out])
        have HDe : Hid (∀ x ∈ D, EnOk x) := Lib.hid (fun x hx => HS.out.en x (List.mem_of_mem_drop (by rw [← hD]; exact hx)))
        have HDD := Lib.hid hD
        have l1 := Cd.uB_len 8 T (by have := HTl.out; omega)
        have l2 := Cd.uB_len 0 (Cd.zig V) (by have := zig_vote HVl.out; omega)
        have l3 := Cd.uB_len 1 i (by omega)
        have l4 := Cd.uB_len 1 m (by have := HS.out.log; have := HN2.out; omega)
        rw [← hb1] at l1 hpi
        rw [← hx2] at l2
        rw [← hx3] at l3
        rw [← hx4] at l4
        have E1 : (Cd.uB T).length = b1.length := by rw [hb1]
        rw [E1]
        have Q1 : Hid (b1.length ≤ 10) := Lib.hid (by omega)
        have Q2 : Hid (b2.length ≤ 20) := Lib.hid (by rw [hb2, List.length_append]; omega)
        have Q3 : Hid (b3.length ≤ 30) := Lib.hid (by have := Q2.out; rw [hb3, List.length_append]; omega)
        have Q4 : Hid (b4.length ≤ 40) := Lib.hid (by have := Q3.out; rw [hb4, List.length_append]; omega)
        have ZL2 : Hid (x2.length ≤ 10) := Lib.hid (by omega)
        have ZL3 : Hid (x3.length ≤ 10) := Lib.hid (by omega)
        have ZL4 : Hid (x4.length ≤ 10) := Lib.hid (by omega)
        have HX2 := Lib.hid hx2
        have HX3 := Lib.hid hx3
        have HX4 := Lib.hid hx4
        have HB2 := Lib.hid hb2
        have HB3 := Lib.hid hb3
        have HB4 := Lib.hid hb4
        have HM := Lib.hid hm
        have BX1 := Lib.hid (below_trans' YB.out hpb)
        have O1 := Lib.hid (OwnB.weak hpi (K := X.heap.size) YB.out.size)
        clear hmade hpi hpb hb1 hx2 hx3 hx4 hb2 hb3 hb4 hD hm l1 l2 l3 l4 E1 e0 e1 e2 w1 w2 M2
        have M1 := Lib.hid (K2.out.bel BX1.out)
        have e1 := M1.out.cell 1
        simp only [List.getElem?_cons_succ, List.getElem?_cons_zero] at e1
        go_wp2_with fail
        refine (putInt_any Y1 V (by have := HVl.out; omega) (by have := HVl.out; omega)).mono ?_
        rintro e Z2 hmade
        rw [← HX2.out] at hmade
        obtain ⟨P2, p2, rfl, hpi, hpb⟩ := hmade.own
        have BP2 := Lib.hid (below_trans' BX1.out hpb)
        obtain ⟨A2', a2, Y2, h1, h2, h3⟩ := append_b Z2 X.heap.size A1' a1 b1 (O1.out.bel hpb) BP2.out.size P2 x2.length p2 x2 hpi.bs (by have := Q1.out; have := ZL2.out; omega) 30 b2 HB2.out
        have HR2 := Lib.hid h1
        have O2 := Lib.hid h2
        have BX2 := Lib.hid (BP2.out.trans h3)
        clear hmade hpi hpb h1 h2 h3 e1 M1
        go_wp2_with (at_builtin; refine wpl_append_run rfl _ _ 30 rfl _ _ rfl rfl _ _ HR2.out ?_)
        refine (putUint_any Y2 i (by omega)).mono ?_
        rintro e Z3 hmade
        rw [← HX3.out] at hmade
        obtain ⟨P3, p3, rfl, hpi, hpb⟩ := hmade.own
        have BP3 := Lib.hid (below_trans' BX2.out hpb)
        obtain ⟨A3', a3, Y3, h1, h2, h3⟩ := append_b Z3 X.heap.size A2' a2 b2 (O2.out.bel hpb) BP3.out.size P3 x3.length p3 x3 hpi.bs (by have := Q2.out; have := ZL3.out; omega) 30 b3 HB3.out
        have HR3 := Lib.hid h1
        have O3 := Lib.hid h2
        have BX3 := Lib.hid (BP3.out.trans h3)
        clear hmade hpi hpb h1 h2 h3 HR2
        have M3 := Lib.hid (K2.out.bel BX3.out)
        have e2 := M3.out.cell 2
        simp only [List.getElem?_cons_succ, List.getElem?_cons_zero] at e2
        have hsub : (n2 : Int) - (i : Int) = (m : Int) := by have := HM.out; omega
        have hmm : (m : Int) ≤ 4096 := by have := HM.out; have := HS.out.log; have := HN2.out; omega
        go_wp2_with (at_builtin; refine wpl_append_run rfl _ _ 30 rfl _ _ rfl rfl _ _ HR3.out ?_)
        refine (putUint_any Y3 m (by omega)).mono ?_
        rintro e Z4 hmade
        rw [← HX4.out] at hmade
        obtain ⟨P4, p4, rfl, hpi, hpb⟩ := hmade.own
        have BP4 := Lib.hid (below_trans' BX3.out hpb)
        obtain ⟨A4', a4, Y4, h1, h2, h3⟩ := append_b Z4 X.heap.size A3' a3 b3 (O3.out.bel hpb) BP4.out.size P4 x4.length p4 x4 hpi.bs (by have := Q3.out; have := ZL4.out; omega) 30 b4 HB4.out
        have HR4 := Lib.hid h1
        have O4 := Lib.hid h2
        have BX4 := Lib.hid (BP4.out.trans h3)
        clear hmade hpi hpb h1 h2 h3 HR3 e2 M3 hsub
        have M4 := Lib.hid (K2.out.bel BX4.out)
        have e2 := M4.out.cell 2
        simp only [List.getElem?_cons_succ, List.getElem?_cons_zero] at e2
        have hsub : n2 - i = m := HM.out.symm
        have hc2 : (n2 : Int) ≤ (c2 : Int) := by have := L2.out.cap; omega
        have hi2' : (i : Int) ≤ (n2 : Int) := by omega
        go_wp2_with (at_builtin; refine wpl_append_run rfl _ _ 30 rfl _ _ rfl rfl _ _ HR4.out ?_)
        all_goals
          first
            | (have hm0 : c2 = i := by assumption
               have HE : Hid (Ens X A2 D) := Lib.hid (fun q hq => absurd hq (by have := HDL.out; have := L2.out.cap; omega))
               obtain ⟨A5, rfl⟩ : ∃ A5, A5 = A2 := ⟨_, rfl⟩)
            | (have hg2 : g2 = g2 := rfl
               have HE : Hid (Ens X (some ⟨g2, o2 + i * 2, none⟩) D) := Lib.hid (by rw [HDD.out]; exact L2.out.ens.drop i)
               revert HE
               generalize (some (⟨g2, o2 + i * 2, none⟩ : Addr)) = A5
               intro HE)
            | (have HE : Hid (Ens X (Option.map (fun x => x.add (i * 2)) A2) D) := Lib.hid (by rw [HDD.out]; exact L2.out.ens.tail i)
               revert HE
               generalize (Option.map (fun x => x.add (i * 2)) A2) = A5
               intro HE)
          clear e2 M4 hsub hc2 hi2' HR4
          go_loopw [6, 64] (fun bv jv wr => ∃ (j : Nat) (A : Option Addr) (c kk : Nat) (acc : List UInt8), jv = .int .i64 (j : Int) ∧ bv = .slice A kk c ∧ j ≤ m ∧ Hid (kk = acc.length) ∧ Hid (OwnB wr X.heap.size A c acc) ∧ Hid (Below X.heap.size X wr) ∧ Hid (acc = b4 ++ (D.take j).flatMap enB)) (fun _ jv _ => m - (intOf jv).toNat)
          case atStart => exact ⟨0, A4', a4, _, b4, rfl, rfl, Nat.zero_le _, Lib.hid rfl, O4, BX4, Lib.hid (by simp)⟩
          case round =>
            obtain ⟨j, A, c, kk, acc, rfl, rfl, hjm, hkk, hO, hBX, hacc⟩ := hrel
            by_cases hlt : j < m
            · have u1 : (j : Int) < (m : Int) := by omega
              have hDj : j < D.length := by rw [HDL.out]; exact hlt
              obtain ⟨gg, oo, cs5, hA5, hb5, p0, p1⟩ := HE.out j hDj
              have hgg := (Array.getElem?_eq_some_iff.1 hb5).1
              subst hA5
              rw [enG_of hDj] at p0 p1
              have hxe : EnOk (enG D j) := by rw [← enG_of hDj]; exact HDe.out _ (List.getElem_mem hDj)
              have hte := take_enB hDj
              have hjl := take_le_len (j := j + 1) HREC.out
              generalize enG D j = x at *
              obtain ⟨t, ht⟩ : ∃ t : Nat, x.term = (t : Int) := ⟨x.term.toNat, by have := hxe.term; omega⟩
              rw [ht] at p0
              have v0 := (hBX.out.cell (p := ⟨gg, oo + j * 2, none⟩) hgg).trans p0
              have v1 := (hBX.out.cell (p := ⟨gg, oo + j * 2 + 1, none⟩) hgg).trans p1
              obtain ⟨y1, hy1⟩ : ∃ y, y = Cd.uB t := ⟨_, rfl⟩
              obtain ⟨y2, hy2⟩ : ∃ y, y = Cd.textB x.data.data.toList := ⟨_, rfl⟩
              obtain ⟨f1, hf1⟩ : ∃ y, y = acc ++ y1 := ⟨_, rfl⟩
              obtain ⟨f2, hf2⟩ : ∃ y, y = f1 ++ y2 := ⟨_, rfl⟩
              have hfin : f2 = b4 ++ (D.take (j + 1)).flatMap enB := by
                rw [hf2, hf1, hacc.out, hte, hy1, hy2]
                unfold enB
                rw [ht]
                simp only [List.append_assoc]
                rfl
              have HFIN := Lib.hid hfin
              have HF1 := Lib.hid hf1
              have HF2 := Lib.hid hf2
              have HY1 := Lib.hid hy1
              have HY2 := Lib.hid hy2
              have HLF : Hid (f2.length ≤ 300000000 ∧ f1.length + y2.length ≤ 300000000 ∧ acc.length + y1.length ≤ 300000000) := Lib.hid (by
                have e0 : f2.length ≤ 300000000 := by rw [hfin]; have := HRL2.out; omega
                have e1 := congrArg List.length hf2
                have e2 := congrArg List.length hf1
                rw [List.length_append] at e1 e2
                omega)
              have HXE := Lib.hid hxe
              have u2 : IntKind.u64.wrap (t : Int) = (t : Int) := by rw [IntKind.wrap_u64]; have := hxe.term; omega
              have u3 : (t : Int) % 18446744073709551616 = (t : Int) := by have := hxe.term; omega
              have HTT : Hid (t < 18446744073709551616) := Lib.hid (by have := hxe.term; omega)
              clear hDj hb5 p0 p1 hxe hte hjl ht hfin hf1 hf2 hy1 hy2
              have BN := Lib.hid (hBX.out.trans ((Below.new wr (.cells #[.int .i64 (t : Int), .string x.data] 29)).mono hBX.out.size))
              have KN := Lib.hid (Blk.new wr 29 [.int .i64 (t : Int), .string x.data])
              have ON := Lib.hid (hO.out.bel (Below.new wr (.cells #[.int .i64 (t : Int), .string x.data] 29)))
              go_upto_region 11 with (fail)
              generalize (wr.alloc (.cells #[.int .i64 (t : Int), .string x.data] 29)) = W1 at *
              generalize wr.heap.size = gn at *
              have s0 := KN.out.cell 0
              simp only [List.getElem?_cons_zero] at s0
              clear v0 v1
              go_wp2_with fail
              refine (putUint_any W1 t HTT.out).mono ?_
              rintro e Z5 hmade
              rw [← HY1.out] at hmade
              obtain ⟨P5, p5, rfl, hpi, hpb⟩ := hmade.own
              have BP5 := Lib.hid (BN.out.trans (hpb.mono BN.out.size))
              have K5 := Lib.hid (KN.out.bel hpb)
              obtain ⟨A5', a5, Y5, h1, h2, h3, h4⟩ := append_b2 Z5 X.heap.size A c acc (ON.out.bel hpb) BP5.out.size P5 y1.length p5 y1 hpi.bs (by have := HLF.out; omega) 30 f1 HF1.out
              rw [← hkk.out] at h1
              have HR5 := Lib.hid h1
              have O5 := Lib.hid h2
              have BX5 := Lib.hid (BP5.out.trans h3)
              have K6 := Lib.hid (h4 _ _ _ K5.out (by decide))
              clear hmade hpi hpb h1 h2 h3 h4 s0
              have s1 := K6.out.cell 1
              simp only [List.getElem?_cons_succ, List.getElem?_cons_zero] at s1
              go_wp2_with (at_builtin; refine wpl_append_run rfl _ _ 30 rfl _ _ rfl rfl _ _ HR5.out ?_)
              refine (putText_any Y5 x.data (by have := HXE.out.data; omega)).mono ?_
              rintro e Z6 hmade
              rw [← HY2.out] at hmade
              obtain ⟨P6, p6, rfl, hpi, hpb⟩ := hmade.own
              have BP6 := Lib.hid (BX5.out.trans (hpb.mono BX5.out.size))
              obtain ⟨A6', a6, Y6, h1, h2, h3⟩ := append_b Z6 X.heap.size A5' a5 f1 (O5.out.bel hpb) BP6.out.size P6 y2.length p6 y2 hpi.bs (by have := HLF.out; omega) 30 f2 HF2.out
              have HR6 := Lib.hid h1
              have O6 := Lib.hid h2
              have BX6 := Lib.hid (BP6.out.trans h3)
              clear hmade hpi hpb h1 h2 h3 s1 HR5
              go_wp2_with (at_builtin; refine wpl_append_run rfl _ _ 30 rfl _ _ rfl rfl _ _ HR6.out ?_)
              refine ⟨⟨j + 1, A6', a6, _, f2, by rw [Int.natCast_add]; rfl, rfl, by omega, Lib.hid rfl, O6, BX6, HFIN⟩, ?_⟩
              simp [intOf]; omega
            · obtain rfl : j = m := by omega
              have haccr : acc = r := by rw [hacc.out, List.take_of_length_le (by rw [HDL.out]; omega)]; exact HREC.out.symm
              subst haccr
              go_wp2_with fail
              go_ret
              rw [hkk.out]
              exact ⟨A, c, rfl, OwnB.weak hO.out (by have := B0.out.size; omega), B0.out.trans (hBX.out.mono (by have := B0.out.size; omega))⟩
end Go.Proofs.YteihedfmmiihiaaGreat
