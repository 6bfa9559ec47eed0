/- check: the walk of the document's Check. -/
import Derived.Test.YtmacmejpcpdnnaaCkRfMach
import Derived.Deep.LoopGhost
namespace Go.Proofs.Ytmacmejpcpdnnaa
open Go.RowKit

def opC (q : Nat × Nat × Nat) : List Value := [.int .u8 q.1, .int .i64 q.2.1, .int .i64 q.2.2]
theorem opC_len (q : Nat × Nat × Nat) : (opC q).length = 3 := rfl
theorem info_open : (Try.prog.info? 72).map (fun i => (i.zero, i.size, i.bytes)) = some (some (.agg #[.int .u8 0, .int .i64 0, .int .i64 0]), 3, 24) := by kernel_rfl
def normS : Stk → Stk
  | [] => []
  | (u, c, n) :: st => if c = n then popInc st else (u, c, n) :: st
theorem push_norm (x : Tw) (st : Stk) : pushS x st = normS ((x.op, 0, x.kids.toNat) :: st) := by
  simp only [pushS, normS]
  by_cases h : x.kids.toNat = 0
  · rw [if_pos h, if_pos h.symm]
  · rw [if_neg h, if_neg (fun e => h e.symm)]
/-- the numbers are small -/
def SmallS (st : Stk) : Prop := ∀ q ∈ st, q.2.1 ≤ q.2.2 ∧ q.2.2 ≤ 2048
def StrictS (st : Stk) : Prop := ∀ q ∈ st, q.2.1 < q.2.2 ∧ q.2.2 ≤ 2048
theorem popInc_strict : ∀ st, StrictS st → StrictS (popInc st) ∧ (popInc st).length ≤ st.length := by
  intro st
  induction st with
  | nil => intro h; exact ⟨h, Nat.le_refl _⟩
  | cons q st ih =>
    obtain ⟨u, c, n⟩ := q
    intro h
    simp only [popInc]
    have hq := h (u, c, n) (List.mem_cons_self ..)
    simp only at hq
    split
    · obtain ⟨h1, h2⟩ := ih (fun q hq => h q (List.mem_cons_of_mem _ hq))
      exact ⟨h1, by simp only [List.length_cons]; omega⟩
    · refine ⟨fun q hm => ?_, by simp⟩
      rcases List.mem_cons.1 hm with rfl | hm
      · simp only; omega
      · exact h q (List.mem_cons_of_mem _ hm)
/-- what the inner loop keeps -/
structure InW (w wr : World) (A : Option Addr) (c : Nat) (st tgt : Stk) : Prop where
  bel : Below w.heap.size w wr
  row : wr.ownsRow w.heap.size 72 3 (.slice A st.length c) st.length (st.reverse.flatMap opC)
  norm : normS st = tgt
  strict : StrictS st.tail
  head : ∀ q, st.head? = some q → q.2.1 ≤ q.2.2 ∧ q.2.2 ≤ 2048
structure OutW (w wr : World) (t : List Tw) (A : Option Addr) (c : Nat) (i : Nat) (st : Stk) (d : Option Nat) : Prop where
  bel : Below w.heap.size w wr
  row : wr.ownsRow w.heap.size 72 3 (.slice A st.length c) st.length (st.reverse.flatMap opC)
  strict : StrictS st
  len : st.length ≤ i
  run : runM t 0 [] none = runM (t.drop i) i st d
theorem norm_out {st : Stk} (h : st = [] ∨ ∃ u c n r, st = (u, c, n) :: r ∧ c ≠ n) : normS st = st := by
  rcases h with rfl | ⟨u, c, n, r, rfl, h⟩
  · rfl
  · simp only [normS]; rw [if_neg h]
/-- the last one's cells -/
theorem last_cells {w : World} {base g c : Nat} {q : Nat × Nat × Nat} {r : Stk} (h : w.ownsRow base 72 3 (.slice (some ⟨g, 0, none⟩) (r.length + 1) c) (r.length + 1) ((q :: r).reverse.flatMap opC)) :
    w.cell? ⟨g, r.length * 3, none⟩ = some (.int .u8 q.1) ∧ w.cell? ⟨g, r.length * 3 + 1, none⟩ = some (.int .i64 q.2.1) ∧ w.cell? ⟨g, r.length * 3 + 2, none⟩ = some (.int .i64 q.2.2) := by
  have hc : ∀ j, j < 3 → w.cell? ⟨g, r.length * 3 + j, none⟩ = (opC q)[j]? := by
    intro j hj
    rw [h.cellAt (r.length * 3 + j) (by omega), flat_get opC 3 opC_len _ r.length j hj, List.reverse_cons, List.getElem?_append_right (by simp)]
    simp
  exact ⟨hc 0 (by decide), hc 1 (by decide), hc 2 (by decide)⟩
theorem pop_row {w : World} {base g c : Nat} {q : Nat × Nat × Nat} {r : Stk} (h : w.ownsRow base 72 3 (.slice (some ⟨g, 0, none⟩) (r.length + 1) c) (r.length + 1) ((q :: r).reverse.flatMap opC)) :
    w.ownsRow base 72 3 (.slice (some ⟨g, 0, none⟩) r.length c) r.length (r.reverse.flatMap opC) := by
  have h2 := own_take h (m := r.length) (by omega)
  rw [flat_take opC 3 opC_len, List.reverse_cons, List.take_append_of_le_length (by simp), List.take_of_length_le (by simp)] at h2
  exact h2
theorem inc_row {w : World} {base g c : Nat} {q : Nat × Nat × Nat} {r : Stk} (h : w.ownsRow base 72 3 (.slice (some ⟨g, 0, none⟩) (r.length + 1) c) (r.length + 1) ((q :: r).reverse.flatMap opC)) :
    (w.setCell ⟨g, r.length * 3 + 1, none⟩ (.int .i64 ((q.2.1 : Int) + 1))).ownsRow base 72 3 (.slice (some ⟨g, 0, none⟩) (r.length + 1) c) (r.length + 1) (((q.1, q.2.1 + 1, q.2.2) :: r).reverse.flatMap opC) := by
  have h2 := (h.stored (r.length * 3 + 1) (.int .i64 ((q.2.1 : Int) + 1))).1
  have e : ((q :: r).reverse.flatMap opC).set (r.length * 3 + 1) (.int .i64 ((q.2.1 : Int) + 1)) = ((q.1, q.2.1 + 1, q.2.2) :: r).reverse.flatMap opC := by
    simp only [List.reverse_cons, List.flatMap_append, List.flatMap_cons, List.flatMap_nil, List.append_nil]
    have hl : (r.reverse.flatMap opC).length = r.length * 3 := by rw [flat_len opC 3 opC_len]; simp
    rw [List.set_append_right _ _ (by omega), hl, show r.length * 3 + 1 - r.length * 3 = 1 from by omega]
    rfl
  rw [e] at h2
  exact h2
/-! ### the walk -/
set_option maxRecDepth 20000 in
set_option maxHeartbeats 25600000 in
theorem rcheck_walk (w : World) (a : Option Addr) (n c : Nat) (t : List Tw) (h : TreeIn w a n c t) (hl : ¬ 2048 < n) :
    Calls Try.prog 26 #[.slice a n c] w fun e w' => e = .returned (.tuple #[.int .i64 ((docTree t).1 : Int), .int .i64 ((docTree t).2 : Int)]) ∧ Below w.heap.size w w' := by
  obtain ⟨i0, hi, hz0, hz1, hz2⟩ := info_parts info_open
  have hn := h.tw.len
  have HN := Lib.hid hn
  have hl' : ¬ (2048 : Int) < (n : Int) := by omega
  have HT := Lib.hid h
  have hDT : docTree t = finM t.length (runM t 0 [] none) := by unfold docTree; rw [if_neg (by omega)]
  rw [hDT]
  obtain ⟨R, hR⟩ : ∃ R, finM t.length (runM t 0 [] none) = R := ⟨_, rfl⟩
  have HR := Lib.hid hR
  rw [hR]
  have hn2 : n ≤ 2048 := by omega
  have hcap := h.cap.1
  have hcap2 := h.cap.2
  unfold maxLen at hcap2
  clear h hn hl hDT hR
  go_enter Try.func26, Try.ntmps26
  go_wp2_with fail
  go_loopw [4, 5, 6] (fun sv dv iv wr => ∃ (i : Nat) (A : Option Addr) (c1 : Nat) (st : Stk) (d : Option Nat), sv = .slice A st.length c1 ∧ dv = .int .i64 (dI d) ∧ iv = .int .i64 (i : Int) ∧ i ≤ n ∧ Hid (OutW w wr t A c1 i st d)) (fun _ _ iv _ => n - (intOf iv).toNat)
  case atStart => exact ⟨0, none, 0, [], none, rfl, rfl, rfl, Nat.zero_le _, Lib.hid ⟨Below.refl _ _, World.ownsRow_nil _ _ _ _, (fun q hq => by cases hq), Nat.le_refl _, rfl⟩⟩
  case round =>
    obtain ⟨i, A, c1, st, d, rfl, rfl, rfl, hi9, HW⟩ := hrel
    have hsl := HW.out.len
    by_cases hlt : i < n
    · have hlt' : (i : Int) < (n : Int) := by omega
      have hit : i < t.length := by rw [HN.out]; exact hlt
      have hrun := HW.out.run
      rw [List.drop_eq_getElem_cons hit] at hrun
      obtain ⟨b, o, ea, _, hbl, _⟩ := HT.out.tw.cell i hit
      subst ea
      have hfx : wr.cell? ⟨b, o + i * 4, none⟩ = some (.int .u8 t[i].op) ∧ wr.cell? ⟨b, o + i * 4 + 1, none⟩ = some (.int .i64 t[i].kids) ∧ wr.cell? ⟨b, o + i * 4 + 2, none⟩ = some (.int .i64 t[i].int) ∧ wr.cell? ⟨b, o + i * 4 + 3, none⟩ = some (.string t[i].text) := by
        obtain ⟨b2, o2, e2, _, _, q0, q1, q2, q3⟩ := (HT.out.bel HW.out.bel).tw.cell i hit
        injection e2 with e2
        injection e2 with e2 e3 _
        subst e2 e3
        exact ⟨q0, q1, q2, q3⟩
      obtain ⟨d0, d1, d2, d3⟩ := hfx
      have hw9 := HT.out.tw.wf i hit
      generalize hx : t[i] = x at *
      clear hx
      have hop9 := hw9.2.2.1
      have HFI := Lib.hid (fine_any x hw9)
      have HRUN := Lib.hid hrun
      have HX1 := Lib.hid (Blk.new wr 34 (twC x))
      have HB1 : Hid (Below wr.heap.size wr (wr.alloc (.cells (twC x).toArray 34))) := Lib.hid (Below.new wr _)
      clear hrun hw9
      by_cases hz : 0 < i ∧ st = []
      · obtain ⟨hi0, rfl⟩ := hz
        have hi0' : (0 : Int) < (i : Int) := by omega
        have hE : R = (i, 3) := by
          have := HRUN.out
          simp only [runM] at this
          rw [if_pos (by simp [hi0])] at this
          rw [← HR.out, this]
          rfl
        have HE := Lib.hid hE
        clear hE
        go_wp2_with fail
        go_ret2
        exact ⟨by rw [HE.out]; rfl, HW.out.bel.trans (HB1.out.mono HW.out.bel.size)⟩
      · have hcond : (decide ((0 : Int) < (i : Int)) && decide ((st.length : Int) = 0)) = false := by
          rw [Bool.eq_false_iff]
          intro q
          simp only [Bool.and_eq_true, decide_eq_true_eq] at q
          exact hz ⟨by omega, List.eq_nil_of_length_eq_zero (by omega)⟩
        have hbs : (decide (0 < i) && st.isEmpty) = false := by
          rw [Bool.eq_false_iff]
          intro q
          simp only [Bool.and_eq_true, decide_eq_true_eq, List.isEmpty_iff] at q
          exact hz q
        have HBS := Lib.hid hbs
        have hz0 : ¬ (0 : Int) < (i : Int) ∨ (0 : Int) < (i : Int) ∧ ((st.length : Int) == 0) = false := by
          by_cases h0 : 0 < i
          · right
            refine ⟨by omega, ?_⟩
            rw [beq_eq_false_iff_ne]
            intro e
            exact hz ⟨h0, List.eq_nil_of_length_eq_zero (by omega)⟩
          · left; omega
        clear hcond hbs hz
        cases hf : fineB x with
        | false =>
          have HFB := Lib.hid hf
          have hE : R = (i, 3) := by
            have := HRUN.out
            simp only [runM] at this
            rw [if_pos (by rw [hf]; simp)] at this
            rw [← HR.out, this]
            rfl
          have HE := Lib.hid hE
          clear hE hf
          rcases hz0 with hz1 | ⟨hz1, hz2⟩
          · go_wp2_with (go_at_call 36; refine (HFI.out _).mono ?_; rintro e wf ⟨rfl, hBf⟩; rw [HFB.out]; have HBf := Lib.hid hBf; have hX2 := HX1.out.bel hBf; have HX2 := Lib.hid hX2; clear hBf hX2)
            go_ret2
            exact ⟨by rw [HE.out]; rfl, (HW.out.bel.trans (HB1.out.mono HW.out.bel.size)).trans (HBf.out.mono (Nat.le_trans HW.out.bel.size HB1.out.size))⟩
          · go_wp2_with (go_at_call 36; refine (HFI.out _).mono ?_; rintro e wf ⟨rfl, hBf⟩; rw [HFB.out]; have HBf := Lib.hid hBf; have hX2 := HX1.out.bel hBf; have HX2 := Lib.hid hX2; clear hBf hX2)
            go_ret2
            exact ⟨by rw [HE.out]; rfl, (HW.out.bel.trans (HB1.out.mono HW.out.bel.size)).trans (HBf.out.mono (Nat.le_trans HW.out.bel.size HB1.out.size))⟩
        | true =>
          have HFB := Lib.hid hf
          have hgd : goodB .any x = true := by rw [goodB_fine]; simp [May.ok, hf]
          have hk := goodB_kids hgd
          clear hf hgd
          go_upto_region 9 with fail
          unfold twC at HX1 HB1
          generalize (wr.alloc (.cells #[.int .u8 x.op, .int .i64 x.kids, .int .i64 x.int, .string x.text] 34)) = wx at *
          have x0 := HX1.out.cell 0
          have x1 := HX1.out.cell 1
          have x2 := HX1.out.cell 2
          have x3 := HX1.out.cell 3
          simp only [List.getElem?_cons_zero, List.getElem?_cons_succ] at x0 x1 x2 x3
          go_cut [33] (fun s33 wc => s33 = .bool false ∧ Hid (Below wr.heap.size wr wc ∧ Blk wc wr.heap.size 34 (twC x)))
          case first =>
            rcases hz0 with hz1 | ⟨hz1, hz2⟩
            · go_wp2_with (go_at_call 36; refine (HFI.out _).mono ?_; rintro e wf ⟨rfl, hBf⟩; rw [HFB.out]; have HBf := Lib.hid hBf; have hX2 := HX1.out.bel hBf; have HX2 := Lib.hid hX2; clear hBf hX2)
              go_meet
              exact ⟨rfl, Lib.hid ⟨HB1.out.trans (HBf.out.mono HB1.out.size), HX2.out⟩⟩
            · go_wp2_with (go_at_call 36; refine (HFI.out _).mono ?_; rintro e wf ⟨rfl, hBf⟩; rw [HFB.out]; have HBf := Lib.hid hBf; have hX2 := HX1.out.bel hBf; have HX2 := Lib.hid hX2; clear hBf hX2)
              go_meet
              exact ⟨rfl, Lib.hid ⟨HB1.out.trans (HBf.out.mono HB1.out.size), HX2.out⟩⟩
          case rest =>
            obtain ⟨rfl, HC⟩ := hcut
            clear HX1 HB1 x0 x1 x2 x3 d0 d1 d2 d3 HFI hz0
            have x0 := HC.out.2.cell 0
            have x1 := HC.out.2.cell 1
            have gx := fun o => (HC.out.2.alloc o).cell 0
            unfold twC at x0 x1 gx
            simp only [List.getElem?_cons_zero, List.getElem?_cons_succ] at x0 x1 gx
            have hr0 := own_turns HW.out.row (.of_below (S := fun _ => False) HC.out.1) (fun _ _ => id)
            cases hp : partS st x.op with
            | false =>
              cases st with
              | nil => simp [partS] at hp
              | cons q r =>
                obtain ⟨u, cc, nn⟩ := q
                simp only [partS] at hp
                have hE : R = (i, 3) := by
                  have := HRUN.out
                  simp only [runM] at this
                  rw [if_pos (by simp only [partS]; rw [hp]; simp)] at this
                  rw [← HR.out, this]
                  rfl
                have HE := Lib.hid hE
                have hq := HW.out.strict (u, cc, nn) (List.mem_cons_self ..)
                simp only at hq
                obtain ⟨g, cg, eg, vb, hg1, hg2, hg3⟩ := own_at hr0 (by simp)
                injection eg with eg1 eg2 eg3
                subst eg1 eg3
                obtain ⟨k0, k1, k2⟩ := last_cells hr0
                simp only at k0 k1 k2
                have HPA := Lib.hid (part_any u x.op (cc : Int) (nn : Int) (by omega) (by omega))
                rw [hp] at HPA
                have hl1 : (0 : Int) < (((u, cc, nn) :: r : Stk).length : Int) := by simp <;> omega
                have hl2 : ((((u, cc, nn) :: r : Stk).length : Nat) : Int) - 1 = (r.length : Int) := by simp
                unfold maxLen at hg3
                simp only [List.length_cons] at hg2
                clear hE hp hr0 hq
                go_wp2_with (go_at_call 37; refine (HPA.out _).mono ?_; rintro e wp ⟨rfl, rfl⟩)
                go_ret2
                exact ⟨by rw [HE.out]; rfl, (HW.out.bel.trans (HC.out.1.mono HW.out.bel.size)).alloc (Nat.le_trans HW.out.bel.size HC.out.1.size) _⟩
            | true =>
              have HP := Lib.hid hp
              clear hp
              go_upto_if 37 with fail
              go_cut [5] (fun s5 wd => s5 = .int .i64 (dI d) ∧ Hid (Below wr.heap.size wr wd ∧ Blk wd wr.heap.size 34 (twC x)))
              case first =>
                cases st with
                | nil =>
                  go_wp2_with fail
                  all_goals first
                    | (go_meet; exact ⟨rfl, HC⟩)
                    | (exfalso; simp at *)
                | cons q r =>
                  obtain ⟨u, cc, nn⟩ := q
                  have hp := HP.out
                  simp only [partS] at hp
                  have hq := HW.out.strict (u, cc, nn) (List.mem_cons_self ..)
                  simp only at hq
                  obtain ⟨g, cg, eg, vb, hg1, hg2, hg3⟩ := own_at hr0 (by simp)
                  injection eg with eg1 eg2 eg3
                  subst eg1 eg3
                  obtain ⟨k0, k1, k2⟩ := last_cells hr0
                  simp only at k0 k1 k2
                  have HPA := Lib.hid (part_any u x.op (cc : Int) (nn : Int) (by omega) (by omega))
                  rw [hp] at HPA
                  have hl1 : (0 : Int) < (((u, cc, nn) :: r : Stk).length : Int) := by simp <;> omega
                  have hl2 : ((((u, cc, nn) :: r : Stk).length : Nat) : Int) - 1 = (r.length : Int) := by simp
                  unfold maxLen at hg3
                  simp only [List.length_cons] at hg2
                  clear hp hr0 hq
                  go_wp2_with (go_at_call 37; refine (HPA.out _).mono ?_; rintro e wp ⟨rfl, rfl⟩)
                  all_goals first
                    | (go_meet; exact ⟨rfl, Lib.hid ⟨HC.out.1.alloc HC.out.1.size _, HC.out.2.alloc _⟩⟩)
                    | (exfalso; simp at *; omega)
              case rest =>
                obtain ⟨rfl, HD⟩ := hcut
                clear HC x0 x1 gx hr0
                go_upto_region 15 with fail
                go_cut [61] (fun s61 we => s61 = .bool (decide (d = none ∧ 40 ≤ st.length)) ∧ we = wc)
                case first =>
                  cases d with
                  | some p =>
                    have hd0 : ¬ dI (some p) < 0 := by simp [dI]
                    go_wp2_with fail
                    all_goals first
                      | (go_meet; exact ⟨by simp, rfl⟩)
                      | (exfalso; simp [dI] at *)
                  | none =>
                    have hd0 : dI none < 0 := by simp [dI]
                    by_cases h40 : 40 ≤ st.length
                    · have h40' : (40 : Int) ≤ (st.length : Int) := by omega
                      have H40 := Lib.hid h40
                      go_wp2_with fail
                      all_goals first
                        | (go_meet; exact ⟨by have := H40.out; simp [this], rfl⟩)
                        | (exfalso; simp [dI] at *; done)
                    · have h40' : ¬ (40 : Int) ≤ (st.length : Int) := by omega
                      have H40 := Lib.hid h40
                      go_wp2_with fail
                      all_goals first
                        | (go_meet; exact ⟨by have := H40.out; simp [this], rfl⟩)
                        | (exfalso; simp [dI] at *; done)
                case rest =>
                  obtain ⟨rfl, rfl⟩ := hcut
                  go_upto_if 61 with fail
                  go_cut [5] (fun s5 we => s5 = .int .i64 (dI (deepS i st d)) ∧ we = wc)
                  case first =>
                    by_cases hdd : d = none ∧ 40 ≤ st.length
                    · have HDD := Lib.hid hdd
                      rw [decide_eq_true hdd]
                      go_wp2_with fail
                      all_goals first
                        | (go_meet; exact ⟨by unfold deepS; rw [if_pos HDD.out]; rfl, rfl⟩)
                        | (exfalso; simp at *; done)
                    · have HDD := Lib.hid hdd
                      rw [decide_eq_false hdd]
                      go_wp2_with fail
                      all_goals first
                        | (go_meet; exact ⟨by unfold deepS; rw [if_neg HDD.out], rfl⟩)
                        | (exfalso; simp at *; done)
                  case rest =>
                    obtain ⟨rfl, rfl⟩ := hcut
                    have x0 := HD.out.2.cell 0
                    have x1 := HD.out.2.cell 1
                    unfold twC at x0 x1
                    simp only [List.getElem?_cons_zero, List.getElem?_cons_succ] at x0 x1
                    have hr1 := own_turns HW.out.row (.of_below (S := fun _ => False) HD.out.1) (fun _ _ => id)
                    have HR1 := Lib.hid (hr1.alloc (.cells #[.int .u8 x.op, .int .i64 0, .int .i64 x.kids] 72))
                    have HNW := Lib.hid (Blk.new wc 72 [.int .u8 x.op, .int .i64 0, .int .i64 x.kids]).news
                    have HBW : Hid (Below w.heap.size w wc) := Lib.hid (HW.out.bel.trans (HD.out.1.mono HW.out.bel.size))
                    have HBS1 : Hid (w.heap.size ≤ (wc.alloc (.cells #[.int .u8 x.op, .int .i64 0, .int .i64 x.kids] 72)).heap.size) := Lib.hid (by have := HBW.out.size; simp; omega)
                    have hl1 : Hid (st.length + 1 ≤ maxLen) := Lib.hid (by unfold maxLen; omega)
                    have hl2 : Hid ((st.length + 1) * 24 ≤ 140737488355328) := Lib.hid (by omega)
                    have HRUN2 : Hid (runM t 0 [] none = runM (t.drop (i + 1)) (i + 1) (pushS x st) (deepS i st d)) := Lib.hid (by
                      have := HRUN.out
                      simp only [runM] at this
                      rw [if_neg (by rw [HBS.out, HFB.out, HP.out]; simp)] at this
                      exact this)
                    clear hr1 HRUN HBS
                    go_wp2_with (at_builtin; refine wpList_append_own_at _ rfl _ _ 70 rfl w.heap.size 72 i0 _ 3 24 Try.underlying70 hi hz0 hz1 hz2 rfl (by decide) _ _ _ rfl HR1.out ⟨wc.heap.size, 0, none⟩ 1 1 [.int .u8 x.op, .int .i64 0, .int .i64 x.kids] rfl rfl HNW.out (by intro u hu; simp at hu; rcases hu with rfl | rfl | rfl <;> rfl) hl1.out hl2.out HBS1.out ?_; intro v4 y4 hown4 hgr4 _ _; obtain ⟨A4, c4, rfl⟩ := own_slice' hown4; have HO4 := Lib.hid hown4; have HG4 := Lib.hid hgr4; clear hown4 hgr4)
                    have hIN : InW w y4 A4 c4 ((x.op, 0, x.kids.toNat) :: st) (pushS x st) := by
                      refine ⟨(HBW.out.alloc HBW.out.size _).grown HG4.out HBS1.out (fun r e => (row_lo HR1.out e).1), ?_, (push_norm x st).symm, HW.out.strict, fun q hq => ?_⟩
                      · have h4 := HO4.out
                        have e4 : st.reverse.flatMap opC ++ [.int .u8 x.op, .int .i64 0, .int .i64 x.kids] = ((x.op, 0, x.kids.toNat) :: st).reverse.flatMap opC := by
                          simp only [List.reverse_cons, List.flatMap_append, List.flatMap_cons, List.flatMap_nil, List.append_nil, opC]
                          rw [show ((x.kids.toNat : Nat) : Int) = x.kids from by omega]
                          rfl
                        rw [e4] at h4
                        exact h4
                      · simp only [List.head?_cons, Option.some.injEq] at hq
                        subst hq
                        simp only
                        omega
                    have HIN := Lib.hid hIN
                    have HSTR : Hid (StrictS (pushS x st) ∧ (pushS x st).length ≤ st.length + 1) := Lib.hid (by
                      unfold pushS
                      split
                      · obtain ⟨p1, p2⟩ := popInc_strict st HW.out.strict
                        exact ⟨p1, by omega⟩
                      · refine ⟨fun q hq => ?_, by simp⟩
                        rcases List.mem_cons.1 hq with rfl | hq
                        · simp only; omega
                        · exact HW.out.strict q hq)
                    clear hIN
                    go_loopw [4] (fun sv wq => ∃ (A2 : Option Addr) (c2 : Nat) (st2 : Stk), sv = .slice A2 st2.length c2 ∧ st2.length ≤ i + 1 ∧ Hid (InW w wq A2 c2 st2 (pushS x st))) (fun sv _ => match sv with | .slice _ m _ => m | _ => 0)
                    case atStart => exact ⟨A4, c4, (x.op, 0, x.kids.toNat) :: st, rfl, by simp; omega, HIN⟩
                    case round =>
                      clear HIN x0 x1 HNW HBS1 HR1 HO4 HG4
                      obtain ⟨A2, c2, st2, rfl, hs2, HQ⟩ := hrel
                      cases st2 with
                      | nil =>
                        have hps : pushS x st = [] := HQ.out.norm.symm
                        have HPS := Lib.hid hps
                        clear hps
                        go_wp2_with fail
                        go_quiet (fail)
                        go_wp2_with fail
                        have hrn := HRUN2.out
                        rw [HPS.out] at hrn
                        refine ⟨⟨i + 1, A2, c2, [], deepS i st d, rfl, rfl, by go_num, by omega, Lib.hid ⟨below_drewN' HQ.out.bel _, own_turns HQ.out.row (.of_below (S := fun _ => False) (below_drewN' (Below.refl _ _) _)) (fun _ _ => id), (fun q hq => by cases hq), Nat.zero_le _, hrn⟩⟩, by simp [intOf]; omega⟩
                      | cons q r =>
                        obtain ⟨u, cc, nn⟩ := q
                        obtain ⟨g, cg, eg, vb, hg1, hg2, hg3⟩ := own_at HQ.out.row (by simp)
                        injection eg with eg1 eg2 eg3
                        subst eg1 eg3
                        obtain ⟨k0, k1, k2⟩ := last_cells HQ.out.row
                        have hhd := HQ.out.head _ rfl
                        simp only at k0 k1 k2 hhd
                        unfold maxLen at hg3
                        simp only [List.length_cons] at hg2 hs2
                        obtain ⟨m, hm⟩ : ∃ m, r.length = m := ⟨_, rfl⟩
                        rw [hm] at k0 k1 k2 hs2 hg2
                        rw [show ((u, cc, nn) :: r : Stk).length = m + 1 from by simp [hm]]
                        have HMR := Lib.hid hm
                        clear hm
                        by_cases ecc : cc = nn
                        · have eb : ((cc : Int) == (nn : Int)) = true := by rw [beq_iff_eq]; omega
                          have ECC := Lib.hid ecc
                          clear ecc
                          cases r with
                          | nil =>
                            have hm1 : m = 0 := HMR.out.symm
                            have hm0 : ¬ (0 : Int) < (m : Int) := by omega
                            have HM1 := Lib.hid hm1
                            clear hm1
                            go_wp2_with fail
                            go_quiet (fail)
                            go_wp2_with fail
                            have hm1 := HM1.out
                            subst hm1
                            refine ⟨⟨some ⟨g, 0, none⟩, c2, [], by simp, by simp, Lib.hid ⟨below_drewN' HQ.out.bel _, ?_, ?_, (fun q hq => by cases hq), (fun q hq => by cases hq)⟩⟩, by simp⟩
                            · exact own_turns (pop_row (r := []) HQ.out.row) (.of_below (S := fun _ => False) (below_drewN' (Below.refl _ _) _)) (fun _ _ => id)
                            · rw [← HQ.out.norm, ECC.out]
                              simp only [normS]
                              rw [if_pos trivial]
                              rfl
                          | cons q2 r2 =>
                            obtain ⟨u2, c3, n3⟩ := q2
                            obtain ⟨m2, hm2⟩ : ∃ m2, r2.length = m2 := ⟨_, rfl⟩
                            have hmm : m = m2 + 1 := by rw [← HMR.out, ← hm2]; rfl
                            have hm0 : (0 : Int) < (m : Int) := by omega
                            have hmi : (m : Int) - 1 = (m2 : Int) := by omega
                            have hrow2 := pop_row HQ.out.row
                            obtain ⟨m0, m1, m2c⟩ := last_cells hrow2
                            have hst2 := HQ.out.strict (u2, c3, n3) (List.mem_cons_self ..)
                            simp only at m0 m1 m2c hst2
                            have mz := hrow2.frozenAt (r2.length * 3 + 1)
                            rw [hm2] at m0 m1 m2c mz
                            have HROW := Lib.hid hrow2
                            have HM2 := Lib.hid hm2
                            have HMM := Lib.hid hmm
                            clear hrow2 hm2 hmm
                            go_wp2_with fail
                            go_quiet (fail)
                            go_wp2_with fail
                            have hb9 := below_drewN' HQ.out.bel nq
                            have hr9 := inc_row (own_turns HROW.out (.of_below (S := fun _ => False) (below_drewN' (Below.refl _ wr) nq)) (fun _ _ => id))
                            rw [HM2.out] at hr9
                            have hgb : w.heap.size ≤ g := (row_lo (g := g) HQ.out.row rfl).1
                            refine ⟨⟨some ⟨g, 0, none⟩, c2, (u2, c3 + 1, n3) :: r2, by simp [HM2.out, HMM.out], by simp [HM2.out]; have := HMM.out; omega, Lib.hid ⟨hb9.setCell (p := ⟨g, m2 * 3 + 1, none⟩) hgb _, by simp only [List.length_cons, HM2.out]; exact hr9, ?_, (fun q hq => HQ.out.strict q (List.mem_cons_of_mem _ hq)), (fun q hq => by simp only [List.head?_cons, Option.some.injEq] at hq; subst hq; simp only; omega)⟩⟩, by simp⟩
                            rw [← HQ.out.norm, ECC.out]
                            simp only [normS, popInc]
                            rw [if_pos trivial]
                        · have eb : ((cc : Int) == (nn : Int)) = false := by rw [beq_eq_false_iff_ne]; omega
                          have hps : pushS x st = (u, cc, nn) :: r := by rw [← HQ.out.norm]; simp only [normS]; rw [if_neg ecc]
                          have HPS := Lib.hid hps
                          clear ecc hps
                          go_wp2_with fail
                          go_quiet (fail)
                          go_wp2_with fail
                          have hrn := HRUN2.out
                          rw [HPS.out] at hrn
                          have hst9 := HSTR.out
                          rw [HPS.out] at hst9
                          refine ⟨⟨i + 1, _, _, (u, cc, nn) :: r, deepS i st d, by simp only [List.length_cons, HMR.out], rfl, by go_num, by omega, Lib.hid ⟨below_drewN' HQ.out.bel _, own_turns HQ.out.row (.of_below (S := fun _ => False) (below_drewN' (Below.refl _ _) _)) (fun _ _ => id), hst9.1, by have := hst9.2; omega, hrn⟩⟩, by simp [intOf]; omega⟩
    · obtain rfl : i = n := by omega
      have hlt' : ¬ (i : Int) < (i : Int) := by omega
      have hrun := HW.out.run
      rw [List.drop_eq_nil_of_le (by rw [HN.out]; exact Nat.le_refl _)] at hrun
      simp only [runM] at hrun
      have hR := HR.out
      rw [hrun] at hR
      simp only [finM] at hR
      rw [HN.out] at hR
      by_cases h0 : i = 0
      · subst h0
        rw [if_pos (.inl rfl)] at hR
        have HE := Lib.hid hR.symm
        clear hR hrun
        go_wp2_with fail
        go_ret2
        exact ⟨by rw [HE.out]; rfl, HW.out.bel⟩
      · have h0b : ((i : Int) == 0) = false := by rw [beq_eq_false_iff_ne]; omega
        cases st with
        | cons q r =>
          rw [if_pos (.inr (by simp))] at hR
          have HE := Lib.hid hR.symm
          have hl1 : (0 : Int) < ((q :: r).length : Int) := by simp <;> omega
          clear hR hrun
          go_wp2_with fail
          go_ret2
          exact ⟨by rw [HE.out]; rfl, HW.out.bel⟩
        | nil =>
          rw [if_neg (by intro q; rcases q with q | q; exact h0 q; exact q rfl)] at hR
          cases d with
          | none =>
            simp only at hR
            have HE := Lib.hid hR.symm
            have hd0 : ¬ (0 : Int) ≤ dI none := by simp [dI]
            clear hR hrun
            go_wp2_with fail
            all_goals first
              | (go_ret2; exact ⟨by rw [HE.out]; rfl, HW.out.bel⟩)
              | (exfalso; simp [dI] at *)
          | some p =>
            simp only at hR
            have HE := Lib.hid hR.symm
            have hd0 : (0 : Int) ≤ dI (some p) := by simp [dI]
            clear hR hrun
            go_wp2_with fail
            all_goals first
              | (go_ret2; exact ⟨by rw [HE.out]; rfl, HW.out.bel⟩)
              | (exfalso; simp [dI] at *)
theorem rcheck_any (w : World) (a : Option Addr) (n c : Nat) (t : List Tw) (h : TreeIn w a n c t) :
    Calls Try.prog 26 #[.slice a n c] w fun e w' => e = .returned (.tuple #[.int .i64 ((ckTree t).1 : Int), .int .i64 ((ckTree t).2 : Int)]) ∧ Below w.heap.size w w' := by
  rw [← docTree_eq]
  by_cases hl : 2048 < n
  · have E : docTree t = (0, 2) := by unfold docTree; rw [if_pos (by rw [h.tw.len]; exact hl)]
    have hl' : (2048 : Int) < (n : Int) := by omega
    rw [E]
    clear h hl E
    go_enter Try.func26, Try.ntmps26
    go_wp2_with fail
    go_ret2
    exact ⟨rfl, Below.refl _ _⟩
  · exact rcheck_walk w a n c t h hl
end Go.Proofs.Ytmacmejpcpdnnaa
