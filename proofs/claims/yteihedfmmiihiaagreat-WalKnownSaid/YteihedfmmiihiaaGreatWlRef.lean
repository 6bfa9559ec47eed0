/- wal, the document: Nothing, Weight, May, Same, Copy. -/
import Derived.Test.YteihedfmmiihiaaGreatWmI
import Derived.Test.YteihedfmmiihiaaGreatWlKeep2
namespace Go.Proofs.YteihedfmmiihiaaGreat
open Go.RowKit Go.Maps Go.Sort Go.Shelf
variable {Xs : Nat → Prop}

set_option maxRecDepth 20000 in
set_option maxHeartbeats 2000000 in
theorem nothing_any (w : World) : Calls Tryz.prog 20 #[] w fun e w' => e = .returned (svV 0 (-1) none 0 0) ∧ Below w.heap.size w w' := by
  have K0 := Blk.new w 27 [.int .i64 0, .int .i64 0, .slice none 0 0]
  have B0 := Lib.hid (Below.new w (.cells #[.int .i64 0, .int .i64 0, .slice none 0 0] 27))
  have KK := Lib.hid K0
  clear K0
  go_enter Tryz.func20, Tryz.ntmps20
  go_wp2_with fail
  have PK := Blk.new w 27 [.int .i64 0, .int .i64 (-1), .slice none 0 0]
  refine bodyPost_ret (results_cell_row (h := rfl) (g := w.heap.size) (t := 27) (cs := ([.int .i64 0, .int .i64 (-1), .slice none 0 0] : List Value).toArray) (fr := (0, 0)) (hp := rfl) (hg := PK) (hu := Tryz.underlying27) (hd := rfl) (hi := by kernel_rfl) _ _) rfl ?_
  exact ⟨rfl, Below.new w _⟩
/-! ### Weight -/
def wtN (L : List En) (i : Nat) : Nat := 64 + ((L.take i).map fun x => 32 + x.data.size).sum
theorem wtN_step (L : List En) (i : Nat) (h : i < L.length) : wtN L (i + 1) = wtN L i + (32 + (enG L i).data.size) := by
  unfold wtN
  rw [List.take_succ_eq_append_getElem h, List.map_append, List.sum_append, enG_of h]
  simp only [List.map_cons, List.map_nil, List.sum_cons, List.sum_nil]
  omega
theorem wtN_le (L : List En) (i : Nat) : wtN L i ≤ 64 + (L.map fun x => 32 + x.data.size).sum := by
  have := take_sum L i
  unfold wtN
  omega
set_option maxRecDepth 20000 in
set_option maxHeartbeats 2000000 in
theorem weight_any (w : World) (A : Option Addr) (n c : Nat) (s : Sv) (h : Lg w A n c s.log) (hw : wt s ≤ 100000000) :
    Calls Tryz.prog 38 #[svV s.term s.vote A n c] w fun e w' => e = .returned (.int .i64 (wt s : Int)) ∧ Below w.heap.size w w' := by
  have K := Lib.hid (Blk.new w 27 [.int .i64 s.term, .int .i64 s.vote, .slice A n c])
  have B := Lib.hid (Below.new w (.cells #[.int .i64 s.term, .int .i64 s.vote, .slice A n c] 27))
  have HN := Lib.hid h.len
  have HL := Lib.hid (h.bel B.out)
  have hmx : (n : Int) ≤ 9223372036854775807 := by have := h.cap; unfold maxLen at this; omega
  have HW : Hid (∀ i, wtN s.log i ≤ 100000000) := Lib.hid (fun i => by have := wtN_le s.log i; unfold wt at hw; omega)
  have HE : Hid (wt s = wtN s.log n) := Lib.hid (by unfold wt wtN; rw [h.len, List.take_length])
  clear h hw
  unfold svV
  go_enter Tryz.func38, Tryz.ntmps38
  go_upto_region 2 with (fail)
  generalize w.alloc (.cells #[.int .i64 s.term, .int .i64 s.vote, .slice A n c] 27) = X at *
  have k2 : X.cell? ⟨w.heap.size, 2, none⟩ = some (.slice A n c) := K.out.cell 2
  go_wp2_with fail
  go_loopw [3, 4] (fun iv jv wr => ∃ i : Nat, i ≤ n ∧ jv = .int .i64 (i : Int) ∧ iv = .int .i64 (wtN s.log i : Int) ∧ wr = X) (fun _ jv _ => n - (intOf jv).toNat)
  case atStart => exact ⟨0, by omega, rfl, rfl, rfl⟩
  case round =>
    obtain ⟨i, hi, rfl, rfl, rfl⟩ := hrel
    by_cases hlt : i < n
    · have hlt1 : (i : Int) < (n : Int) := by omega
      have hiL : i < s.log.length := by rw [← HN.out]; exact hlt
      obtain ⟨g, o, rfl, hg, p0, p1⟩ := lg_at HL.out i hiL
      rw [enG_of] at p0 p1
      have hst := wtN_step s.log i hiL
      have hb1 := HW.out i
      have hb2 := HW.out (i + 1)
      have HST := Lib.hid hst
      have q1 : ((wtN s.log i : Nat) : Int) ≤ 100000000 := by omega
      have q2 : (((enG s.log i).data.size : Nat) : Int) ≤ 100000000 := by omega
      clear hst hb1 hb2
      generalize enG s.log i = x at *
      go_wp2_with fail
      refine ⟨⟨i + 1, by omega, by simp, by rw [HST.out]; congr 1; omega, trivial⟩, ?_⟩
      simp [intOf]; omega
    · obtain rfl : i = n := by omega
      go_wp2_with fail
      go_ret
      exact ⟨by rw [HE.out]; rfl, B.out⟩
/-! ### Same -/
set_option maxRecDepth 20000 in
set_option maxHeartbeats 4000000 in
theorem same_any (w : World) (A1 A2 : Option Addr) (n1 c1 n2 c2 : Nat) (s r : Sv) (h1 : Lg w A1 n1 c1 s.log) (h2 : Lg w A2 n2 c2 r.log) :
    Calls Tryz.prog 15 #[svV s.term s.vote A1 n1 c1, svV r.term r.vote A2 n2 c2] w fun e w' => e = .returned (.bool (decide (s = r))) ∧ Below w.heap.size w w' := by
  have B := Lib.hid (Below.new2 w (.cells #[.int .i64 s.term, .int .i64 s.vote, .slice A1 n1 c1] 27) (.cells #[.int .i64 r.term, .int .i64 r.vote, .slice A2 n2 c2] 27))
  have K1 := Lib.hid ((Blk.new w 27 [.int .i64 s.term, .int .i64 s.vote, .slice A1 n1 c1]).alloc (.cells #[.int .i64 r.term, .int .i64 r.vote, .slice A2 n2 c2] 27))
  have K2 := Lib.hid (Blk.new2 w (.cells #[.int .i64 s.term, .int .i64 s.vote, .slice A1 n1 c1] 27) 27 [.int .i64 r.term, .int .i64 r.vote, .slice A2 n2 c2])
  have HN1 := Lib.hid h1.len
  have HN2 := Lib.hid h2.len
  have L1 := Lib.hid (h1.bel B.out)
  have L2 := Lib.hid (h2.bel B.out)
  have hmx : (n1 : Int) ≤ 9223372036854775807 := by have := h1.cap; unfold maxLen at this; omega
  clear h1 h2
  unfold svV
  have HT : Hid (s.term = r.term → s.vote = r.vote → s.log = r.log → s = r) := Lib.hid Sv.eq
  have HF1 : Hid (¬ s.term = r.term → ¬ s = r) := Lib.hid (fun h e => h (by rw [e]))
  have HF2 : Hid (¬ s.vote = r.vote → ¬ s = r) := Lib.hid (fun h e => h (by rw [e]))
  have HF3 : Hid (¬ s.log = r.log → ¬ s = r) := Lib.hid (fun h e => h (by rw [e]))
  obtain ⟨b, hb⟩ : ∃ b, decide (s = r) = b := ⟨_, rfl⟩
  have HBB := Lib.hid hb
  rw [hb]
  clear hb
  by_cases ht : s.term = r.term
  · by_cases hv : s.vote = r.vote
    · by_cases hn : n1 = n2
      · subst hn
        have t1 : (s.term != r.term) = false := by simp [ht]
        have t2 : (s.vote != r.vote) = false := by simp [hv]
        have u1 : (s.term == r.term) = true := by simp [ht]
        have u2 : (s.vote == r.vote) = true := by simp [hv]
        have HT2 := Lib.hid (HT.out ht hv)
        clear ht hv
        go_enter Tryz.func15, Tryz.ntmps15
        go_upto_region 1 with (fail)
        generalize ((w.alloc (.cells #[.int .i64 s.term, .int .i64 s.vote, .slice A1 n1 c1] 27)).alloc (.cells #[.int .i64 r.term, .int .i64 r.vote, .slice A2 n1 c2] 27)) = X at *
        generalize hgg : w.heap.size = g at *
        have k10 : X.cell? ⟨g, 0, none⟩ = some (.int .i64 s.term) := K1.out.cell 0
        have k11 : X.cell? ⟨g, 1, none⟩ = some (.int .i64 s.vote) := K1.out.cell 1
        have k12 : X.cell? ⟨g, 2, none⟩ = some (.slice A1 n1 c1) := K1.out.cell 2
        have k20 : X.cell? ⟨g + 1, 0, none⟩ = some (.int .i64 r.term) := K2.out.cell 0
        have k21 : X.cell? ⟨g + 1, 1, none⟩ = some (.int .i64 r.vote) := K2.out.cell 1
        have k22 : X.cell? ⟨g + 1, 2, none⟩ = some (.slice A2 n1 c2) := K2.out.cell 2
        go_wp2_with fail
        go_loopw [5] (fun iv wr => ∃ (i k : Nat), i ≤ n1 ∧ iv = .int .i64 (i : Int) ∧ wr = X.drewN k ∧ Hid (∀ j, j < i → enG s.log j = enG r.log j)) (fun iv _ => n1 - (intOf iv).toNat)
        case atStart => exact ⟨0, 0, Nat.zero_le _, rfl, rfl, Lib.hid (fun j hj => absurd hj (Nat.not_lt_zero _))⟩
        case round =>
          obtain ⟨i, k, hi, rfl, rfl, hj⟩ := hrel
          by_cases hlt : i < n1
          · have q1 : (i : Int) < (n1 : Int) := by omega
            obtain ⟨g1, o1, rfl, hl1, p0, p1⟩ := lg_at L1.out i (by rw [← HN1.out]; exact hlt)
            obtain ⟨g2, o2, rfl, hl2, r0, r1⟩ := lg_at L2.out i (by rw [← HN2.out]; exact hlt)
            rw [enG_of] at p0 p1 r0 r1
            by_cases he : enG s.log i = enG r.log i
            · have hq := eq_en2 (enG s.log i) (enG r.log i) true (by simpa using he)
              have HE := Lib.hid (show ∀ j, j < i + 1 → enG s.log j = enG r.log j from fun j h => by
                by_cases e : j = i
                · subst e; exact he
                · exact hj.out j (by omega))
              clear he
              generalize enG s.log i = x at *
              generalize enG r.log i = y at *
              go_wp2_with fail
              refine wp_region_quiet_lit (by kernel_rfl) (by kernel_rfl) ?_
              repeat (go_big_quiet_step (fail))
              refine wpQuiet_nil ?_
              rintro _ ⟨nq, rfl⟩
              go_wp2_with fail
              refine ⟨⟨i + 1, k + nq, by omega, by rw [Int.natCast_add]; rfl, rfl, HE⟩, ?_⟩
              simp [intOf]; omega
            · have hq := eq_en2 (enG s.log i) (enG r.log i) false (by simpa using he)
              have HE : Hid (b = false) := Lib.hid (by rw [← HBB.out]; exact decide_eq_false (HF3.out (fun e => he (by rw [e]))))
              clear he
              generalize enG s.log i = x at *
              generalize enG r.log i = y at *
              go_wp2_with fail
              refine wp_region_quiet_lit (by kernel_rfl) (by kernel_rfl) ?_
              repeat (go_big_quiet_step (fail))
              refine wpQuiet_nil ?_
              rintro _ ⟨nq, rfl⟩
              go_wp2_with fail
              go_ret
              rw [hgg]
              exact ⟨by rw [HE.out]; rfl, below_drewN' (below_drewN' B.out k) nq⟩
          · obtain rfl : i = n1 := by omega
            have HE : Hid (b = true) := Lib.hid (by rw [← HBB.out]; exact decide_eq_true (HT2.out (eq_lists (by rw [← HN1.out, ← HN2.out]) (fun j h => hj.out j (by rw [HN1.out]; exact h)))))
            go_wp2_with fail
            go_ret
            rw [hgg]
            exact ⟨by rw [HE.out]; rfl, below_drewN' B.out k⟩
      · have HE : Hid (b = false) := Lib.hid (by rw [← HBB.out]; exact decide_eq_false (HF3.out (fun e => hn (by rw [HN1.out, HN2.out, e]))))
        have hnI : ¬ (n1 : Int) = (n2 : Int) := by omega
        have t1 : (s.term != r.term) = false := by simp [ht]
        have t2 : (s.vote != r.vote) = false := by simp [hv]
        have u1 : (s.term == r.term) = true := by simp [ht]
        have u2 : (s.vote == r.vote) = true := by simp [hv]
        clear ht hv
        go_enter Tryz.func15, Tryz.ntmps15
        go_wp2_with fail
        go_ret
        exact ⟨by rw [HE.out]; rfl, B.out⟩
    · have HE : Hid (b = false) := Lib.hid (by rw [← HBB.out]; exact decide_eq_false (HF2.out hv))
      have t1 : (s.term != r.term) = false := by simp [ht]
      have t2 : (s.vote != r.vote) = true := by simp [hv]
      have u1 : (s.term == r.term) = true := by simp [ht]
      have u2 : (s.vote == r.vote) = false := by simp [hv]
      clear ht hv
      go_enter Tryz.func15, Tryz.ntmps15
      go_wp2_with fail
      go_ret
      exact ⟨by rw [HE.out]; rfl, B.out⟩
  · have HE : Hid (b = false) := Lib.hid (by rw [← HBB.out]; exact decide_eq_false (HF1.out ht))
    have t1 : (s.term != r.term) = true := by simp [ht]
    have u1 : (s.term == r.term) = false := by simp [ht]
    clear ht
    go_enter Tryz.func15, Tryz.ntmps15
    go_wp2_with fail
    go_ret
    exact ⟨by rw [HE.out]; rfl, B.out⟩
/-! ### May -/
set_option maxRecDepth 20000 in
set_option maxHeartbeats 4000000 in
theorem may2_any (w : World) (A : Option Addr) (n c : Nat) (s : Sv) (h : Lg w A n c s.log) :
    Calls Tryz.prog 13 #[svV s.term s.vote A n c] w fun e w' => e = .returned (.bool (mayB s)) ∧ Below w.heap.size w w' := by
  have K := Lib.hid (Blk.new w 27 [.int .i64 s.term, .int .i64 s.vote, .slice A n c])
  have B := Lib.hid (Below.new w (.cells #[.int .i64 s.term, .int .i64 s.vote, .slice A n c] 27))
  have HN := Lib.hid h.len
  have HL := Lib.hid (h.bel B.out)
  have hmx : (n : Int) ≤ 9223372036854775807 := by have := h.cap; unfold maxLen at this; omega
  have hm : Hid (mayB s = (decide (0 ≤ s.term ∧ s.term ≤ 1152921504606846976 ∧ -1 ≤ s.vote ∧ s.vote ≤ 6 ∧ s.log.length ≤ 4096) && s.log.all enOkB)) := Lib.hid rfl
  rw [← HN.out] at hm
  clear h
  unfold svV
  obtain ⟨L, hL⟩ : ∃ L, s.log = L := ⟨_, rfl⟩
  rw [hL] at HN HL hm
  clear hL
  generalize mayB s = b at *
  generalize s.term = t at *
  generalize s.vote = v at *
  by_cases h1 : t < 0
  · have hb : b = false := by rw [hm.out, decide_eq_false (by omega)]; rfl
    subst hb
    go_enter Tryz.func13, Tryz.ntmps13
    go_wp2_with fail
    go_ret
    exact ⟨rfl, B.out⟩
  · by_cases h2 : 1152921504606846976 < t
    · have hb : b = false := by rw [hm.out, decide_eq_false (by omega)]; rfl
      subst hb
      go_enter Tryz.func13, Tryz.ntmps13
      go_wp2_with fail
      go_ret
      exact ⟨rfl, B.out⟩
    · by_cases h3 : v < -1
      · have hb : b = false := by rw [hm.out, decide_eq_false (by omega)]; rfl
        subst hb
        go_enter Tryz.func13, Tryz.ntmps13
        go_wp2_with fail
        go_ret
        exact ⟨rfl, B.out⟩
      · by_cases h4 : 6 < v
        · have hb : b = false := by rw [hm.out, decide_eq_false (by omega)]; rfl
          subst hb
          go_enter Tryz.func13, Tryz.ntmps13
          go_wp2_with fail
          go_ret
          exact ⟨rfl, B.out⟩
        · by_cases h5 : 4096 < n
          · have hb : b = false := by rw [hm.out, decide_eq_false (by omega)]; rfl
            have h5' : (4096 : Int) < (n : Int) := by omega
            subst hb
            go_enter Tryz.func13, Tryz.ntmps13
            go_wp2_with fail
            go_ret
            exact ⟨rfl, B.out⟩
          · have hb := Lib.hid (show b = L.all enOkB by rw [hm.out, decide_eq_true (by omega)]; simp)
            have h5' : ¬ (4096 : Int) < (n : Int) := by omega
            clear hm
            go_enter Tryz.func13, Tryz.ntmps13
            go_upto_region 1 with (fail)
            generalize (w.alloc (.cells #[.int .i64 t, .int .i64 v, .slice A n c] 27)) = X at *
            have k0 : X.cell? ⟨w.heap.size, 0, none⟩ = some (.int .i64 t) := K.out.cell 0
            have k1 : X.cell? ⟨w.heap.size, 1, none⟩ = some (.int .i64 v) := K.out.cell 1
            have k2 : X.cell? ⟨w.heap.size, 2, none⟩ = some (.slice A n c) := K.out.cell 2
            go_wp2_with fail
            clear h1 h2 h3 h4 k0 k1
            go_loopw [3] (fun iv wr => ∃ i : Nat, i ≤ n ∧ iv = .int .i64 (i : Int) ∧ Hid (∀ j, j < i → enOkB (enG L j) = true) ∧ wr = X) (fun iv _ => n - (intOf iv).toNat)
            case atStart => exact ⟨0, by omega, rfl, Lib.hid (fun j hj => absurd hj (Nat.not_lt_zero _)), rfl⟩
            case round =>
              obtain ⟨i, hi, rfl, hF, rfl⟩ := hrel
              by_cases hlt : i < n
              · have hlt1 : (i : Int) < (n : Int) := by omega
                have hiL : i < L.length := by rw [← HN.out]; exact hlt
                obtain ⟨g, o, rfl, hg, p0, p1⟩ := lg_at HL.out i hiL
                rw [enG_of] at p0 p1
                by_cases hp : enOkB (enG L i) = true
                · have HE : Hid (∀ j, j < i + 1 → enOkB (enG L j) = true) := Lib.hid (fun j hj => by
                    by_cases e : j = i
                    · subst e; exact hp
                    · exact hF.out j (by omega))
                  unfold enOkB at hp
                  rw [decide_eq_true_eq] at hp
                  obtain ⟨r1, r2, r3⟩ := hp
                  have r3' : ¬ (65536 : Int) < ((enG L i).data.size : Int) := by omega
                  generalize enG L i = x at *
                  go_wp2_with fail
                  refine ⟨⟨i + 1, by omega, by simp, HE, trivial⟩, ?_⟩
                  simp [intOf]; omega
                · have HA := Lib.hid (all_at L i hF.out hiL (by simpa using hp))
                  have hb2 : b = false := by rw [hb.out, HA.out]
                  subst hb2
                  unfold enOkB at hp
                  rw [decide_eq_true_eq] at hp
                  generalize enG L i = x at *
                  by_cases r1 : x.term < 1
                  · clear hp
                    go_wp2_with fail
                    go_ret
                    exact ⟨rfl, B.out⟩
                  · by_cases r2 : 1152921504606846976 < x.term
                    · clear hp
                      go_wp2_with fail
                      go_ret
                      exact ⟨rfl, B.out⟩
                    · have r3 : (65536 : Int) < (x.data.size : Int) := by omega
                      clear hp
                      go_wp2_with fail
                      go_ret
                      exact ⟨rfl, B.out⟩
              · obtain rfl : i = n := by omega
                have HA := Lib.hid (all_end L (fun j hj => hF.out j (by rw [HN.out]; exact hj)))
                go_wp2_with fail
                go_ret
                exact ⟨by rw [hb.out, HA.out]; rfl, B.out⟩
/-! ### Copy -/
set_option maxRecDepth 20000 in
set_option maxHeartbeats 4000000 in
theorem copy_any (w : World) (A : Option Addr) (n c : Nat) (s : Sv) (h : Lg w A n c s.log) (hL : s.log.length ≤ 1000000) :
    Calls Tryz.prog 10 #[svV s.term s.vote A n c] w (SavedY w s) := by
  obtain ⟨t, ht⟩ : ∃ t, s.term = t := ⟨_, rfl⟩
  obtain ⟨v, hv⟩ : ∃ v, s.vote = v := ⟨_, rfl⟩
  have B := Lib.hid (Below.new3 w (.cells #[.int .i64 t, .int .i64 v, .slice A n c] 27) (.cells #[.int .i64 0, .int .i64 0, .slice none 0 0] 27) (.cells #[.int .i64 t, .int .i64 v, .slice none 0 0] 27))
  have K0 := Lib.hid (((Blk.new w 27 [.int .i64 t, .int .i64 v, .slice A n c]).alloc (.cells #[.int .i64 0, .int .i64 0, .slice none 0 0] 27)).alloc (.cells #[.int .i64 t, .int .i64 v, .slice none 0 0] 27))
  have K1 := Lib.hid ((Blk.new2 w (.cells #[.int .i64 t, .int .i64 v, .slice A n c] 27) 27 [.int .i64 0, .int .i64 0, .slice none 0 0]).alloc (.cells #[.int .i64 t, .int .i64 v, .slice none 0 0] 27))
  have K2 := Lib.hid (Blk.new3 w (.cells #[.int .i64 t, .int .i64 v, .slice A n c] 27) (.cells #[.int .i64 0, .int .i64 0, .slice none 0 0] 27) 27 [.int .i64 t, .int .i64 v, .slice none 0 0])
  have L0 := Lib.hid (h.bel B.out)
  have HT := Lib.hid ht
  have HV := Lib.hid hv
  unfold svV SavedY
  rw [ht, hv]
  clear h ht hv
  go_enter Tryz.func10, Tryz.ntmps10
  go_upto_region 3 with (fail)
  generalize (((w.alloc (.cells #[.int .i64 t, .int .i64 v, .slice A n c] 27)).alloc (.cells #[.int .i64 0, .int .i64 0, .slice none 0 0] 27)).alloc (.cells #[.int .i64 t, .int .i64 v, .slice none 0 0] 27)) = X at *
  obtain ⟨g, hg⟩ : ∃ g, w.heap.size = g := ⟨_, rfl⟩
  have HG := Lib.hid hg
  rw [hg] at B K0 K1 K2 ⊢
  have HX : Hid (g + 3 ≤ X.heap.size) := Lib.hid (by have := K2.out.lt; omega)
  obtain ⟨A', c', W, hrun, ho, hb, _⟩ := append_own_en X X.heap.size none 0 [] (.nil _ _) (Nat.le_refl _) A n c s.log L0.out (by simp only [List.length_nil]; omega) 25 s.log rfl
  have HR := Lib.hid hrun
  have HO := Lib.hid ho
  have HBW := Lib.hid (show Below g w W from B.out.trans (hb.mono (by have := HX.out; omega)))
  have N0 := Lib.hid (K0.out.bel hb)
  have N1 := Lib.hid (K1.out.bel hb)
  have N2 := Lib.hid (K2.out.bel hb)
  clear hrun ho hb hg
  have k02 : X.cell? ⟨g, 2, none⟩ = some (.slice A n c) := K0.out.cell 2
  have k22 : X.cell? ⟨g + 1 + 1, 2, none⟩ = some (.slice none 0 0) := K2.out.cell 2
  obtain ⟨nl, hnl⟩ : ∃ m, s.log.length = m := ⟨_, rfl⟩
  have HNL := Lib.hid hnl
  rw [hnl] at HR
  clear hnl
  have d0 : W.cell? ⟨g + 1 + 1, 0, none⟩ = some (.int .i64 t) := N2.out.cell 0
  have d1 : W.cell? ⟨g + 1 + 1, 1, none⟩ = some (.int .i64 v) := N2.out.cell 1
  have d2 : W.cell? ⟨g + 1 + 1, 2, none⟩ = some (.slice none 0 0) := N2.out.cell 2
  have z2 := N2.out.fz 2
  have e0 : W.cell? ⟨g + 1, 0, none⟩ = some (.int .i64 0) := N1.out.cell 0
  have e1 : W.cell? ⟨g + 1, 1, none⟩ = some (.int .i64 0) := N1.out.cell 1
  have e2 : W.cell? ⟨g + 1, 2, none⟩ = some (.slice none 0 0) := N1.out.cell 2
  have y0 := N1.out.fz 0
  have y1 := N1.out.fz 1
  have y2 := N1.out.fz 2
  go_wp2_with (at_builtin; refine wpl_append_run rfl _ _ 25 rfl _ _ rfl rfl _ _ HR.out ?_)
  have PK := (((N1.out.far (p := ⟨g + 1 + 1, 2, none⟩) (show g + 1 ≠ g + 1 + 1 by omega) (.slice A' nl c')).set 0 (.int .i64 t)).set 1 (.int .i64 v)).set 2 (.slice A' nl c')
  have TT : Turns (fun i => i = g + 1 ∨ i = g + 1 + 1) W ((((W.setCell ⟨g + 1 + 1, 2, none⟩ (.slice A' nl c')).setCell ⟨g + 1, 0, none⟩ (.int .i64 t)).setCell ⟨g + 1, 1, none⟩ (.int .i64 v)).setCell ⟨g + 1, 2, none⟩ (.slice A' nl c')) :=
    ((((Turns.refl _ W).set _ _ (fun _ => .inr rfl)).set _ _ (fun _ => .inl rfl)).set _ _ (fun _ => .inl rfl)).set _ _ (fun _ => .inl rfl)
  refine bodyPost_ret (results_cell_row (h := rfl) (g := g + 1) (t := 27) (cs := ([.int .i64 t, .int .i64 v, .slice A' nl c'] : List Value).toArray) (fr := (0, 0)) (hp := rfl) (hg := PK) (hu := Tryz.underlying27) (hd := rfl) (hi := by kernel_rfl) _ _) rfl ?_
  refine ⟨A', c', by rw [HNL.out]; rfl, ?_, ?_⟩
  · exact (HO.out.keep TT (fun q hq e => by have := HO.out.ge q hq; have := HX.out; omega)).weak (by have := HX.out; have := HG.out; omega)
  · rw [HG.out]
    exact HBW.out.trans (TT.below (by have := HBW.out.size; have := HX.out; have := N2.out.lt; omega) (fun i _ e => by omega))
end Go.Proofs.YteihedfmmiihiaaGreat
