/- wal: may: whether something may be kept. -/
import Derived.Test.YteihedfmmiihiaaGreatWlRecW
namespace Go.Proofs.YteihedfmmiihiaaGreat
open Go.RowKit

def enOkB (x : En) : Bool := decide (1 ≤ x.term ∧ x.term ≤ 1152921504606846976 ∧ x.data.size ≤ 65536)
def headB (s : Sv) : Bool := decide (0 ≤ s.term ∧ s.term ≤ 1152921504606846976 ∧ -1 ≤ s.vote ∧ s.vote ≤ 6 ∧ s.log.length ≤ 4096)
def mayB (s : Sv) : Bool := headB s && s.log.all enOkB
theorem mayB_iff (s : Sv) : mayB s = true ↔ SvOk s := by
  unfold mayB headB
  rw [Bool.and_eq_true, decide_eq_true_eq, List.all_eq_true]
  constructor
  · rintro ⟨⟨h1, h2, h3, h4, h5⟩, h6⟩
    refine ⟨⟨h1, h2⟩, ⟨h3, h4⟩, h5, fun x hx => ?_⟩
    have := h6 x hx
    unfold enOkB at this
    rw [decide_eq_true_eq] at this
    exact ⟨⟨this.1, this.2.1⟩, this.2.2⟩
  · intro h
    refine ⟨⟨h.term.1, h.term.2, h.vote.1, h.vote.2, h.log⟩, fun x hx => ?_⟩
    have := h.en x hx
    unfold enOkB
    rw [decide_eq_true_eq]
    exact ⟨this.term.1, this.term.2, this.data⟩
set_option maxRecDepth 20000 in
set_option maxHeartbeats 4000000 in
theorem may1_any (w : World) (x : En) : Calls Tryz.prog 51 #[.agg #[.int .i64 x.term, .string x.data]] w fun e w' => e = .returned (.bool (!enOkB x)) ∧ Below w.heap.size w w' := by
  have K := Lib.hid (Blk.new w 29 [.int .i64 x.term, .string x.data])
  have B := Lib.hid (Below.new w (.cells #[.int .i64 x.term, .string x.data] 29))
  have hen : Hid (enOkB x = decide (1 ≤ x.term ∧ x.term ≤ 1152921504606846976 ∧ x.data.size ≤ 65536)) := Lib.hid rfl
  obtain ⟨t, d⟩ := x
  simp only at *
  generalize enOkB ⟨t, d⟩ = b at *
  by_cases h1 : t < 1
  · have hb : b = false := by rw [hen.out]; exact decide_eq_false (by omega)
    subst hb
    go_enter Tryz.func51, Tryz.ntmps51
    go_wp2_with fail
    go_ret
    exact ⟨rfl, B.out⟩
  · by_cases h2 : 1152921504606846976 < t
    · have hb : b = false := by rw [hen.out]; exact decide_eq_false (by omega)
      subst hb
      go_enter Tryz.func51, Tryz.ntmps51
      go_wp2_with fail
      go_ret
      exact ⟨rfl, B.out⟩
    · by_cases h3 : 65536 < d.size
      · have hb : b = false := by rw [hen.out]; exact decide_eq_false (by omega)
        have h3' : (65536 : Int) < (d.size : Int) := by omega
        subst hb
        go_enter Tryz.func51, Tryz.ntmps51
        go_wp2_with fail
        go_ret
        exact ⟨rfl, B.out⟩
      · have hb : b = true := by rw [hen.out]; exact decide_eq_true (by omega)
        have h3' : ¬ (65536 : Int) < (d.size : Int) := by omega
        subst hb
        go_enter Tryz.func51, Tryz.ntmps51
        go_wp2_with fail
        go_ret
        exact ⟨rfl, B.out⟩
theorem all_at (L : List En) (i : Nat) (h : ∀ j, j < i → enOkB (enG L j) = true) (hb : i < L.length) (hx : enOkB (enG L i) = false) : L.all enOkB = false := by
  rw [List.all_eq_false]
  refine ⟨L[i], List.getElem_mem hb, ?_⟩
  rw [enG_of hb, hx]
  simp
theorem all_end (L : List En) (h : ∀ j, j < L.length → enOkB (enG L j) = true) : L.all enOkB = true := by
  rw [List.all_eq_true]
  intro x hx
  obtain ⟨i, hi, rfl⟩ := List.getElem_of_mem hx
  rw [enG_of hi]
  exact h i hi
set_option maxRecDepth 20000 in
set_option maxHeartbeats 4000000 in
theorem index_en (w : World) (A : Option Addr) (n c : Nat) (L : List En) (h : Lg w A n c L) :
    Calls Tryz.prog 72 #[.slice A n c, .func (.func 51) #[] #[]] w fun e w' => ∃ a : Int, e = .returned (.int .i64 a) ∧ decide (0 ≤ a) = (!L.all enOkB) ∧ Below w.heap.size w w' := by
  have HH := Lib.hid h
  have HN := Lib.hid h.len
  have hmx : (n : Int) ≤ 9223372036854775807 := by have := h.cap; unfold maxLen at this; omega
  clear h
  go_enter Tryz.func72, Tryz.ntmps72
  go_wp2_with fail
  go_loopw [8] (fun iv wr => ∃ i : Nat, i ≤ n ∧ iv = .int .i64 (i : Int) ∧ Hid (∀ j, j < i → enOkB (enG L j) = true) ∧ Hid (Below w.heap.size w wr)) (fun iv _ => n - (intOf iv).toNat)
  case atStart => exact ⟨0, by omega, rfl, Lib.hid (fun j hj => absurd hj (Nat.not_lt_zero _)), Lib.hid (Below.refl _ _)⟩
  case round =>
    obtain ⟨i, hi, rfl, hF, hB⟩ := hrel
    by_cases hlt : i < n
    · have hlt1 : (i : Int) < (n : Int) := by omega
      have hiL : i < L.length := by rw [← HN.out]; exact hlt
      obtain ⟨g, o, rfl, hg, p0, p1⟩ := lg_at (HH.out.bel hB.out) i hiL
      rw [enG_of] at p0 p1
      have hc := Lib.hid (may1_any wr (enG L i))
      by_cases hp : enOkB (enG L i) = true
      · rw [hp] at hc
        have HE : Hid (∀ j, j < i + 1 → enOkB (enG L j) = true) := Lib.hid (fun j hj => by
          by_cases e : j = i
          · subst e; exact hp
          · exact hF.out j (by omega))
        clear hp
        generalize enG L i = x at *
        go_wp2_with fail
        refine hc.out.mono ?_
        rintro e w2 ⟨rfl, hb2⟩
        have HB2 := Lib.hid (below_trans' hB.out hb2)
        clear hb2 hc
        go_wp2_with fail
        refine ⟨⟨i + 1, by omega, by simp, HE, HB2⟩, ?_⟩
        simp [intOf]; omega
      · have hpf : enOkB (enG L i) = false := by simpa using hp
        have HA := Lib.hid (all_at L i hF.out hiL hpf)
        rw [hpf] at hc
        clear hp hpf
        generalize enG L i = x at *
        go_wp2_with fail
        refine hc.out.mono ?_
        rintro e w2 ⟨rfl, hb2⟩
        have HB2 := Lib.hid (below_trans' hB.out hb2)
        clear hb2 hc
        go_wp2_with fail
        go_ret
        exact ⟨(i : Int), rfl, by rw [HA.out]; simp, HB2.out⟩
    · obtain rfl : i = n := by omega
      have HA := Lib.hid (all_end L (fun j hj => hF.out j (by rw [HN.out]; exact hj)))
      go_wp2_with fail
      go_ret
      exact ⟨-1, rfl, by rw [HA.out]; rfl, hB.out⟩
set_option maxRecDepth 20000 in
set_option maxHeartbeats 4000000 in
theorem contains_en (w : World) (A : Option Addr) (n c : Nat) (L : List En) (h : Lg w A n c L) :
    Calls Tryz.prog 50 #[.slice A n c, .func (.func 51) #[] #[]] w fun e w' => e = .returned (.bool (!L.all enOkB)) ∧ Below w.heap.size w w' := by
  have HI := Lib.hid (index_en w A n c L h)
  clear h
  go_enter Tryz.func50, Tryz.ntmps50
  go_wp2_with fail
  refine HI.out.mono ?_
  rintro e w2 ⟨a, rfl, hd, hb2⟩
  have HB2 := Lib.hid hb2
  have HD := Lib.hid hd
  clear hb2 hd
  go_wp2_with fail
  go_ret
  refine ⟨?_, HB2.out⟩
  rw [← HD.out]
  rfl
set_option maxRecDepth 20000 in
set_option maxHeartbeats 4000000 in
theorem may_any (w : World) (A : Option Addr) (n c : Nat) (s : Sv) (h : Lg w A n c s.log) :
    Calls Tryz.prog 28 #[svV s.term s.vote A n c] w fun e w' => e = .returned (.bool (mayB s)) ∧ Below w.heap.size w w' := by
  have K := Lib.hid (Blk.new w 27 [.int .i64 s.term, .int .i64 s.vote, .slice A n c])
  have B := Lib.hid (Below.new w (.cells #[.int .i64 s.term, .int .i64 s.vote, .slice A n c] 27))
  have HN := Lib.hid h.len
  have HC := Lib.hid (contains_en _ A n c s.log (h.bel B.out))
  have hm : Hid (mayB s = (decide (0 ≤ s.term ∧ s.term ≤ 1152921504606846976 ∧ -1 ≤ s.vote ∧ s.vote ≤ 6 ∧ s.log.length ≤ 4096) && s.log.all enOkB)) := Lib.hid rfl
  rw [← HN.out] at hm
  clear h
  unfold svV
  generalize mayB s = b at *
  generalize s.log.all enOkB = al at *
  generalize s.term = t at *
  generalize s.vote = v at *
  by_cases h1 : t < 0
  · have hb : b = false := by rw [hm.out, decide_eq_false (by omega)]; rfl
    subst hb
    go_enter Tryz.func28, Tryz.ntmps28
    go_wp2_with fail
    go_ret
    exact ⟨rfl, B.out⟩
  · by_cases h2 : 1152921504606846976 < t
    · have hb : b = false := by rw [hm.out, decide_eq_false (by omega)]; rfl
      subst hb
      go_enter Tryz.func28, Tryz.ntmps28
      go_wp2_with fail
      go_ret
      exact ⟨rfl, B.out⟩
    · by_cases h3 : v < -1
      · have hb : b = false := by rw [hm.out, decide_eq_false (by omega)]; rfl
        subst hb
        go_enter Tryz.func28, Tryz.ntmps28
        go_wp2_with fail
        go_ret
        exact ⟨rfl, B.out⟩
      · by_cases h4 : 7 ≤ v
        · have hb : b = false := by rw [hm.out, decide_eq_false (by omega)]; rfl
          subst hb
          go_enter Tryz.func28, Tryz.ntmps28
          go_wp2_with fail
          go_ret
          exact ⟨rfl, B.out⟩
        · by_cases h5 : 4096 < n
          · have hb : b = false := by rw [hm.out, decide_eq_false (by omega)]; rfl
            have h5' : (4096 : Int) < (n : Int) := by omega
            subst hb
            go_enter Tryz.func28, Tryz.ntmps28
            go_wp2_with fail
            go_ret
            exact ⟨rfl, B.out⟩
          · have hb : b = al := by rw [hm.out, decide_eq_true (by omega)]; simp
            have h5' : ¬ (4096 : Int) < (n : Int) := by omega
            subst hb
            go_enter Tryz.func28, Tryz.ntmps28
            go_upto_region 3 with (fail)
            generalize (w.alloc (.cells #[.int .i64 t, .int .i64 v, .slice A n c] 27)) = X at *
            have k2 := K.out.cell 2
            simp only [List.getElem?_cons_succ, List.getElem?_cons_zero] at k2
            go_wp2_with fail
            refine HC.out.mono ?_
            rintro e w2 ⟨rfl, hb2⟩
            have HB2 := Lib.hid (B.out.trans (hb2.mono B.out.size))
            clear hb2 k2
            go_wp2_with fail
            go_ret
            refine ⟨?_, HB2.out⟩
            cases b <;> rfl
end Go.Proofs.YteihedfmmiihiaaGreat
