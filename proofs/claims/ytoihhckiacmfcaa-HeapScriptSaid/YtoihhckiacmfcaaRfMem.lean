/- The document's heap in memory: Push, first, find. -/
import Derived.Test.YtoihhckiacmfcaaRfPlain
import Derived.Test.YtoihhckiacmfcaaHpKeys
namespace Go.Proofs.Ytoihhckiacmfcaa
open Go.RowKit

structure RS (w : World) (r : Nat) (rv : Value) (rs : List Tri) (nx : Nat) : Prop where
  blk : Blk w r 43 [rv, .int .i64 (nx : Int)]
  row : w.ownsRow 0 48 3 rv rs.length (rs.flatMap triC)
  few : rs.length ≤ 1000
  nx : nx ≤ 1000
  nil : rs = [] → rv = .slice none 0 0
def RSet (r : Nat) (rv : Value) : Nat → Prop := fun i => i = r ∨ rv.ownBlock = some i
section
variable {w w' : World} {r : Nat} {rv : Value} {rs : List Tri} {nx : Nat}
theorem RS.keep {S : Nat → Prop} (h : RS w r rv rs nx) (k : Turns S w w') (hS : ∀ i, RSet r rv i → ¬ S i) : RS w' r rv rs nx :=
  ⟨h.blk.turns k (hS r (.inl rfl)), own_turns h.row k (fun g hg => hS g (.inr hg)), h.few, h.nx, h.nil⟩
theorem RS.bel (h : RS w r rv rs nx) (k : Below w.heap.size w w') : RS w' r rv rs nx := h.keep (.of_below (S := fun _ => False) k) (fun _ _ => id)
theorem own_lt {w : World} {base e size n g : Nat} {v : Value} {xs : List Value} (h : w.ownsRow base e size v n xs) (hg : v.ownBlock = some g) : base ≤ g ∧ g < w.heap.size := by
  rcases h.2 with ⟨rfl, _⟩ | ⟨g', cap, cur, rfl, h3, h4, _⟩
  · simp [Value.ownBlock] at hg
  · simp [Value.ownBlock] at hg
    subst hg
    exact ⟨h3, (Array.getElem?_eq_some_iff.1 h4).1⟩
theorem RS.lts (h : RS w r rv rs nx) : ∀ i, RSet r rv i → i < w.heap.size := by
  rintro i (rfl | hi)
  · exact h.blk.lt
  · exact (own_lt h.row hi).2
theorem RS.c0 (h : RS w r rv rs nx) : w.cell? ⟨r, 0, none⟩ = some rv := by have := h.blk.cell 0; simpa using this
theorem RS.c1 (h : RS w r rv rs nx) : w.cell? ⟨r, 1, none⟩ = some (.int .i64 (nx : Int)) := by have := h.blk.cell 1; simpa using this
theorem RS.lo {B : Nat} {rv' : Value} (h : ∀ i, RSet r rv i → B ≤ i) (n : Next w rv rv') (hB : B ≤ w.heap.size) : ∀ i, RSet r rv' i → B ≤ i := by
  rintro i (rfl | hi)
  · exact h _ (.inl rfl)
  · rcases n with e | ⟨g, e, hg⟩
    · exact h i (.inr (by rw [← e]; exact hi))
    · rw [e] at hi
      injection hi with hi
      omega
theorem gR_cells (h : w.ownsRow 0 48 3 rv rs.length (rs.flatMap triC)) {g n cap : Nat} (he : rv = .slice (some ⟨g, 0, none⟩) n cap) (j : Nat) (hj : j < rs.length) :
    w.cell? ⟨g, j * 3, none⟩ = some (.int .i64 (gR rs j).1) ∧ w.cell? ⟨g, j * 3 + 1, none⟩ = some (.int .i64 (gR rs j).2.1) ∧ w.cell? ⟨g, j * 3 + 2, none⟩ = some (.int .i64 (gR rs j).2.2) := by
  subst he
  have hn : n = rs.length := by
    rcases h.2 with ⟨h0, _⟩ | ⟨g', cap', cur, hv, _⟩
    · cases h0
    · cases hv; rfl
  subst hn
  have hx : ∀ i, i < 3 → w.cell? ⟨g, j * 3 + i, none⟩ = (triC (gR rs j))[i]? := fun i hi => by
    rw [h.cellAt _ (by omega), flat_get triC 3 triC_len rs j i hi, List.getElem?_eq_getElem hj, gR_of hj]
    rfl
  have h0 := hx 0 (by omega)
  rw [Nat.add_zero] at h0
  exact ⟨h0, hx 1 (by omega), hx 2 (by omega)⟩
end
theorem info_rf : (Try.prog.info? 48).map (fun i => (i.zero, i.size, i.bytes)) = some (some (.agg #[.int .i64 0, .int .i64 0, .int .i64 0]), 3, 24) := by kernel_rfl

def PushY (w : World) (r : Nat) (rv : Value) (rs : List Tri) (nx : Nat) (key a : Int) (e : Ending) (w' : World) : Prop :=
  e = .returned (.int .i64 (nx : Int)) ∧ ∃ rv', RS w' r rv' (rs ++ [(key, (nx : Int), a)]) (nx + 1) ∧ Next w rv rv' ∧ Turns (RSet r rv) w w'
set_option maxRecDepth 20000 in
set_option maxHeartbeats 4000000 in
theorem rpush (w : World) (r : Nat) (rv : Value) (rs : List Tri) (nx : Nat) (h : RS w r rv rs nx) (key a : Int) (hf : rs.length < 1000) (hnx : nx < 1000) :
    Calls Try.prog 17 #[.pointer (some ⟨r, 0, none⟩), .int .i64 key, .int .i64 a] w (PushY w r rv rs nx key a) := by
  obtain ⟨i0, hi, hz0, hz1, hz2⟩ := info_parts info_rf
  obtain ⟨A0, c0, rfl⟩ := own_slice' h.row
  have q0 := h.c0
  have q1 := h.c1
  have hrl := h.blk.lt
  have hnr : ∀ g, (Value.slice A0 rs.length c0).ownBlock = some g → g ≠ r := fun g hg => own_ne_blk h.row hg h.blk (by decide)
  have HH := Lib.hid h
  have HNR := Lib.hid hnr
  have HA := Lib.hid (h.row.alloc (.cells #[.int .i64 key, .int .i64 (nx : Int), .int .i64 a] 48))
  have HN := Lib.hid (Blk.news (Blk.new w 48 [.int .i64 key, .int .i64 (nx : Int), .int .i64 a]))
  have HB := Lib.hid (h.blk.alloc (.cells #[.int .i64 key, .int .i64 (nx : Int), .int .i64 a] 48))
  have hl1 : Hid (rs.length + 1 ≤ maxLen) := Lib.hid (by unfold maxLen; omega)
  have hl2 : Hid ((rs.length + 1) * 24 ≤ 140737488355328) := Lib.hid (by omega)
  clear h hnr
  go_enter Try.func17, Try.ntmps17
  go_wp2_with (at_builtin; refine wpList_append_own_at _ rfl _ _ 41 rfl 0 48 i0 _ 3 24 Try.underlying41 hi hz0 hz1 hz2 rfl (by decide) _ _ _ rfl HA.out ⟨w.heap.size, 0, none⟩ 1 1 [.int .i64 key, .int .i64 (nx : Int), .int .i64 a] rfl rfl HN.out (by intro u hu; simp at hu; rcases hu with rfl | rfl | rfl <;> rfl) hl1.out hl2.out (Nat.zero_le _) ?_; intro v1 y1 hown1 hgr1 _ hat1; have hb4 := Lib.hid (HB.out.turns (.of_grown (S := fun i => (Value.slice A0 rs.length c0).ownBlock = some i) hgr1 (fun r e => e)) (fun e => HNR.out _ e rfl)); have d0 := hb4.out.cell 0; have d1 := hb4.out.cell 1; have z0 := hb4.out.fz 0; have z1 := hb4.out.fz 1; simp only [List.getElem?_cons_succ, List.getElem?_cons_zero] at d0 d1; obtain ⟨A1, cc1, rfl⟩ := own_slice' hown1)
  go_ret
  have hnv1 : ∀ g, (Value.slice A1 (rs.length + 1) cc1).ownBlock = some g → g ≠ r := fun g hg => own_ne_blk hown1 hg hb4.out (by decide)
  have TS : Turns (fun i => i = r) y1 ((y1.setCell ⟨r, 0, none⟩ (.slice A1 (rs.length + 1) cc1)).setCell ⟨r, 1, none⟩ (.int .i64 ((nx : Int) + 1))) := ((Turns.refl (fun i => i = r) y1).set ⟨r, 0, none⟩ _ (fun _ => rfl)).set ⟨r, 1, none⟩ _ (fun _ => rfl)
  have hrow := own_turns hown1 TS hnv1
  rw [show rs.flatMap triC ++ [.int .i64 key, .int .i64 (nx : Int), .int .i64 a] = (rs ++ [(key, (nx : Int), a)]).flatMap triC from by rw [List.flatMap_append]; simp [triC]] at hrow
  refine ⟨rfl, _, ⟨by have := (hb4.out.set 0 (.slice A1 (rs.length + 1) cc1)).set 1 (.int .i64 ((nx : Int) + 1)); simpa using this, by simpa using hrow, by simp; omega, by omega, fun h => by simp at h⟩, hat1.imp id (fun e => ⟨_, e, by simp⟩), ?_⟩
  exact (((Turns.refl (RSet r (.slice A0 rs.length c0)) w).alloc _).trans (.of_grown (S := fun i => (Value.slice A0 rs.length c0).ownBlock = some i) hgr1 (fun r e => e)) (fun i _ e => .inr e)).trans TS (fun i _ e => .inl e)

set_option maxRecDepth 20000 in
set_option maxHeartbeats 4000000 in
theorem rfirst (w : World) (r : Nat) (rv : Value) (rs : List Tri) (nx : Nat) (h : RS w r rv rs nx) :
    Calls Try.prog 34 #[.pointer (some ⟨r, 0, none⟩)] w fun e w' => ∃ a, e = .returned (.int .i64 a) ∧ FstP rs rs.length a ∧ Below w.heap.size w w' := by
  have HH := Lib.hid h
  have hf := h.few
  obtain ⟨A0, c0, rfl⟩ := own_slice' h.row
  clear h
  go_enter Try.func34, Try.ntmps34
  go_wp2_with fail
  go_loopw [3, 4] (fun av iv wr => ∃ (i : Nat) (a : Int), i ≤ rs.length ∧ av = .int .i64 a ∧ iv = .int .i64 (i : Int) ∧ Hid (FstP rs i a) ∧ Hid (Below w.heap.size w wr)) (fun _ iv _ => rs.length - (intOf iv).toNat)
  case atStart => exact ⟨0, -1, by omega, rfl, rfl, Lib.hid (.inl ⟨rfl, rfl⟩), Lib.hid (Below.refl _ _)⟩
  case round =>
    obtain ⟨i, a, hi, rfl, rfl, hF, hB⟩ := hrel
    have h2 := HH.out.bel hB.out
    have q0 := h2.c0
    by_cases hlt : i < rs.length
    · have hlt1 : (i : Int) < (rs.length : Int) := by omega
      obtain ⟨g, cap, e, _, hg, hnc, hcm⟩ := own_at h2.row (by omega)
      injection e with e1 _ e3
      subst e1 e3
      rcases hF.out.cases with ⟨rfl, rfl⟩ | ⟨q, hq, rfl⟩
      · have HF2 : Hid (FstP rs (0 + 1) 0) := Lib.hid (FstP.take0 rs)
        clear h2
        go_wp2_with fail
        go_quiet (fail)
        have HB2 := Lib.hid (hB.out.trans (below_drewN' (Below.refl w.heap.size wr) nq))
        go_wp2_with fail
        go_roundw
        case measure => simp only [intOf]; omega
        case rel => exact ⟨0 + 1, 0, by omega, rfl, rfl, HF2, HB2⟩
      · obtain ⟨b0, _, _⟩ := gR_cells h2.row rfl i hlt
        obtain ⟨d0, _, _⟩ := gR_cells h2.row rfl q (by omega)
        have hqI : (q : Int) < (rs.length : Int) := by omega
        have n0 : decide ((q : Int) < 0) = false := decide_eq_false (by omega)
        clear h2
        by_cases hc : (gR rs i).1 < (gR rs q).1
        · have HF2 := Lib.hid (hF.out.take hc)
          have n1 : decide ((gR rs i).1 < (gR rs q).1) = true := decide_eq_true hc
          clear hc
          go_wp2_with fail
          go_quiet (fail)
          have HB2 := Lib.hid (hB.out.trans (below_drewN' (Below.refl w.heap.size wr) nq))
          go_wp2_with fail
          go_roundw
          case measure => simp only [intOf]; omega
          case rel => exact ⟨i + 1, _, by omega, rfl, by go_num, HF2, HB2⟩
        · have HF2 := Lib.hid (hF.out.leave hc)
          have n1 : decide ((gR rs i).1 < (gR rs q).1) = false := decide_eq_false hc
          clear hc
          go_wp2_with fail
          go_quiet (fail)
          have HB2 := Lib.hid (hB.out.trans (below_drewN' (Below.refl w.heap.size wr) nq))
          go_wp2_with fail
          go_roundw
          case measure => simp only [intOf]; omega
          case rel => exact ⟨i + 1, _, by omega, rfl, by go_num, HF2, HB2⟩
    · have hlt1 : ¬ (i : Int) < (rs.length : Int) := by omega
      obtain rfl : i = rs.length := by omega
      clear h2
      go_wp2_with fail
      go_ret
      exact ⟨a, rfl, hF.out, hB.out⟩

def FndY (w : World) (rs : List Tri) (k : Int) (e : Ending) (w' : World) : Prop :=
  w' = w ∧ ((e = .returned (.int .i64 (-1)) ∧ ∀ x ∈ rs, x.2.1 ≠ k) ∨ ∃ q : Nat, q < rs.length ∧ e = .returned (.int .i64 (q : Int)) ∧ (gR rs q).2.1 = k)
set_option maxRecDepth 20000 in
set_option maxHeartbeats 4000000 in
theorem rfind (w : World) (r : Nat) (rv : Value) (rs : List Tri) (nx : Nat) (h : RS w r rv rs nx) (k : Int) :
    Calls Try.prog 36 #[.pointer (some ⟨r, 0, none⟩), .int .i64 k] w (FndY w rs k) := by
  have HH := Lib.hid h
  have hf := h.few
  have q0 := h.c0
  obtain ⟨A0, c0, rfl⟩ := own_slice' h.row
  clear h
  go_enter Try.func36, Try.ntmps36
  go_wp2_with fail
  go_loop [5] (fun iv => ∃ i : Nat, i ≤ rs.length ∧ iv = .int .i64 (i : Int) ∧ Hid (∀ j, j < i → (gR rs j).2.1 ≠ k)) (fun iv => rs.length - (intOf iv).toNat)
  case atStart => exact ⟨0, by omega, rfl, Lib.hid (fun j hj => absurd hj (Nat.not_lt_zero _))⟩
  case round =>
    obtain ⟨i, hi, rfl, hF⟩ := hrel
    by_cases hlt : i < rs.length
    · have hlt1 : (i : Int) < (rs.length : Int) := by omega
      obtain ⟨g, cap, e, _, hg, hnc, hcm⟩ := own_at HH.out.row (by omega)
      injection e with e1 _ e3
      subst e1 e3
      obtain ⟨_, b1, _⟩ := gR_cells HH.out.row rfl i hlt
      by_cases hc : (gR rs i).2.1 = k
      · have HC := Lib.hid hc
        have n1 : ((gR rs i).2.1 == k) = true := beq_iff_eq.2 hc
        clear hc
        go_wp2_with fail
        go_ret
        exact ⟨rfl, .inr ⟨i, hlt, rfl, HC.out⟩⟩
      · have n1 : ((gR rs i).2.1 == k) = false := beq_eq_false_iff_ne.2 hc
        have HF2 : Hid (∀ j, j < i + 1 → (gR rs j).2.1 ≠ k) := Lib.hid (fun j hj => by
          by_cases e : j = i
          · subst e; exact hc
          · exact hF.out j (by omega))
        clear hc
        go_wp2_with fail
        go_round
        case measure => simp only [intOf]; omega
        case rel => exact ⟨i + 1, by omega, by go_num, HF2⟩
    · have hlt1 : ¬ (i : Int) < (rs.length : Int) := by omega
      go_wp2_with fail
      go_ret
      refine ⟨rfl, .inl ⟨rfl, fun x hx => ?_⟩⟩
      obtain ⟨j, hj, rfl⟩ := List.mem_iff_getElem.1 hx
      have := hF.out j (by omega)
      rwa [gR_of hj] at this
end Go.Proofs.Ytoihhckiacmfcaa
