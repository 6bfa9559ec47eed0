/- The document's heap in memory: Remove, Change, Copy. -/
import Derived.Test.YtoihhckiacmfcaaRfPop
import Derived.Deep.AppendLies
import Derived.Deep.RegionLaw
namespace Go.Proofs.Ytoihhckiacmfcaa
open Go.RowKit

def RemY (w : World) (r : Nat) (rv : Value) (rs : List Tri) (nx : Nat) (k : Int) (e : Ending) (w' : World) : Prop :=
  (e = .returned (.tuple #[.int .i64 0, .bool false]) ∧ w' = w ∧ ∀ x ∈ rs, x.2.1 ≠ k) ∨
  ∃ q, q < rs.length ∧ (gR rs q).2.1 = k ∧ e = .returned (.tuple #[.int .i64 (gR rs q).2.2, .bool true]) ∧ ∃ rv', RS w' r rv' (rs.eraseIdx q) nx ∧ NextR w rv rv' ∧ Turns (fun i => i = r) w w'
set_option maxRecDepth 20000 in
set_option maxHeartbeats 4000000 in
theorem rremove (w : World) (r : Nat) (rv : Value) (rs : List Tri) (nx : Nat) (h : RS w r rv rs nx) (k : Int) :
    Calls Try.prog 19 #[.pointer (some ⟨r, 0, none⟩), .int .i64 k] w (RemY w r rv rs nx k) := by
  have HH := Lib.hid h
  have hf := h.few
  have q0 := h.c0
  have HF := Lib.hid (rfind w r rv rs nx h k)
  clear h
  go_enter Try.func19, Try.ntmps19
  go_wp2_with fail
  refine HF.out.mono ?_
  rintro e w1 ⟨rfl, hc⟩
  rcases hc with ⟨rfl, hn⟩ | ⟨q, hq, rfl, hk⟩
  · have HN := Lib.hid hn
    clear hn
    go_wp2_with fail
    go_ret2
    exact .inl ⟨rfl, rfl, HN.out⟩
  · obtain ⟨g, cap, rfl, _, hg, hnc, hcm⟩ := own_at HH.out.row (by omega)
    obtain ⟨_, _, b2⟩ := gR_cells HH.out.row rfl q hq
    have hqI : (q : Int) < (rs.length : Int) := by omega
    have hq0 : ¬ (q : Int) < 0 := by omega
    have HO := Lib.hid (rout w1 r _ rs nx q HH.out hq)
    have HK := Lib.hid hk
    clear hk
    go_wp2_with fail
    refine HO.out.mono ?_
    rintro e w2 ⟨rfl, rv', s2, n2, t2⟩
    have S2 := Lib.hid s2
    have N2 := Lib.hid n2
    have T2 := Lib.hid t2
    clear s2 n2 t2
    go_wp2_with fail
    go_ret2
    exact .inr ⟨q, hq, HK.out, rfl, rv', S2.out, N2.out, T2.out⟩

def ChgY (w : World) (r : Nat) (rv : Value) (rs : List Tri) (nx : Nat) (k key : Int) (e : Ending) (w' : World) : Prop :=
  (e = .returned (.bool false) ∧ w' = w ∧ ∀ x ∈ rs, x.2.1 ≠ k) ∨
  ∃ q, q < rs.length ∧ (gR rs q).2.1 = k ∧ e = .returned (.bool true) ∧ RS w' r rv (rs.set q (key, (gR rs q).2.1, (gR rs q).2.2)) nx ∧ Turns (RSet r rv) w w'
set_option maxRecDepth 20000 in
set_option maxHeartbeats 4000000 in
theorem rchange (w : World) (r : Nat) (rv : Value) (rs : List Tri) (nx : Nat) (h : RS w r rv rs nx) (k key : Int) :
    Calls Try.prog 20 #[.pointer (some ⟨r, 0, none⟩), .int .i64 k, .int .i64 key] w (ChgY w r rv rs nx k key) := by
  have HH := Lib.hid h
  have hf := h.few
  have q0 := h.c0
  have HF := Lib.hid (rfind w r rv rs nx h k)
  clear h
  go_enter Try.func20, Try.ntmps20
  go_wp2_with fail
  refine HF.out.mono ?_
  rintro e w1 ⟨rfl, hc⟩
  rcases hc with ⟨rfl, hn⟩ | ⟨q, hq, rfl, hk⟩
  · have HN := Lib.hid hn
    clear hn
    go_wp2_with fail
    go_ret
    exact .inl ⟨rfl, rfl, HN.out⟩
  · obtain ⟨g, cap, rfl, hvb, hg, hnc, hcm⟩ := own_at HH.out.row (by omega)
    obtain ⟨b0, _, _⟩ := gR_cells HH.out.row rfl q hq
    have z0 := HH.out.row.frozenAt (q * 3)
    have hqI : (q : Int) < (rs.length : Int) := by omega
    have hq0 : ¬ (q : Int) < 0 := by omega
    have HK := Lib.hid hk
    clear hk
    go_wp2_with fail
    go_ret
    obtain ⟨A, B, hA, h1, h2⟩ := flat_split triC 3 triC_len rs q hq
    have hs : (rs.flatMap triC).set (q * 3) (.int .i64 key) = (rs.set q (key, (gR rs q).2.1, (gR rs q).2.2)).flatMap triC := by
      rw [h1, h2, set_at0 hA, ← gR_of hq]
      rfl
    have hrow := (HH.out.row.stored (q * 3) (.int .i64 key)).1
    rw [hs] at hrow
    refine .inr ⟨q, hq, HK.out, rfl, ⟨HH.out.blk.far (p := ⟨g, q * 3, none⟩) (fun e => own_ne_blk HH.out.row hvb HH.out.blk (by decide) e.symm) _, by simpa using hrow, by simpa using HH.out.few, HH.out.nx, fun e => ?_⟩, Turns.of_set (S := RSet r (.slice (some ⟨g, 0, none⟩) rs.length cap)) w1 ⟨g, q * 3, none⟩ _ (.inr rfl)⟩
    have := congrArg List.length e
    rw [List.length_set, List.length_nil] at this
    omega

def CpyY (w : World) (rs : List Tri) (nx : Nat) (e : Ending) (w' : World) : Prop :=
  ∃ c rv', e = .returned (.pointer (some ⟨c, 0, none⟩)) ∧ RS w' c rv' rs nx ∧ (∀ i, RSet c rv' i → w.heap.size ≤ i) ∧ Below w.heap.size w w'
set_option maxRecDepth 20000 in
set_option maxHeartbeats 8000000 in
theorem rcopy (w : World) (r : Nat) (rv : Value) (rs : List Tri) (nx : Nat) (h : RS w r rv rs nx) :
    Calls Try.prog 48 #[.pointer (some ⟨r, 0, none⟩)] w (CpyY w rs nx) := by
  obtain ⟨i0, hi0, hz0, hz1, hz2⟩ := info_parts info_rf
  have HH := Lib.hid h
  have hf := h.few
  have q1 := h.c1
  have hrl := h.blk.lt
  have hB := Below.new w (.cells #[.slice none 0 0, .int .i64 (nx : Int)] 43)
  have H1 := Lib.hid (h.bel hB)
  have W0 := Lib.hid (Blk.new w 43 [.slice none 0 0, .int .i64 (nx : Int)])
  have HB := Lib.hid hB
  clear hB h
  go_enter Try.func48, Try.ntmps48
  go_wp2_with fail
  generalize w.alloc (.cells #[.slice none 0 0, .int .i64 (nx : Int)] 43) = W at *
  generalize hc : w.heap.size = c at *
  have HC := Lib.hid hc
  clear hc q1
  have q0 := H1.out.c0
  have c0 := W0.out.cell 0
  have z0 := W0.out.fz 0
  simp only [List.getElem?_cons_zero] at c0
  have hcr : r ≠ c := by omega
  by_cases hn : rs = []
  · subst hn
    obtain rfl := H1.out.nil rfl
    have hnn : ∀ V ty, (Builtin.append_ #[41, 41] ty #[.slice none 0 0, .slice none 0 0]).run Try.prog V = .ok (.slice none 0 0) V := fun V ty => run_append_owned_none (P := Try.prog) (w := V) 0 41 ty 48 i0 3 Try.underlying41 hi0 _ 0 [] (World.ownsRow_nil _ _ _ _)
    have HW := Lib.hid (W0.out.drewN 1)
    have HBW := Lib.hid (below_drewN' (Below.refl W.heap.size W) 1)
    go_region_law (fail)
    all_goals
      go_wp2_with fail
      go_ret
      refine ⟨c, .slice none 0 0, rfl, ⟨HW.out.set 0 _, World.ownsRow_nil _ _ _ _, hf, H1.out.nx, fun _ => rfl⟩, ?_, by rw [HC.out]; exact below_drewN' (HB.out.setCell (p := ⟨c, 0, none⟩) (Nat.le_refl _) _) 1⟩
      rintro i (rfl | hi)
      · have := HC.out; omega
      · simp [Value.ownBlock] at hi
  · obtain ⟨g, cap, rfl, hvb, hg, hnc, hcm⟩ := own_at H1.out.row (List.length_pos_iff.2 hn)
    have hgc : g ≠ c := own_ne_blk H1.out.row hvb W0.out (by decide)
    have hpos := List.length_pos_iff.2 hn
    have hnews : ∀ j u, (rs.flatMap triC)[j]? = some u → W.drew.cell? ((⟨g, 0, none⟩ : Addr).add j) = some u := fun j u hj => by
      have e : (⟨g, 0, none⟩ : Addr).add j = ⟨g, j, none⟩ := by simp [Addr.add]; omega
      rw [e]
      have h1 := (List.getElem?_eq_some_iff.1 hj).1
      have h2 := H1.out.row.cellAt j (by have := H1.out.row.1; omega)
      exact h2.trans hj
    have HN := Lib.hid hnews
    have HL := Lib.hid H1.out.row.1
    have hone : Hid (∀ u ∈ rs.flatMap triC, u.oneCell' = true) := Lib.hid (fun u hu => by
      obtain ⟨x, _, hx⟩ := List.mem_flatMap.1 hu
      simp [triC] at hx
      rcases hx with rfl | rfl | rfl <;> rfl)
    have hl1 : Hid (0 + rs.length ≤ maxLen) := Lib.hid (by unfold maxLen; omega)
    have hl2 : Hid ((0 + rs.length) * 24 ≤ 140737488355328) := Lib.hid (by omega)
    have HW := Lib.hid (W0.out.drewN 1)
    have HBW := Lib.hid (below_drewN' (Below.refl W.heap.size W) 1)
    clear hnews hn
    go_region_law ((refine step_append_lies _ (by rfl) _ _ _ (by rfl) 0 48 i0 _ 3 24 Try.underlying41 hi0 hz0 hz1 hz2 rfl (by omega) (.slice none 0 0) 0 [] (by rfl) (World.ownsRow_nil _ _ _ _) ⟨g, 0, none⟩ rs.length cap (rs.flatMap triC) (by rfl) HL.out HN.out hone.out hpos hl1.out hl2.out (Nat.zero_le _) W.heap.size (by simp) ?_; intro ag cc1 y1 hown1 hgr1 hat1 hlt1; have hb4 := Lib.hid (HW.out.turns (.of_grown (S := fun _ => False) hgr1 (fun r e => by simp [Value.ownBlock] at e)) id); have d0 := hb4.out.cell 0; have y0z := hb4.out.fz 0; simp only [List.getElem?_cons_zero] at d0))
    all_goals
      go_wp2_with fail
      go_ret
      have hcW := W0.out.lt
      have hB1 := HB.out.trans (HBW.out.mono (by omega : c ≤ W.heap.size))
      have hB2 := hB1.grown hgr1 (by simp; omega) (fun r e => by simp [Value.ownBlock] at e)
      have hag : ag = W.heap.size := hat1.resolve_left (by simp [Value.ownBlock])
      rw [Nat.zero_add, List.nil_append] at hown1
      have TS : Turns (fun i => i = c) y1 (y1.setCell ⟨c, 0, none⟩ (.slice (some ⟨ag, 0, none⟩) rs.length cc1)) := (Turns.refl (fun i => i = c) y1).set ⟨c, 0, none⟩ _ (fun _ => rfl)
      have hrow := own_turns hown1 TS (fun g' hg' e => by simp [Value.ownBlock] at hg'; omega)
      refine ⟨c, .slice (some ⟨ag, 0, none⟩) rs.length cc1, rfl, ⟨hb4.out.set 0 _, hrow, hf, H1.out.nx, fun h => by rw [h] at hpos; simp at hpos⟩, ?_, by rw [HC.out]; exact hB2.setCell (p := ⟨c, 0, none⟩) (Nat.le_refl _) _⟩
      rintro i (rfl | hi)
      · have := HC.out; omega
      · simp [Value.ownBlock] at hi
        have := HC.out
        omega
end Go.Proofs.Ytoihhckiacmfcaa
