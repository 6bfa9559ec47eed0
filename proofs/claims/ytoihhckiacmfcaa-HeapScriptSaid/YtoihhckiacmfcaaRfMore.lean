/- The document's heap in memory: out, Peek, Pop, Remove, Change. -/
import Derived.Test.YtoihhckiacmfcaaRfMem
import Derived.Deep.OwnRows
namespace Go.Proofs.Ytoihhckiacmfcaa
open Go.RowKit

/-- a slice's row is the old one, or lies in new memory -/
def NextR (w : World) (v v' : Value) : Prop := ∀ g, v'.ownBlock = some g → v.ownBlock = some g ∨ w.heap.size ≤ g
theorem Next.r {w : World} {v v' : Value} (h : Next w v v') : NextR w v v' := fun g hg => by
  rcases h with e | ⟨g', e, hl⟩
  · exact .inl (by rw [← e]; exact hg)
  · rw [e] at hg
    injection hg with hg
    exact .inr (by omega)
theorem NextR.refl (w : World) (v : Value) : NextR w v v := fun _ h => .inl h
theorem NextR.lo {B r : Nat} {w : World} {rv rv' : Value} (n : NextR w rv rv') (h : ∀ i, RSet r rv i → B ≤ i) (hB : B ≤ w.heap.size) : ∀ i, RSet r rv' i → B ≤ i := by
  rintro i (rfl | hi)
  · exact h _ (.inl rfl)
  · rcases n i hi with e | hg
    · exact h i (.inr e)
    · omega
theorem erase_step {rs : List Tri} {i q : Nat} (hi : i < rs.length) (h : i ≠ q) : (rs.take (i + 1)).eraseIdx q = (rs.take i).eraseIdx q ++ [gR rs i] := by
  rw [List.take_succ_eq_append_getElem hi, gR_of hi]
  have hl : (rs.take i).length = i := by rw [List.length_take]; omega
  by_cases h1 : q < i
  · rw [List.eraseIdx_append_of_lt_length (by omega)]
  · rw [List.eraseIdx_of_length_le (by rw [List.length_append, hl]; simp; omega), List.eraseIdx_of_length_le (by omega)]
theorem erase_skip {rs : List Tri} {q : Nat} (hq : q < rs.length) : (rs.take (q + 1)).eraseIdx q = (rs.take q).eraseIdx q := by
  rw [List.take_succ_eq_append_getElem hq]
  have hl : (rs.take q).length = q := by rw [List.length_take]; omega
  rw [List.eraseIdx_append_of_length_le (by omega), List.eraseIdx_of_length_le (l := rs.take q) (by omega), hl]
  simp
def OutY (w : World) (r : Nat) (rv : Value) (rs : List Tri) (nx q : Nat) (e : Ending) (w' : World) : Prop :=
  e = .returned (.tuple #[]) ∧ ∃ rv', RS w' r rv' (rs.eraseIdx q) nx ∧ NextR w rv rv' ∧ Turns (fun i => i = r) w w'

set_option maxRecDepth 20000 in
set_option maxHeartbeats 4000000 in
theorem rout (w : World) (r : Nat) (rv : Value) (rs : List Tri) (nx q : Nat) (h : RS w r rv rs nx) (hq : q < rs.length) :
    Calls Try.prog 35 #[.pointer (some ⟨r, 0, none⟩), .int .i64 (q : Int)] w (OutY w r rv rs nx q) := by
  obtain ⟨i0, hi0, hz0, hz1, hz2⟩ := info_parts info_rf
  have HH := Lib.hid h
  have hf := h.few
  obtain ⟨A0, c0, rfl⟩ := own_slice' h.row
  have hel : Hid (∀ i, ((rs.take i).eraseIdx q).length ≤ 1000) := Lib.hid (fun i => by
    have := (List.eraseIdx_sublist (rs.take i) q).length_le
    rw [List.length_take] at this
    omega)
  clear h
  go_enter Try.func35, Try.ntmps35
  go_wp2_with fail
  go_loopw [4, 5] (fun lv iv wr => ∃ i : Nat, i ≤ rs.length ∧ iv = .int .i64 (i : Int) ∧ Hid (wr.ownsRow w.heap.size 48 3 lv ((rs.take i).eraseIdx q).length (((rs.take i).eraseIdx q).flatMap triC)) ∧ Hid ((rs.take i).eraseIdx q = [] → lv = .slice none 0 0) ∧ Hid (Below w.heap.size w wr)) (fun _ iv _ => rs.length - (intOf iv).toNat)
  case atStart => exact ⟨0, by omega, rfl, Lib.hid (by simpa using World.ownsRow_nil _ _ _ _), Lib.hid (fun _ => rfl), Lib.hid (Below.refl _ _)⟩
  case round =>
    obtain ⟨i, hi, rfl, hR, hV, hB⟩ := hrel
    have h2 := HH.out.bel hB.out
    have q0 := h2.c0
    by_cases hlt : i < rs.length
    · have hlt1 : (i : Int) < (rs.length : Int) := by omega
      obtain ⟨g, cap, e, _, hg, hnc, hcm⟩ := own_at h2.row (by omega)
      injection e with e1 _ e3
      subst e1 e3
      obtain ⟨b0, b1, b2⟩ := gR_cells h2.row rfl i hlt
      by_cases hc : i = q
      · subst hc
        have hs : Hid (wr.ownsRow w.heap.size 48 3 _ ((rs.take (i + 1)).eraseIdx i).length (((rs.take (i + 1)).eraseIdx i).flatMap triC)) := Lib.hid (by rw [erase_skip hlt]; exact hR.out)
        have hv2 := Lib.hid (by rw [erase_skip hlt]; exact hV.out : (rs.take (i + 1)).eraseIdx i = [] → _)
        clear h2
        go_wp2_with fail
        go_roundw
        case measure => simp only [intOf]; omega
        case rel => exact ⟨i + 1, by omega, by go_num, hs, hv2, hB⟩
      · have n1 : ((i : Int) != (q : Int)) = true := by rw [bne_iff_ne]; omega
        have hes := Lib.hid (erase_step hlt hc)
        obtain ⟨Al, cl, rfl⟩ := own_slice' hR.out
        have HA := Lib.hid (hR.out.alloc (.cells #[.int .i64 (gR rs i).1, .int .i64 (gR rs i).2.1, .int .i64 (gR rs i).2.2] 48))
        have HN := Lib.hid (Blk.news (Blk.new wr 48 [.int .i64 (gR rs i).1, .int .i64 (gR rs i).2.1, .int .i64 (gR rs i).2.2]))
        have hn := hel.out i
        have hl1 : Hid (((rs.take i).eraseIdx q).length + 1 ≤ maxLen) := Lib.hid (by unfold maxLen; omega)
        have hl2 : Hid ((((rs.take i).eraseIdx q).length + 1) * 24 ≤ 140737488355328) := Lib.hid (by omega)
        have HBS : Hid (w.heap.size ≤ (wr.alloc (.cells #[.int .i64 (gR rs i).1, .int .i64 (gR rs i).2.1, .int .i64 (gR rs i).2.2] 48)).heap.size) := Lib.hid (by have := hB.out.size; simp; omega)
        have HB1 := Lib.hid (hB.out.alloc hB.out.size (.cells #[.int .i64 (gR rs i).1, .int .i64 (gR rs i).2.1, .int .i64 (gR rs i).2.2] 48))
        have HLE : Hid (((rs.take (i + 1)).eraseIdx q).length = ((rs.take i).eraseIdx q).length + 1) := Lib.hid (by rw [hes.out, List.length_append]; rfl)
        have HFE : Hid (((rs.take (i + 1)).eraseIdx q).flatMap triC = ((rs.take i).eraseIdx q).flatMap triC ++ [.int .i64 (gR rs i).1, .int .i64 (gR rs i).2.1, .int .i64 (gR rs i).2.2]) := Lib.hid (by rw [hes.out, List.flatMap_append]; simp [triC])
        have hne : Hid ((rs.take (i + 1)).eraseIdx q ≠ []) := Lib.hid (by rw [hes.out]; simp)
        clear h2 hn hR
        generalize ((rs.take i).eraseIdx q).length = nl at *
        go_wp2_with (at_builtin; refine wpList_append_own_at _ rfl _ _ 41 rfl w.heap.size 48 i0 _ 3 24 Try.underlying41 hi0 hz0 hz1 hz2 rfl (by decide) _ _ _ rfl HA.out ⟨wr.heap.size, 0, none⟩ 1 1 [.int .i64 (gR rs i).1, .int .i64 (gR rs i).2.1, .int .i64 (gR rs i).2.2] rfl rfl HN.out (by intro u hu; simp at hu; rcases hu with rfl | rfl | rfl <;> rfl) hl1.out hl2.out HBS.out ?_; intro v1 y1 hown1 hgr1 _ _)
        go_roundw
        case measure => simp only [intOf]; omega
        case rel => exact ⟨i + 1, by omega, by go_num, Lib.hid (by rw [HLE.out, HFE.out]; exact hown1), Lib.hid (fun h => absurd h hne.out), Lib.hid (HB1.out.grown hgr1 HB1.out.size (fun r e => (own_lt HA.out e).1))⟩
    · have hlt1 : ¬ (i : Int) < (rs.length : Int) := by omega
      obtain rfl : i = rs.length := by omega
      have b0 := h2.blk.cell 0
      have z0 := h2.blk.fz 0
      simp only [List.getElem?_cons_zero] at b0
      have hR2 := hR.out
      have hv2 := hV.out
      rw [List.take_length] at hR2 hv2
      have HV2 := Lib.hid hv2
      clear hv2
      obtain ⟨Al, cl, rfl⟩ := own_slice' hR2
      have HR2 := Lib.hid hR2
      have HB2 := Lib.hid h2.blk
      clear hR hR2 h2 hlt
      go_wp2_with fail
      go_end0
      have hne : ∀ g, (Value.slice Al (rs.eraseIdx q).length cl).ownBlock = some g → g ≠ r := fun g hg e => by
        have h1 := (own_lt HR2.out hg).1
        have h2 := HH.out.blk.lt
        omega
      have TS : Turns (fun i => i = r) wr (wr.setCell ⟨r, 0, none⟩ (.slice Al (rs.eraseIdx q).length cl)) := (Turns.refl (fun i => i = r) wr).set ⟨r, 0, none⟩ _ (fun _ => rfl)
      refine ⟨rfl, _, ⟨HB2.out.set 0 _, ?_, ?_, HH.out.nx, HV2.out⟩, fun g hg => .inr (own_lt HR2.out hg).1, (Turns.of_below hB.out).then TS⟩
      · exact ownsRow_base' (own_turns HR2.out TS hne) (Nat.zero_le _)
      · have := hel.out rs.length; rwa [List.take_length] at this
end Go.Proofs.Ytoihhckiacmfcaa
