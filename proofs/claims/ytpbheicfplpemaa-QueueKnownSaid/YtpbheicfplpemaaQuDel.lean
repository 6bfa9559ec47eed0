/- queue: slices.Delete of one task. -/
import Derived.Test.YtpbheicfplpemaaQuPut
import Derived.Deep.RegionLaw
import Derived.Lib.SliceRun
import Derived.Laws.IdiomCopy
namespace Go.Proofs.Ytpbheicfplpemaa
open Go.RowKit

def setL (xs : List Value) (k : Nat) : List Value → List Value
  | [] => xs
  | v :: r => setL (xs.set k v) (k + 1) r
theorem setL_len : ∀ (vs xs : List Value) (k : Nat), (setL xs k vs).length = xs.length
  | [], _, _ => rfl
  | v :: r, xs, k => by rw [setL, setL_len r]; simp
theorem setL_get : ∀ (vs xs : List Value) (k j : Nat), k + vs.length ≤ xs.length → (setL xs k vs)[j]? = if k ≤ j ∧ j < k + vs.length then vs[j - k]? else xs[j]?
  | [], xs, k, j, _ => by rw [setL, if_neg (fun h => by simp only [List.length_nil] at h; omega)]
  | v :: r, xs, k, j, h => by
    simp only [List.length_cons] at h
    rw [setL, setL_get r (xs.set k v) (k + 1) j (by simp; omega)]
    by_cases h1 : j = k
    · subst h1
      rw [if_neg (by omega), if_pos (by simp), List.getElem?_set_self (by omega)]
      simp
    · by_cases h2 : k + 1 ≤ j ∧ j < k + 1 + r.length
      · rw [if_pos h2, if_pos (by simp; omega), show j - k = (j - (k + 1)) + 1 from by omega, List.getElem?_cons_succ]
      · rw [if_neg h2, if_neg (by simp; omega), List.getElem?_set_ne (by omega)]
theorem own_setCells {base n cap g : Nat} {e : TypeId} {size : Nat} : ∀ (vs xs : List Value) (k : Nat) (w : World), w.ownsRow base e size (.slice (some ⟨g, 0, none⟩) n cap) n xs → (w.setCells g k vs).ownsRow base e size (.slice (some ⟨g, 0, none⟩) n cap) n (setL xs k vs)
  | [], _, _, _, h => h
  | v :: r, xs, k, w, h => by
    rw [World.setCells, setL]
    exact own_setCells r (xs.set k v) (k + 1) _ (h.stored k v).1
theorem turns_setCells {g : Nat} : ∀ (vs : List Value) (k : Nat) (w : World), Turns (fun i => i = g) w (w.setCells g k vs)
  | [], _, w => Turns.refl _ w
  | v :: r, k, w => (Turns.of_set (S := fun i => i = g) w ⟨g, k, none⟩ v rfl).then (turns_setCells r (k + 1) _)
theorem flat_drop {α : Type} (f : α → List Value) (k : Nat) (hk : ∀ t, (f t).length = k) : ∀ (xs : List α) (m : Nat), (xs.flatMap f).drop (m * k) = (xs.drop m).flatMap f
  | [], m => by simp
  | x :: xs, 0 => by simp
  | x :: xs, m + 1 => by
    rw [List.drop_succ_cons, List.flatMap_cons, show (m + 1) * k = (f x).length + m * k from by rw [hk, Nat.add_mul]; omega, List.drop_append, Nat.add_sub_cancel_left, flat_drop f k hk xs m, List.drop_of_length_le (Nat.le_add_right _ _)]
    simp
/-- the cells behind the deletion -/
theorem del_cells (ts : List Tk) (i : Nat) (hi : i < ts.length) (zs : List Value) (hz : zs.length = 4) :
    (setL (setL (ts.flatMap tkC) (i * 4) ((ts.drop (i + 1)).flatMap tkC)) ((ts.length - 1) * 4) zs).take ((ts.length - 1) * 4) = (ts.eraseIdx i).flatMap tkC := by
  have hl : (ts.flatMap tkC).length = ts.length * 4 := flat_len tkC 4 tkC_len ts
  have hd : ((ts.drop (i + 1)).flatMap tkC).length = (ts.length - (i + 1)) * 4 := by rw [flat_len tkC 4 tkC_len, List.length_drop]
  have he : ((ts.eraseIdx i).flatMap tkC).length = (ts.length - 1) * 4 := by rw [flat_len tkC 4 tkC_len, List.length_eraseIdx_of_lt hi]
  apply List.ext_getElem?
  intro j
  by_cases hj : j < (ts.length - 1) * 4
  · rw [List.getElem?_take_of_lt hj, setL_get _ _ _ _ (by rw [setL_len, hl, hz]; omega), if_neg (by omega), setL_get _ _ _ _ (by rw [hl, hd]; omega)]
    rw [List.eraseIdx_eq_take_drop_succ, List.flatMap_append, ← flat_take tkC 4 tkC_len]
    have ht : ((ts.flatMap tkC).take (i * 4)).length = i * 4 := by rw [List.length_take, hl]; omega
    by_cases h1 : i * 4 ≤ j
    · rw [if_pos (by rw [hd]; omega), List.getElem?_append_right (by omega), ht]
    · rw [if_neg (by omega), List.getElem?_append_left (by omega), List.getElem?_take_of_lt (by omega)]
  · rw [List.getElem?_eq_none (by rw [List.length_take]; omega), List.getElem?_eq_none (by omega)]
def Z4 : List Value := [.string ⟨#[]⟩, .string ⟨#[]⟩, .int .i64 0, .int .i64 0]
theorem zeroTask (w : World) : (zeroValue 75).run Try.prog w = .ok (.agg #[.string ⟨#[]⟩, .string ⟨#[]⟩, .int .i64 0, .int .i64 0]) w := by kernel_rfl
theorem run_clear4 (w : World) (ty : TypeId) (b o c n : Nat) (hn : n = 1) (hc : ∀ j, j < 4 → (w.cell? ⟨b, o + j, none⟩).isSome = true) (hf : ∀ j, j < 4 → w.frozen? ⟨b, o + j, none⟩ = false) :
    (Builtin.clear_ #[58] ty #[.slice (some ⟨b, o, none⟩) n c]).run Try.prog w = .ok (.tuple #[]) (w.setCells b o Z4) := by
  subst hn
  have hzc : (Builtin.zeroCells (Value.agg #[.string ⟨#[]⟩, .string ⟨#[]⟩, .int .i64 0, .int .i64 0]).cells 1).toList = Z4 := by kernel_rfl
  have hst := run_storeCells_cells (P := Try.prog) b o Z4 0 w (fun j hj => hc j (by simpa [Z4] using hj)) (fun j hj => hf j (by simpa [Z4] using hj)) (by intro v hv; simp [Z4] at hv; rcases hv with rfl | rfl <;> rfl)
  simp only [Nat.add_zero] at hst
  simp [Builtin.clear_, run_underlying Try.underlying58, hzc, hst]

set_option maxRecDepth 20000 in
set_option maxHeartbeats 8000000 in
theorem deleteQ (w : World) (g cap : Nat) (ts : List Tk) (i : Nat) (h : w.ownsRow 0 75 4 (.slice (some ⟨g, 0, none⟩) ts.length cap) ts.length (ts.flatMap tkC)) (hi : i < ts.length) (hf : ts.length ≤ 100000) :
    Calls Try.prog 33 #[.slice (some ⟨g, 0, none⟩) ts.length cap, .int .i64 (i : Int), .int .i64 ((i : Int) + 1)] w fun e w' => e = .returned (.slice (some ⟨g, 0, none⟩) (ts.length - 1) cap) ∧ w'.ownsRow 0 75 4 (.slice (some ⟨g, 0, none⟩) (ts.length - 1) cap) (ts.length - 1) ((ts.eraseIdx i).flatMap tkC) ∧ Turns (fun j => j = g) w w' := by
  obtain ⟨i0, hi0, hz0, hz1, hz2⟩ := info_parts info_task
  obtain ⟨g', cap', e, _, hgl, hnc, hcm⟩ := own_at h (by omega)
  simp at e
  obtain ⟨rfl, rfl⟩ := e
  have hl : (ts.flatMap tkC).length = ts.length * 4 := flat_len tkC 4 tkC_len ts
  have hd : ((ts.drop (i + 1)).flatMap tkC).length = (ts.length - (i + 1)) * 4 := by rw [flat_len tkC 4 tkC_len, List.length_drop]
  obtain ⟨j, hj⟩ : ∃ j, j = i + 1 := ⟨_, rfl⟩
  rw [show (i : Int) + 1 = (j : Int) from by omega]
  obtain ⟨A, hA, hsrc⟩ : ∃ A : Addr, (if cap = j then some (⟨g, 0, none⟩ : Addr) else some ⟨g, j * 4, none⟩) = some A ∧ Hid (∀ j u, ((ts.drop (i + 1)).flatMap tkC)[j]? = some u → w.drew.cell? (A.add j) = some u) := by
    by_cases hc : cap = j
    · refine ⟨⟨g, 0, none⟩, by simp [hc], Lib.hid (fun j' u hu => ?_)⟩
      subst hj
      rw [List.drop_of_length_le (by omega)] at hu
      simp at hu
    · refine ⟨⟨g, j * 4, none⟩, by simp [hc], Lib.hid (fun j' u hu => ?_)⟩
      subst hj
      rw [← flat_drop tkC 4 tkC_len, List.getElem?_drop] at hu
      have hjl := (List.getElem?_eq_some_iff.1 hu).1
      have e : (⟨g, (i + 1) * 4, none⟩ : Addr).add j' = ⟨g, (i + 1) * 4 + j', none⟩ := by simp [Addr.add]
      rw [e]
      exact (h.cellAt _ (by omega)).trans hu
  have s1 : Hid (((ts.drop (i + 1)).flatMap tkC).length = (ts.length - j) * 4) := Lib.hid (by rw [hd, hj])
  have s2 : Hid (∀ u ∈ (ts.drop (i + 1)).flatMap tkC, u.oneCell' = true) := Lib.hid (fun u hu => by
    obtain ⟨x, _, hx⟩ := List.mem_flatMap.1 hu
    simp [tkC] at hx
    rcases hx with rfl | rfl | rfl | rfl <;> rfl)
  have s3 : Hid (∀ j, j < ((ts.drop (i + 1)).flatMap tkC).length → (w.drew.cell? ⟨g, 0 + i * 4 + j, none⟩).isSome = true ∧ w.drew.frozen? ⟨g, 0 + i * 4 + j, none⟩ = false) := Lib.hid (fun j hj => by
    rw [hd] at hj
    rw [Nat.zero_add]
    refine ⟨?_, h.frozenAt _⟩
    have := h.cellAt (i * 4 + j) (by omega)
    rw [show w.drew.cell? ⟨g, i * 4 + j, none⟩ = w.cell? ⟨g, i * 4 + j, none⟩ from rfl, this, List.getElem?_eq_getElem (by omega)]
    rfl)
  obtain ⟨W1, hW1⟩ : ∃ W1, W1 = w.drew.setCells g (0 + i * 4) ((ts.drop (i + 1)).flatMap tkC) := ⟨_, rfl⟩
  have hR1 : W1.ownsRow 0 75 4 (.slice (some ⟨g, 0, none⟩) ts.length cap) ts.length (setL (ts.flatMap tkC) (i * 4) ((ts.drop (i + 1)).flatMap tkC)) := by
    rw [hW1, Nat.zero_add]
    exact own_setCells _ _ _ _ (own_turns h ((Turns.refl (fun _ => False) w).drewN 1) (fun _ _ => id))
  have hT1 : Turns (fun j => j = g) w W1 := by
    rw [hW1]
    exact ((Turns.refl (fun j => j = g) w).drewN 1).then (turns_setCells _ _ _)
  have hN : i + (ts.length - j) = ts.length - 1 := by omega
  have hcl : ∀ ty, (Builtin.clear_ #[58] ty #[.slice (some ⟨g, (i + (ts.length - j)) * 4, none⟩) (ts.length - (i + (ts.length - j))) (cap - (i + (ts.length - j)))]).run Try.prog W1 = .ok (.tuple #[]) (W1.setCells g ((i + (ts.length - j)) * 4) Z4) := fun ty =>
    run_clear4 W1 ty g _ _ _ (by omega) (fun j' hj' => by
      have := hR1.cellAt ((i + (ts.length - j)) * 4 + j') (by omega)
      rw [this, List.getElem?_eq_getElem (by rw [setL_len, hl]; omega)]
      rfl) (fun j' hj' => hR1.frozenAt _)
  have HW := Lib.hid hW1
  have HR1 := Lib.hid hR1
  have HT1 := Lib.hid hT1
  have HN := Lib.hid hN
  have hij : ((i : Int) == (j : Int)) = false := beq_eq_false_iff_ne.2 (by omega)
  have hle : (i : Int) ≤ (j : Int) := by omega
  have hle2 : (j : Int) ≤ (ts.length : Int) := by omega
  have hleN : i ≤ j := by omega
  have hle2N : j ≤ ts.length := by omega
  have hic : i ≤ cap := by omega
  have hjc : j ≤ cap := by omega
  have hcI : (ts.length : Int) ≤ (cap : Int) := by omega
  have hcN : (cap : Int) ≤ 9223372036854775807 := by unfold maxLen at hcm; omega
  have HJ := Lib.hid hj
  clear hW1 hR1 hT1 hN h hl hd hf hj
  go_enter Try.func33, Try.ntmps33
  go_wp2_with fail
  go_region_law (refine step_append_room rfl (.tmp 22) (.tmp 25) 58 rfl 75 i0 4 Try.underlying58 hi0 hz1 g 0 i cap (by simp [Act.eval, Act.put]) A (ts.length - j) (cap - j) ((ts.drop (i + 1)).flatMap tkC) (by simp [Act.eval, Act.put]) s1.out hsrc.out s2.out (by omega) s3.out ?_; rw [← HW.out])
  go_wp2_with fail
  · exfalso
    have := HJ.out
    omega
  · go_ret
    have hj := HJ.out
    have hN := HN.out
    rw [hN]
    have hr := own_setCells Z4 _ ((ts.length - 1) * 4) _ HR1.out
    have ht := own_take (m := ts.length - 1) hr (by omega)
    refine ⟨rfl, ?_, HT1.out.then (turns_setCells _ _ _)⟩
    rw [← del_cells ts i hi Z4 rfl]
    exact ht
end Go.Proofs.Ytpbheicfplpemaa
