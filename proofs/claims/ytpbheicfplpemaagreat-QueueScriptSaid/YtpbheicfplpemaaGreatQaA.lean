/- QaA: texts of queue's claims, merged (a claim may hold few texts) -/
import Derived.Test.YtpbheicfplpemaaGreatQuPut
import Derived.Deep.RegionLaw
import Derived.Lib.SliceRun
import Derived.Laws.IdiomCopy
import Derived.Lib.SlicesS
import Derived.Deep.CutRange
import Derived.Maps.OwnSet
namespace Go.Proofs.YtpbheicfplpemaaGreat
open Go.RowKit

def setL (xs : List Value) (k : Nat) : List Value → List Value
  | [] => xs
  | v :: r => setL (xs.set k v) (k + 1) r
theorem setL_len : ∀ (vs xs : List Value) (k : Nat), (setL xs k vs).length = xs.length
  | [], _, _ => rfl
  | v :: r, xs, k => by rw [setL, setL_len r]; simp
theorem setL_get : ∀ (vs xs : List Value) (k j : Nat), k + vs.length ≤ xs.length → (setL xs k vs)[j]? = if k ≤ j ∧ j < k + vs.length then vs[j - k]? else xs[j]?
  | [], xs, k, j, _ => by rw [setL, if_neg (fun h => by simp only [List.length_nil] at h; omega)]
  | v :: r, xs, k, j, h => by
    simp only [List.length_cons] at h
    rw [setL, setL_get r (xs.set k v) (k + 1) j (by simp; omega)]
    by_cases h1 : j = k
    · subst h1
      rw [if_neg (by omega), if_pos (by simp), List.getElem?_set_self (by omega)]
      simp
    · by_cases h2 : k + 1 ≤ j ∧ j < k + 1 + r.length
      · rw [if_pos h2, if_pos (by simp; omega), show j - k = (j - (k + 1)) + 1 from by omega, List.getElem?_cons_succ]
      · rw [if_neg h2, if_neg (by simp; omega), List.getElem?_set_ne (by omega)]
theorem own_setCells {base n cap g : Nat} {e : TypeId} {size : Nat} : ∀ (vs xs : List Value) (k : Nat) (w : World), w.ownsRow base e size (.slice (some ⟨g, 0, none⟩) n cap) n xs → (w.setCells g k vs).ownsRow base e size (.slice (some ⟨g, 0, none⟩) n cap) n (setL xs k vs)
  | [], _, _, _, h => h
  | v :: r, xs, k, w, h => by
    rw [World.setCells, setL]
    exact own_setCells r (xs.set k v) (k + 1) _ (h.stored k v).1
theorem turns_setCells {g : Nat} : ∀ (vs : List Value) (k : Nat) (w : World), Turns (fun i => i = g) w (w.setCells g k vs)
  | [], _, w => Turns.refl _ w
  | v :: r, k, w => (Turns.of_set (S := fun i => i = g) w ⟨g, k, none⟩ v rfl).then (turns_setCells r (k + 1) _)
theorem flat_drop {α : Type} (f : α → List Value) (k : Nat) (hk : ∀ t, (f t).length = k) : ∀ (xs : List α) (m : Nat), (xs.flatMap f).drop (m * k) = (xs.drop m).flatMap f
  | [], m => by simp
  | x :: xs, 0 => by simp
  | x :: xs, m + 1 => by
    rw [List.drop_succ_cons, List.flatMap_cons, show (m + 1) * k = (f x).length + m * k from by rw [hk, Nat.add_mul]; omega, List.drop_append, Nat.add_sub_cancel_left, flat_drop f k hk xs m, List.drop_of_length_le (Nat.le_add_right _ _)]
    simp
/-- the cells behind the deletion -/
theorem del_cells (ts : List Tk) (i : Nat) (hi : i < ts.length) (zs : List Value) (hz : zs.length = 4) :
    (setL (setL (ts.flatMap tkC) (i * 4) ((ts.drop (i + 1)).flatMap tkC)) ((ts.length - 1) * 4) zs).take ((ts.length - 1) * 4) = (ts.eraseIdx i).flatMap tkC := by
  have hl : (ts.flatMap tkC).length = ts.length * 4 := flat_len tkC 4 tkC_len ts
  have hd : ((ts.drop (i + 1)).flatMap tkC).length = (ts.length - (i + 1)) * 4 := by rw [flat_len tkC 4 tkC_len, List.length_drop]
  have he : ((ts.eraseIdx i).flatMap tkC).length = (ts.length - 1) * 4 := by rw [flat_len tkC 4 tkC_len, List.length_eraseIdx_of_lt hi]
  apply List.ext_getElem?
  intro j
  by_cases hj : j < (ts.length - 1) * 4
  · rw [List.getElem?_take_of_lt hj, setL_get _ _ _ _ (by rw [setL_len, hl, hz]; omega), if_neg (by omega), setL_get _ _ _ _ (by rw [hl, hd]; omega)]
    rw [List.eraseIdx_eq_take_drop_succ, List.flatMap_append, ← flat_take tkC 4 tkC_len]
    have ht : ((ts.flatMap tkC).take (i * 4)).length = i * 4 := by rw [List.length_take, hl]; omega
    by_cases h1 : i * 4 ≤ j
    · rw [if_pos (by rw [hd]; omega), List.getElem?_append_right (by omega), ht]
    · rw [if_neg (by omega), List.getElem?_append_left (by omega), List.getElem?_take_of_lt (by omega)]
  · rw [List.getElem?_eq_none (by rw [List.length_take]; omega), List.getElem?_eq_none (by omega)]
def Z4 : List Value := [.string ⟨#[]⟩, .string ⟨#[]⟩, .int .i64 0, .int .i64 0]
theorem zeroTask (w : World) : (zeroValue 85).run Tryz.prog w = .ok (.agg #[.string ⟨#[]⟩, .string ⟨#[]⟩, .int .i64 0, .int .i64 0]) w := by kernel_rfl
theorem run_clear4 (w : World) (ty : TypeId) (b o c n : Nat) (hn : n = 1) (hc : ∀ j, j < 4 → (w.cell? ⟨b, o + j, none⟩).isSome = true) (hf : ∀ j, j < 4 → w.frozen? ⟨b, o + j, none⟩ = false) :
    (Builtin.clear_ #[80] ty #[.slice (some ⟨b, o, none⟩) n c]).run Tryz.prog w = .ok (.tuple #[]) (w.setCells b o Z4) := by
  subst hn
  have hzc : (Builtin.zeroCells (Value.agg #[.string ⟨#[]⟩, .string ⟨#[]⟩, .int .i64 0, .int .i64 0]).cells 1).toList = Z4 := by kernel_rfl
  have hst := run_storeCells_cells (P := Tryz.prog) b o Z4 0 w (fun j hj => hc j (by simpa [Z4] using hj)) (fun j hj => hf j (by simpa [Z4] using hj)) (by intro v hv; simp [Z4] at hv; rcases hv with rfl | rfl <;> rfl)
  simp only [Nat.add_zero] at hst
  simp [Builtin.clear_, run_underlying Tryz.underlying80, hzc, hst]

set_option maxRecDepth 20000 in
set_option maxHeartbeats 8000000 in
theorem deleteQ (w : World) (g cap : Nat) (ts : List Tk) (i : Nat) (h : w.ownsRow 0 85 4 (.slice (some ⟨g, 0, none⟩) ts.length cap) ts.length (ts.flatMap tkC)) (hi : i < ts.length) (hf : ts.length ≤ 100000) :
    Calls Tryz.prog 47 #[.slice (some ⟨g, 0, none⟩) ts.length cap, .int .i64 (i : Int), .int .i64 ((i : Int) + 1)] w fun e w' => e = .returned (.slice (some ⟨g, 0, none⟩) (ts.length - 1) cap) ∧ w'.ownsRow 0 85 4 (.slice (some ⟨g, 0, none⟩) (ts.length - 1) cap) (ts.length - 1) ((ts.eraseIdx i).flatMap tkC) ∧ Turns (fun j => j = g) w w' := by
  obtain ⟨i0, hi0, hz0, hz1, hz2⟩ := info_parts info_task
  obtain ⟨g', cap', e, _, hgl, hnc, hcm⟩ := own_at h (by omega)
  simp at e
  obtain ⟨rfl, rfl⟩ := e
  have hl : (ts.flatMap tkC).length = ts.length * 4 := flat_len tkC 4 tkC_len ts
  have hd : ((ts.drop (i + 1)).flatMap tkC).length = (ts.length - (i + 1)) * 4 := by rw [flat_len tkC 4 tkC_len, List.length_drop]
  obtain ⟨j, hj⟩ : ∃ j, j = i + 1 := ⟨_, rfl⟩
  rw [show (i : Int) + 1 = (j : Int) from by omega]
  obtain ⟨A, hA, hsrc⟩ : ∃ A : Addr, (if cap = j then some (⟨g, 0, none⟩ : Addr) else some ⟨g, j * 4, none⟩) = some A ∧ Hid (∀ j u, ((ts.drop (i + 1)).flatMap tkC)[j]? = some u → w.drew.cell? (A.add j) = some u) := by
    by_cases hc : cap = j
    · refine ⟨⟨g, 0, none⟩, by simp [hc], Lib.hid (fun j' u hu => ?_)⟩
      subst hj
      rw [List.drop_of_length_le (by omega)] at hu
      simp at hu
    · refine ⟨⟨g, j * 4, none⟩, by simp [hc], Lib.hid (fun j' u hu => ?_)⟩
      subst hj
      rw [← flat_drop tkC 4 tkC_len, List.getElem?_drop] at hu
      have hjl := (List.getElem?_eq_some_iff.1 hu).1
      have e : (⟨g, (i + 1) * 4, none⟩ : Addr).add j' = ⟨g, (i + 1) * 4 + j', none⟩ := by simp [Addr.add]
      rw [e]
      exact (h.cellAt _ (by omega)).trans hu
  have s1 : Hid (((ts.drop (i + 1)).flatMap tkC).length = (ts.length - j) * 4) := Lib.hid (by rw [hd, hj])
  have s2 : Hid (∀ u ∈ (ts.drop (i + 1)).flatMap tkC, u.oneCell' = true) := Lib.hid (fun u hu => by
    obtain ⟨x, _, hx⟩ := List.mem_flatMap.1 hu
    simp [tkC] at hx
    rcases hx with rfl | rfl | rfl | rfl <;> rfl)
  have s3 : Hid (∀ j, j < ((ts.drop (i + 1)).flatMap tkC).length → (w.drew.cell? ⟨g, 0 + i * 4 + j, none⟩).isSome = true ∧ w.drew.frozen? ⟨g, 0 + i * 4 + j, none⟩ = false) := Lib.hid (fun j hj => by
    rw [hd] at hj
    rw [Nat.zero_add]
    refine ⟨?_, h.frozenAt _⟩
    have := h.cellAt (i * 4 + j) (by omega)
    rw [show w.drew.cell? ⟨g, i * 4 + j, none⟩ = w.cell? ⟨g, i * 4 + j, none⟩ from rfl, this, List.getElem?_eq_getElem (by omega)]
    rfl)
  obtain ⟨W1, hW1⟩ : ∃ W1, W1 = w.drew.setCells g (0 + i * 4) ((ts.drop (i + 1)).flatMap tkC) := ⟨_, rfl⟩
  have hR1 : W1.ownsRow 0 85 4 (.slice (some ⟨g, 0, none⟩) ts.length cap) ts.length (setL (ts.flatMap tkC) (i * 4) ((ts.drop (i + 1)).flatMap tkC)) := by
    rw [hW1, Nat.zero_add]
    exact own_setCells _ _ _ _ (own_turns h ((Turns.refl (fun _ => False) w).drewN 1) (fun _ _ => id))
  have hT1 : Turns (fun j => j = g) w W1 := by
    rw [hW1]
    exact ((Turns.refl (fun j => j = g) w).drewN 1).then (turns_setCells _ _ _)
  have hN : i + (ts.length - j) = ts.length - 1 := by omega
  have hcl : ∀ ty, (Builtin.clear_ #[80] ty #[.slice (some ⟨g, (i + (ts.length - j)) * 4, none⟩) (ts.length - (i + (ts.length - j))) (cap - (i + (ts.length - j)))]).run Tryz.prog W1 = .ok (.tuple #[]) (W1.setCells g ((i + (ts.length - j)) * 4) Z4) := fun ty =>
    run_clear4 W1 ty g _ _ _ (by omega) (fun j' hj' => by
      have := hR1.cellAt ((i + (ts.length - j)) * 4 + j') (by omega)
      rw [this, List.getElem?_eq_getElem (by rw [setL_len, hl]; omega)]
      rfl) (fun j' hj' => hR1.frozenAt _)
  have HW := Lib.hid hW1
  have HR1 := Lib.hid hR1
  have HT1 := Lib.hid hT1
  have HN := Lib.hid hN
  have hij : ((i : Int) == (j : Int)) = false := beq_eq_false_iff_ne.2 (by omega)
  have hle : (i : Int) ≤ (j : Int) := by omega
  have hle2 : (j : Int) ≤ (ts.length : Int) := by omega
  have hleN : i ≤ j := by omega
  have hle2N : j ≤ ts.length := by omega
  have hic : i ≤ cap := by omega
  have hjc : j ≤ cap := by omega
  have hcI : (ts.length : Int) ≤ (cap : Int) := by omega
  have hcN : (cap : Int) ≤ 9223372036854775807 := by unfold maxLen at hcm; omega
  have HJ := Lib.hid hj
  clear hW1 hR1 hT1 hN h hl hd hf hj
  go_enter Tryz.func47, Tryz.ntmps47
  go_wp2_with fail
  go_region_law (refine step_append_room rfl (.tmp 22) (.tmp 25) 80 rfl 85 i0 4 Tryz.underlying80 hi0 hz1 g 0 i cap (by simp [Act.eval, Act.put]) A (ts.length - j) (cap - j) ((ts.drop (i + 1)).flatMap tkC) (by simp [Act.eval, Act.put]) s1.out hsrc.out s2.out (by omega) s3.out ?_; rw [← HW.out])
  go_wp2_with fail
  · exfalso
    have := HJ.out
    omega
  · go_ret
    have hj := HJ.out
    have hN := HN.out
    rw [hN]
    have hr := own_setCells Z4 _ ((ts.length - 1) * 4) _ HR1.out
    have ht := own_take (m := ts.length - 1) hr (by omega)
    refine ⟨rfl, ?_, HT1.out.then (turns_setCells _ _ _)⟩
    rw [← del_cells ts i hi Z4 rfl]
    exact ht
end Go.Proofs.YtpbheicfplpemaaGreat

namespace Go.Proofs.YtpbheicfplpemaaGreat
open Go.RowKit

def addI (a b : Int) : Int := if 0 < b ∧ 9223372036854775807 - b < a then 9223372036854775807 else if b < 0 ∧ a < -9223372036854775808 - b then -9223372036854775808 else a + b
theorem addQ (w : World) (a b : Int) (ha : -9223372036854775808 ≤ a ∧ a ≤ 9223372036854775807) (hb : -9223372036854775808 ≤ b ∧ b ≤ 9223372036854775807) :
    Calls Tryz.prog 48 #[.int .i64 a, .int .i64 b] w fun e w' => e = .returned (.int .i64 (addI a b)) ∧ w' = w := by
  by_cases h1 : 0 < b
  · have q1 : decide (0 < b) = true := decide_eq_true h1
    have q1' : decide (b < 0) = false := decide_eq_false (by omega)
    by_cases h2 : 9223372036854775807 - b < a
    · have q2 : decide (9223372036854775807 - b < a) = true := decide_eq_true h2
      have e : addI a b = 9223372036854775807 := by rw [addI, if_pos ⟨h1, h2⟩]
      rw [e]
      go_enter Tryz.func48, Tryz.ntmps48
      go_wp2_with fail
      go_ret
      exact ⟨rfl, rfl⟩
    · have q2 : decide (9223372036854775807 - b < a) = false := decide_eq_false h2
      have e : addI a b = a + b := by rw [addI, if_neg (by omega), if_neg (by omega)]
      rw [e]
      go_enter Tryz.func48, Tryz.ntmps48
      go_wp2_with fail
      go_ret
      exact ⟨rfl, rfl⟩
  · have q1 : decide (0 < b) = false := decide_eq_false h1
    by_cases h3 : b < 0
    · have q3 : decide (b < 0) = true := decide_eq_true h3
      by_cases h2 : a < -9223372036854775808 - b
      · have q2 : decide (a < -9223372036854775808 - b) = true := decide_eq_true h2
        have e : addI a b = -9223372036854775808 := by rw [addI, if_neg (by omega), if_pos ⟨h3, h2⟩]
        rw [e]
        go_enter Tryz.func48, Tryz.ntmps48
        go_wp2_with fail
        go_ret
        exact ⟨rfl, rfl⟩
      · have q2 : decide (a < -9223372036854775808 - b) = false := decide_eq_false h2
        have e : addI a b = a + b := by rw [addI, if_neg (by omega), if_neg (by omega)]
        rw [e]
        go_enter Tryz.func48, Tryz.ntmps48
        go_wp2_with fail
        go_ret
        exact ⟨rfl, rfl⟩
    · have q3 : decide (b < 0) = false := decide_eq_false h3
      have e : addI a b = a + b := by rw [addI, if_neg (by omega), if_neg (by omega)]
      rw [e]
      go_enter Tryz.func48, Tryz.ntmps48
      go_wp2_with fail
      go_ret
      exact ⟨rfl, rfl⟩

theorem empty_ne {b : ByteArray} (h : ¬ b = ⟨#[]⟩) : b.toList.isEmpty = false := by
  rw [ByteArray.toList_eq]
  cases e : b.data.toList with
  | nil => exact absurd (ByteArray.ext (Array.toList_inj.mp (by rw [e]))) h
  | cons => rfl
def isForI (grace : Int) (who : ByteArray) (now : Int) (t : Tk) : Bool := decide (t.ready ≤ now) && (decide (t.sticky = ⟨#[]⟩) || decide (t.sticky = who) || decide (addI t.ready grace ≤ now))
set_option maxRecDepth 20000 in
set_option maxHeartbeats 4000000 in
theorem isForQ (w : World) (q : Nat) (grace : Int) (t : Tk) (who : ByteArray) (now : Int) (hql : q < w.heap.size) (hc : w.cell? ⟨q, 1, none⟩ = some (.int .i64 grace)) (hg : -9223372036854775808 ≤ grace ∧ grace ≤ 9223372036854775807) (hr : -9223372036854775808 ≤ t.ready ∧ t.ready ≤ 9223372036854775807) :
    Calls Tryz.prog 46 #[.pointer (some ⟨q, 0, none⟩), tkV t, .string who, .int .i64 now] w fun e w' => e = .returned (.bool (isForI grace who now t)) ∧ Below w.heap.size w w' := by
  have KB := Lib.hid (Blk.new w 85 [.string t.key, .string t.sticky, .int .i64 t.ready, .int .i64 t.att])
  have hB := Lib.hid (Below.new w (.cells #[.string t.key, .string t.sticky, .int .i64 t.ready, .int .i64 t.att] 85))
  have HX : Hid ((w.alloc (.cells #[.string t.key, .string t.sticky, .int .i64 t.ready, .int .i64 t.att] 85)).cell? ⟨q, 1, none⟩ = some (.int .i64 grace)) := Lib.hid ((hB.out.cell hql).trans hc)
  have HA := fun X => Lib.hid (addQ X t.ready grace hr hg)
  clear hc
  unfold tkV
  go_enter Tryz.func46, Tryz.ntmps46
  go_wp2_with fail
  generalize w.alloc (.cells #[.string t.key, .string t.sticky, .int .i64 t.ready, .int .i64 t.att] 85) = X at *
  have hX := HX.out
  have u1 := KB.out.cell 1
  have u2 := KB.out.cell 2
  simp only [List.getElem?_cons_succ, List.getElem?_cons_zero] at u1 u2
  by_cases h1 : t.ready ≤ now
  · have q1 : decide (t.ready ≤ now) = true := decide_eq_true h1
    by_cases h2 : t.sticky = ⟨#[]⟩
    · have e : isForI grace who now t = true := by simp [isForI, h1, h2]
      go_quiet (fail)
      go_wp2_with fail
      go_ret
      exact ⟨by first | rfl | (rw [e]; rfl), below_drewN' hB.out _⟩
    · have q2 := empty_ne h2
      by_cases h3 : t.sticky = who
      · have e : isForI grace who now t = true := by simp [isForI, h1, h3]
        have q3 := (Lib.bytes_beq_iff t.sticky who).2 h3
        clear h3
        go_quiet (fail)
        go_wp2_with fail
        go_ret
        exact ⟨by first | rfl | (rw [e]; rfl), below_drewN' hB.out _⟩
      · have q3 := (Lib.bytes_beq_false_iff t.sticky who).2 h3
        have e : isForI grace who now t = decide (addI t.ready grace ≤ now) := by simp [isForI, h1, h2, h3]
        go_quiet ((go_at_call 48; exact Calls.quiet_of_same (HA _).out))
        go_wp2_with fail
        go_ret
        exact ⟨by first | rfl | (rw [e]; rfl), below_drewN' hB.out _⟩
  · have q1 : decide (t.ready ≤ now) = false := decide_eq_false h1
    have e : isForI grace who now t = false := by simp [isForI, h1]
    go_quiet (fail)
    go_wp2_with fail
    go_ret
    exact ⟨by first | rfl | (rw [e]; rfl), below_drewN' hB.out _⟩
end Go.Proofs.YtpbheicfplpemaaGreat

namespace Go.Proofs.YtpbheicfplpemaaGreat
open Go.RowKit

def gT (ts : List Tk) (j : Nat) : Tk := ts.getD j ⟨⟨#[]⟩, ⟨#[]⟩, 0, 0⟩
theorem gT_of {ts : List Tk} {j : Nat} (h : j < ts.length) : gT ts j = ts[j] := by simp [gT, List.getD, h]
theorem gT_mem {ts : List Tk} {j : Nat} (h : j < ts.length) : gT ts j ∈ ts := by rw [gT_of h]; exact List.getElem_mem h
theorem gT_cells {w : World} {rv : Value} {ts : List Tk} (h : w.ownsRow 0 85 4 rv ts.length (ts.flatMap tkC)) {g n cap : Nat} (he : rv = .slice (some ⟨g, 0, none⟩) n cap) (j : Nat) (hj : j < ts.length) :
    w.cell? ⟨g, j * 4, none⟩ = some (.string (gT ts j).key) ∧ w.cell? ⟨g, j * 4 + 1, none⟩ = some (.string (gT ts j).sticky) ∧ w.cell? ⟨g, j * 4 + 2, none⟩ = some (.int .i64 (gT ts j).ready) ∧ w.cell? ⟨g, j * 4 + 3, none⟩ = some (.int .i64 (gT ts j).att) := by
  subst he
  have hn : n = ts.length := by
    rcases h.2 with ⟨h0, _⟩ | ⟨g', cap', cur, hv, _⟩
    · cases h0
    · cases hv; rfl
  subst hn
  have hx : ∀ i, i < 4 → w.cell? ⟨g, j * 4 + i, none⟩ = (tkC (gT ts j))[i]? := fun i hi => by
    rw [h.cellAt _ (by omega), flat_get tkC 4 tkC_len ts j i hi, List.getElem?_eq_getElem hj, gT_of hj]
    rfl
  have h0 := hx 0 (by omega)
  rw [Nat.add_zero] at h0
  exact ⟨h0, hx 1 (by omega), hx 2 (by omega), hx 3 (by omega)⟩
def IdxP (pred : Tk → Bool) (ts : List Tk) (a : Int) : Prop := (a = -1 ∧ ∀ t ∈ ts, pred t = false) ∨ ∃ i : Nat, i < ts.length ∧ a = (i : Int) ∧ pred (gT ts i) = true ∧ ∀ j, j < i → pred (gT ts j) = false
def tkRdy (t : Tk) : Prop := -9223372036854775808 ≤ t.ready ∧ t.ready ≤ 9223372036854775807

set_option maxRecDepth 20000 in
set_option maxHeartbeats 4000000 in
theorem closeQ (w : World) (q bq bw bn : Nat) (grace : Int) (t : Tk) (who : ByteArray) (now : Int) (hql : q < w.heap.size) (hbl : bq < w.heap.size ∧ bw < w.heap.size ∧ bn < w.heap.size) (hc : w.cell? ⟨q, 1, none⟩ = some (.int .i64 grace)) (h0 : w.cell? ⟨bq, 0, none⟩ = some (.pointer (some ⟨q, 0, none⟩))) (h1 : w.cell? ⟨bw, 0, none⟩ = some (.string who)) (h2 : w.cell? ⟨bn, 0, none⟩ = some (.int .i64 now)) (hg : -9223372036854775808 ≤ grace ∧ grace ≤ 9223372036854775807) (hr : tkRdy t) :
    Calls Tryz.prog 45 #[tkV t, .pointer (some ⟨bq, 0, none⟩), .pointer (some ⟨bw, 0, none⟩), .pointer (some ⟨bn, 0, none⟩)] w fun e w' => e = .returned (.bool (isForI grace who now t)) ∧ Below w.heap.size w w' := by
  have hB := Lib.hid (Below.new w (.cells #[.string t.key, .string t.sticky, .int .i64 t.ready, .int .i64 t.att] 85))
  have KB := Lib.hid (Blk.new w 85 [.string t.key, .string t.sticky, .int .i64 t.ready, .int .i64 t.att])
  have HX := Lib.hid ((hB.out.cell (p := ⟨q, 1, none⟩) hql).trans hc)
  have G0 := Lib.hid ((hB.out.cell (p := ⟨bq, 0, none⟩) hbl.1).trans h0)
  have G1 := Lib.hid ((hB.out.cell (p := ⟨bw, 0, none⟩) hbl.2.1).trans h1)
  have G2 := Lib.hid ((hB.out.cell (p := ⟨bn, 0, none⟩) hbl.2.2).trans h2)
  have HF := fun X (hl : q < X.heap.size) hc' => Lib.hid (isForQ X q grace t who now hl hc' hg hr)
  clear hc h0 h1 h2
  unfold tkV at HF ⊢
  go_enter Tryz.func45, Tryz.ntmps45
  go_upto_region 1 with (fail)
  generalize w.alloc (.cells #[.string t.key, .string t.sticky, .int .i64 t.ready, .int .i64 t.att] 85) = X at *
  have g0 := G0.out
  have g1 := G1.out
  have g2 := G2.out
  have u0 := KB.out.cell 0
  have u1 := KB.out.cell 1
  have u2 := KB.out.cell 2
  have u3 := KB.out.cell 3
  simp only [List.getElem?_cons_succ, List.getElem?_cons_zero] at u0 u1 u2 u3
  have hqX : q < X.heap.size := by have := hB.out.size; omega
  have HC := HF X hqX HX.out
  clear HF
  go_wp2_with (go_at_call 46; refine HC.out.mono ?_; rintro e w2 ⟨rfl, hb2⟩; have HB2 := Lib.hid (below_trans' hB.out hb2); clear hb2)
  go_ret
  exact ⟨rfl, HB2.out⟩

set_option maxRecDepth 20000 in
set_option maxHeartbeats 4000000 in
theorem indexQ (w : World) (wv : Value) (ts : List Tk) (h : w.ownsRow 0 85 4 wv ts.length (ts.flatMap tkC)) (hf : ts.length ≤ 100000) (pred : Tk → Bool) (b1 b2 b3 : Value)
    (hcl : ∀ X, Below w.heap.size w X → ∀ t ∈ ts, Calls Tryz.prog 45 #[tkV t, b1, b2, b3] X fun e w' => e = .returned (.bool (pred t)) ∧ Below X.heap.size X w') :
    Calls Tryz.prog 44 #[wv, .func (.func 45) #[] #[b1, b2, b3]] w fun e w' => ∃ a, e = .returned (.int .i64 a) ∧ IdxP pred ts a ∧ Below w.heap.size w w' := by
  have HH := Lib.hid h
  obtain ⟨A0, c0, rfl⟩ := own_slice' h
  have HC := Lib.hid hcl
  clear h hcl
  go_enter Tryz.func44, Tryz.ntmps44
  go_wp2_with fail
  go_loopw [8] (fun iv wr => ∃ i : Nat, i ≤ ts.length ∧ iv = .int .i64 (i : Int) ∧ Hid (∀ j, j < i → pred (gT ts j) = false) ∧ Hid (Below w.heap.size w wr)) (fun iv _ => ts.length - (intOf iv).toNat)
  case atStart => exact ⟨0, by omega, rfl, Lib.hid (fun j hj => absurd hj (Nat.not_lt_zero _)), Lib.hid (Below.refl _ _)⟩
  case round =>
    obtain ⟨i, hi, rfl, hF, hB⟩ := hrel
    by_cases hlt : i < ts.length
    · have hlt1 : (i : Int) < (ts.length : Int) := by omega
      have hrow := own_turns HH.out (.of_below (S := fun _ => False) hB.out) (fun _ _ => id)
      obtain ⟨g, cap, e, _, hg, hnc, hcm⟩ := own_at hrow (by omega)
      injection e with e1 _ e3
      subst e1 e3
      obtain ⟨d0, d1, d2, d3⟩ := gT_cells hrow rfl i hlt
      have hc := Lib.hid (HC.out wr hB.out (gT ts i) (gT_mem hlt))
      unfold tkV at hc
      clear hrow
      by_cases hp : pred (gT ts i) = true
      · rw [hp] at hc
        go_wp2_with fail
        refine hc.out.mono ?_
        rintro e w2 ⟨rfl, hb2⟩
        have HB2 := Lib.hid (below_trans' hB.out hb2)
        clear hb2 hc
        go_wp2_with fail
        go_ret
        exact ⟨_, rfl, .inr ⟨i, hlt, rfl, hp, hF.out⟩, HB2.out⟩
      · rw [Bool.not_eq_true] at hp
        have HF2 : Hid (∀ j, j < i + 1 → pred (gT ts j) = false) := Lib.hid (fun j hj => by
          by_cases e : j = i
          · subst e; exact hp
          · exact hF.out j (by omega))
        rw [hp] at hc
        go_wp2_with fail
        refine hc.out.mono ?_
        rintro e w2 ⟨rfl, hb2⟩
        have HB2 := Lib.hid (below_trans' hB.out hb2)
        clear hb2 hc
        go_wp2_with fail
        go_roundw
        case measure => simp only [intOf]; omega
        case rel => exact ⟨i + 1, by omega, by go_num, HF2, HB2⟩
    · have hlt1 : ¬ (i : Int) < (ts.length : Int) := by omega
      go_wp2_with fail
      go_ret
      refine ⟨_, rfl, .inl ⟨rfl, fun x hx => ?_⟩, hB.out⟩
      obtain ⟨j, hj, rfl⟩ := List.mem_iff_getElem.1 hx
      have := hF.out j (by omega)
      rwa [gT_of hj] at this
end Go.Proofs.YtpbheicfplpemaaGreat

namespace Go.Proofs.YtpbheicfplpemaaGreat
open Go.RowKit

theorem results_tmp4 {fn : Func} {t u v x : Tmp} (h : fn.results = #[.tmp t, .tmp u, .tmp v, .tmp x]) (tmps : Array Value) (P : Program) (w : World) :
    (results fn tmps).run P w = .ok (.tuple #[tmps.getD t undef, tmps.getD u undef, tmps.getD v undef, tmps.getD x undef]) w := by
  simp [results, h]

theorem wrap64' (n : Int) (h1 : -9223372036854775808 ≤ n) (h2 : n ≤ 9223372036854775807) : IntKind.i64.wrap n = n := by
  rw [IntKind.wrap_i64]; omega

/-- the boxes of Poll's closure -/
structure PB (X : World) (b0 b1 b2 q : Nat) (who : ByteArray) (now : Int) : Prop where
  l0 : b0 < X.heap.size
  l1 : b1 < X.heap.size
  l2 : b2 < X.heap.size
  c0 : X.cell? ⟨b0, 0, none⟩ = some (.pointer (some ⟨q, 0, none⟩))
  c1 : X.cell? ⟨b1, 0, none⟩ = some (.string who)
  c2 : X.cell? ⟨b2, 0, none⟩ = some (.int .i64 now)
theorem PB.keep {S : Nat → Prop} {X Y : World} {b0 b1 b2 q : Nat} {who : ByteArray} {now : Int} (h : PB X b0 b1 b2 q who now) (k : Turns S X Y) (h0 : ¬ S b0) (h1 : ¬ S b1) (h2 : ¬ S b2) : PB Y b0 b1 b2 q who now :=
  ⟨Nat.lt_of_lt_of_le h.l0 k.size, Nat.lt_of_lt_of_le h.l1 k.size, Nat.lt_of_lt_of_le h.l2 k.size, (k.cell (p := ⟨b0, 0, none⟩) h.l0 h0).trans h.c0, (k.cell (p := ⟨b1, 0, none⟩) h.l1 h1).trans h.c1, (k.cell (p := ⟨b2, 0, none⟩) h.l2 h2).trans h.c2⟩

theorem PB.new (w : World) (q : Nat) (who : ByteArray) (now : Int) (t0 t1 t2 : TypeId) : PB (((w.alloc (.cells #[.pointer (some ⟨q, 0, none⟩)] t0)).alloc (.cells #[.string who] t1)).alloc (.cells #[.int .i64 now] t2)) w.heap.size (w.heap.size + 1) (w.heap.size + 1 + 1) q who now := by
  have K0 := ((Blk.new w t0 [.pointer (some ⟨q, 0, none⟩)]).alloc (.cells #[.string who] t1)).alloc (.cells #[.int .i64 now] t2)
  have K1 := (Blk.new2 w (.cells #[.pointer (some ⟨q, 0, none⟩)] t0) t1 [.string who]).alloc (.cells #[.int .i64 now] t2)
  have K2 := Blk.new3 w (.cells #[.pointer (some ⟨q, 0, none⟩)] t0) (.cells #[.string who] t1) t2 [.int .i64 now]
  exact ⟨K0.lt, K1.lt, K2.lt, K0.cell 0, K1.cell 0, K2.cell 0⟩

def PollY (w : World) (q : Nat) (most grace next : Int) (wv : Value) (ts : List Tk) (O T : Nat) (om : Int → Option Ot) (tm : ByteArray → Option Int) (who : ByteArray) (now lease : Int) (e : Ending) (w' : World) : Prop :=
  (e = .returned (.tuple #[.string ⟨#[]⟩, .int .i64 0, .int .i64 0, .int .i64 5]) ∧ (∀ t ∈ ts, isForI grace who now t = false) ∧ Below w.heap.size w w') ∨
  ∃ i wv', i < ts.length ∧ isForI grace who now (gT ts i) = true ∧ (∀ j, j < i → isForI grace who now (gT ts j) = false) ∧
    e = .returned (.tuple #[.string (gT ts i).key, .int .i64 next, .int .i64 ((gT ts i).att + 1), .int .i64 0]) ∧
    QS w' q most grace (next + 1) wv' (ts.eraseIdx i) O T (updI om next ⟨{ gT ts i with att := (gT ts i).att + 1 }, next, who, addI now lease⟩) (updS tm (gT ts i).key next) ∧ NextR w wv wv' ∧ Turns (QSet q wv O T) w w'
set_option maxRecDepth 20000 in
set_option maxHeartbeats 8000000 in
theorem pollQ (w : World) (q : Nat) (most grace next : Int) (wv : Value) (ts : List Tk) (O T : Nat) (om : Int → Option Ot) (tm : ByteArray → Option Int) (h : QS w q most grace next wv ts O T om tm) (who : ByteArray) (now lease : Int) (hnx : next < 1000000000) (hle : 1 ≤ lease ∧ lease ≤ 9223372036854775807) (hno : -9223372036854775808 ≤ now ∧ now ≤ 9223372036854775807) (hg : -9223372036854775808 ≤ grace ∧ grace ≤ 9223372036854775807) (hr : ∀ t ∈ ts, tkRdy t) (hat : ∀ t ∈ ts, 0 ≤ t.att ∧ t.att ≤ 1000000000) :
    Calls Tryz.prog 14 #[.pointer (some ⟨q, 0, none⟩), .string who, .int .i64 now, .int .i64 lease] w (PollY w q most grace next wv ts O T om tm who now lease) := by
  obtain ⟨A0, c0, rfl⟩ := own_slice' h.row
  have HH := Lib.hid h
  have hql := h.blk.lt
  have q1 : decide (lease < 1) = false := decide_eq_false (by omega)
  clear h
  go_enter Tryz.func14, Tryz.ntmps14
  go_upto_region 1 with (fail)
  have hbX := Below.new3 w (.cells #[.pointer (some ⟨q, 0, none⟩)] 24) (.cells #[.string who] 9) (.cells #[.int .i64 now] 2)
  have PX := Lib.hid (PB.new w q who now 24 9 2)
  have HX := Lib.hid (HH.out.bel hbX)
  have BX := Lib.hid hbX
  clear hbX
  generalize ((w.alloc (.cells #[.pointer (some ⟨q, 0, none⟩)] 24)).alloc (.cells #[.string who] 9)).alloc (.cells #[.int .i64 now] 2) = X at *
  generalize hb0 : w.heap.size = b0 at *
  generalize hb1 : b0 + 1 = b1 at *
  generalize hb2 : b1 + 1 = b2 at *
  have HB0 := Lib.hid hb0
  have HB1 := Lib.hid hb1
  have HB2 := Lib.hid hb2
  clear hb0 hb1 hb2
  have p0 := PX.out.c0
  have p1 := PX.out.c1
  have p2 := PX.out.c2
  obtain ⟨_, _, k2, k3, _, _⟩ := HX.out.cells
  have HM := Lib.hid (made1 X q next HH.out.pos k2)
  go_wp2_with (go_at_call 39; refine HM.out.mono ?_; rintro e w' ⟨rfl, rfl⟩)
  have hI := Lib.hid (indexQ w' _ ts HX.out.row HH.out.few (isForI grace who now) (.pointer (some ⟨b0, 0, none⟩)) (.pointer (some ⟨b1, 0, none⟩)) (.pointer (some ⟨b2, 0, none⟩)) (fun Y hY t ht => by
    have hP := PX.out.keep (.of_below (S := fun _ => False) hY) (fun h => h) (fun h => h) (fun h => h)
    obtain ⟨_, kg, _⟩ := (HX.out.bel hY).cells
    exact closeQ Y q b0 b1 b2 grace t who now (HX.out.bel hY).blk.lt ⟨hP.l0, hP.l1, hP.l2⟩ kg hP.c0 hP.c1 hP.c2 hg (hr t ht)))
  refine hI.out.mono ?_
  rintro e X1 ⟨a, rfl, hidx, hbx1⟩
  clear hI HM k2 k3 p0 p1 p2
  have HX1 := Lib.hid (HX.out.bel hbx1)
  have P1 := Lib.hid (PX.out.keep (.of_below (S := fun _ => False) hbx1) (fun h => h) (fun h => h) (fun h => h))
  have B1 := Lib.hid (BX.out.trans (hbx1.mono (by have := BX.out.size; have := HB0.out; omega)))
  clear hbx1 HX PX BX
  have p0 := P1.out.c0
  have p1 := P1.out.c1
  have p2 := P1.out.c2
  obtain ⟨_, _, k2, k3, k4, k5⟩ := HX1.out.cells
  rcases hidx with ⟨rfl, hno⟩ | ⟨i, hi, rfl, hp, hj⟩
  · go_wp2_with fail
    refine bodyPost_ret (results_tmp4 rfl _ _ _) rfl ?_
    exact .inl ⟨rfl, hno, by have := B1.out; rwa [← HB0.out] at this⟩
  · have HP := Lib.hid hp
    have HJ := Lib.hid hj
    have hlt1 : (i : Int) < (ts.length : Int) := by omega
    have n0 : decide ((i : Int) < 0) = false := decide_eq_false (by omega)
    obtain ⟨g, cap, e, _, hgl, hnc, hcm⟩ := own_at HX1.out.row (by omega)
    injection e with e1 _ e3
    subst e1 e3
    obtain ⟨d0, d1, d2, d3⟩ := gT_cells HX1.out.row rfl i hi
    clear hp hj
    go_upto_region 7 with (fail)
    have hbY := Below.new X1 (.cells #[.string (gT ts i).key, .string (gT ts i).sticky, .int .i64 (gT ts i).ready, .int .i64 (gT ts i).att] 85)
    have HY : Hid (QS (X1.alloc (.cells #[.string (gT ts i).key, .string (gT ts i).sticky, .int .i64 (gT ts i).ready, .int .i64 (gT ts i).att] 85)).drew q most grace next (.slice (some ⟨g, 0, none⟩) ts.length c0) ts O T om tm) := Lib.hid ((HX1.out.bel hbY).bel (below_drewN' (Below.refl _ _) 1))
    have HQ := Lib.hid (show ∀ j, QSet q (.slice (some ⟨g, 0, none⟩) ts.length c0) O T j → j < b0 from fun j hj => by have := HH.out.lts j hj; have := HB0.out; omega)
    have hb01 := HB1.out
    have hb12 := HB2.out
    have hb2l := P1.out.l2
    have PY : Hid (PB (X1.alloc (.cells #[.string (gT ts i).key, .string (gT ts i).sticky, .int .i64 (gT ts i).ready, .int .i64 (gT ts i).att] 85)).drew b0 b1 b2 q who now) := Lib.hid ((P1.out.keep (.of_below (S := fun _ => False) hbY) (fun h => h) (fun h => h) (fun h => h)).keep ((Turns.refl (fun _ => False) _).drewN 1) (fun h => h) (fun h => h) (fun h => h))
    have BY : Hid (Below b0 w (X1.alloc (.cells #[.string (gT ts i).key, .string (gT ts i).sticky, .int .i64 (gT ts i).ready, .int .i64 (gT ts i).att] 85)).drew) := Lib.hid (below_drewN' (B1.out.trans (hbY.mono (show b0 ≤ X1.heap.size from by have := B1.out.size; have := HB0.out; omega))) 1)
    have KY : Hid (Blk (X1.alloc (.cells #[.string (gT ts i).key, .string (gT ts i).sticky, .int .i64 (gT ts i).ready, .int .i64 (gT ts i).att] 85)).drew X1.heap.size 85 [.string (gT ts i).key, .string (gT ts i).sticky, .int .i64 (gT ts i).ready, .int .i64 (gT ts i).att]) := Lib.hid ((Blk.new X1 85 [.string (gT ts i).key, .string (gT ts i).sticky, .int .i64 (gT ts i).ready, .int .i64 (gT ts i).att]).drewN 1)
    clear hbY HX1 P1 B1 p0 p1 p2 k2 k3 k4 k5 d0 d1 d2 d3
    generalize X1.alloc (.cells #[.string (gT ts i).key, .string (gT ts i).sticky, .int .i64 (gT ts i).ready, .int .i64 (gT ts i).att] 85) = Y at *
    generalize hl : X1.heap.size = l at *
    clear hl
    have p0 : Y.cell? _ = _ := PY.out.c0
    obtain ⟨_, _, _, k3, _, _⟩ := HY.out.cells
    have k3 : Y.cell? _ = _ := k3
    have hw1 : IntKind.i64.wrap ((i : Int) + 1) = (i : Int) + 1 := wrap64' _ (by omega) (by have := HH.out.few; omega)
    have hD := Lib.hid (deleteQ Y.drew g c0 ts i HY.out.row hi HH.out.few)
    have hgb : g < b0 := HQ.out g (.inr (.inr (.inr rfl)))
    have hqb : q < b0 := HQ.out q (.inl rfl)
    have hqg : q ≠ g := fun e => own_ne_blk HY.out.row (g := g) rfl HY.out.blk (by decide) e.symm
    have KEEP : Hid (∀ w2, w2.ownsRow 0 85 4 (.slice (some ⟨g, 0, none⟩) (ts.length - 1) c0) (ts.length - 1) ((ts.eraseIdx i).flatMap tkC) → Turns (fun j => j = g) Y.drew w2 →
        Blk w2 q 82 [.int .i64 most, .int .i64 grace, .int .i64 next, .slice (some ⟨g, 0, none⟩) ts.length c0, .map (some O), .map (some T)] ∧ PB w2 b0 b1 b2 q who now ∧ Blk w2 l 85 [.string (gT ts i).key, .string (gT ts i).sticky, .int .i64 (gT ts i).ready, .int .i64 (gT ts i).att]) := Lib.hid (fun w2 _ ht =>
      ⟨HY.out.blk.turns ht hqg, PY.out.keep ht (by omega) (by omega) (by omega), KY.out.turns ht (by omega)⟩)
    have hnp := HH.out.pos
    have hat1 := hat _ (gT_mem hi)
    go_cut [36] from 36 to 46 (fun _ wx => Hid (Blk wx q 82 [.int .i64 most, .int .i64 grace, .int .i64 next, .slice (some ⟨g, 0, none⟩) (ts.length - 1) c0, .map (some O), .map (some T)] ∧ wx.ownsRow 0 85 4 (.slice (some ⟨g, 0, none⟩) (ts.length - 1) c0) (ts.length - 1) ((ts.eraseIdx i).flatMap tkC) ∧ PB wx b0 b1 b2 q who now ∧ Blk wx l 85 [.string (gT ts i).key, .string (gT ts i).sticky, .int .i64 (gT ts i).ready, .int .i64 (gT ts i).att] ∧ Turns (fun j => j = g ∨ j = q) Y.drew wx))
    case first =>
      go_region_law (go_simp; go_at_call 47; refine hD.out.mono ?_; rintro e w2 ⟨rfl, hr2, ht2⟩; obtain ⟨hb2, hp2, hk2⟩ := KEEP.out w2 hr2 ht2; have HB := Lib.hid hb2; have PW := Lib.hid hp2; have KW := Lib.hid hk2; have R2 := Lib.hid hr2; have T2 := Lib.hid ht2; have e0 := hp2.c0; have f2 := hb2.cell 2; have f3 := hb2.cell 3; have f3z := hb2.fz 3; have f2z := hb2.fz 2; have k3 := hk2.cell 3; have k3z := hk2.fz 3; simp only [List.getElem?_cons_succ, List.getElem?_cons_zero] at f2 f3 k3; clear hb2 hp2 hk2 hr2 ht2)
      all_goals
        go_wp2_with fail
        go_meet
        case rel =>
          have TS : Turns (fun j => j = q) w2 (w2.setCell ⟨q, 3, none⟩ (.slice (some ⟨g, 0, none⟩) (ts.length - 1) c0)) := (Turns.refl (fun j => j = q) w2).set ⟨q, 3, none⟩ _ (fun _ => rfl)
          exact Lib.hid ⟨HB.out.set 3 _, own_turns R2.out TS (fun g' hg' e => by simp [Value.ownBlock] at hg'; exact hqg (by rw [← e, hg'])), PW.out.keep TS (by omega) (by omega) (by omega), KW.out.turns TS (by omega), (T2.out.mono (fun _ _ e => .inl e)).trans TS (fun _ _ e => .inr e)⟩
    case rest =>
      have hqL : q ≠ l := by omega
      have e0 := hcut.out.2.2.1.c0
      have f2 := hcut.out.1.cell 2
      have f2z := hcut.out.1.fz 2
      have k3 := hcut.out.2.2.2.1.cell 3
      have k3z := hcut.out.2.2.2.1.fz 3
      simp only [List.getElem?_cons_succ, List.getElem?_cons_zero] at f2 k3
      go_upto_region 11 with (fail)
      have TL : Turns (fun j => j = l ∨ j = q) wc ((wc.setCell ⟨l, 3, none⟩ (.int .i64 ((gT ts i).att + 1))).setCell ⟨q, 2, none⟩ (.int .i64 (next + 1))) := ((Turns.refl _ wc).set ⟨l, 3, none⟩ _ (fun _ => .inl rfl)).set ⟨q, 2, none⟩ _ (fun _ => .inr rfl)
      have ZB := Lib.hid ((hcut.out.1.far (p := ⟨l, 3, none⟩) hqL (.int .i64 ((gT ts i).att + 1))).set 2 (.int .i64 (next + 1)))
      have ZR := Lib.hid (own_turns hcut.out.2.1 TL (fun g' hg' e => by simp [Value.ownBlock] at hg'; omega))
      have ZP := Lib.hid (hcut.out.2.2.1.keep TL (by omega) (by omega) (by omega))
      have ZK := Lib.hid ((hcut.out.2.2.2.1.set 3 (.int .i64 ((gT ts i).att + 1))).far (p := ⟨q, 2, none⟩) (Ne.symm hqL) (.int .i64 (next + 1)))
      have ZT := Lib.hid ((hcut.out.2.2.2.2.mono (T := fun j => j = g ∨ j = q ∨ j = l) (fun _ _ e => e.imp id .inl)).trans TL (fun _ _ e => .inr e.symm))
      clear TL hcut e0 f2 f2z k3 k3z
      generalize (wc.setCell ⟨l, 3, none⟩ (.int .i64 ((gT ts i).att + 1))).setCell ⟨q, 2, none⟩ (.int .i64 (next + 1)) = Z at *
      have e0 := ZP.out.c0
      have e1 := ZP.out.c1
      have e2 := ZP.out.c2
      have f4 := ZB.out.cell 4
      have m0 := ZK.out.cell 0
      have m1 := ZK.out.cell 1
      have m2 := ZK.out.cell 2
      have m3 := ZK.out.cell 3
      simp only [List.set_cons_succ, List.set_cons_zero, List.getElem?_cons_succ, List.getElem?_cons_zero] at f4 m0 m1 m2 m3
      have HA := Lib.hid (addQ Z.drew now lease hno ⟨by omega, by omega⟩)
      refine wp_tail 12 (by kernel_rfl) (by kernel_rfl) ?_
      simp only [List.take_succ_cons, List.take_zero, List.drop_succ_cons, List.drop_zero]
      repeat still_step
      still_call HA.out
      repeat still_step
      refine wpStill_nil ?_
      clear e0 e1 e2 f4 m0 m1 m2 m3
      obtain ⟨nO, hO⟩ := HY.out.outs
      obtain ⟨nT, hT⟩ := HY.out.there
      have hOb : O < b0 := HQ.out O (.inr (.inl rfl))
      have hTb : T < b0 := HQ.out T (.inr (.inr (.inl rfl)))
      have hOq : O ≠ q := hO.ne_cells HY.out.blk
      have hTq : T ≠ q := hT.ne_cells HY.out.blk
      have hOg : O ≠ g := fun e => own_ne_map HY.out.row (g := g) rfl hO e.symm
      have hTg : T ≠ g := fun e => own_ne_map HY.out.row (g := g) rfl hT e.symm
      have hZd : Below Z.heap.size Z Z.drew := below_drewN' (Below.refl Z.heap.size Z) 1
      have ZO := (hO.turns ZT.out (by omega)).below hZd
      have ZM := Lib.hid ((hT.turns ZT.out (by omega)).below hZd)
      clear hO hT
      refine wpl_update (w := Z.drew) rfl _ _ _ 78 rfl (int_keys Tryz.underlying3) Tryz.underlying78 ZO next (otV ⟨{ gT ts i with att := (gT ts i).att + 1 }, next, who, addI now lease⟩) rfl rfl rfl ?_
      intro w3 hm3 ht3
      have TO : Turns (fun j => j = O) Z.drew w3 := .of_map (S := fun j => j = O) ht3 rfl
      have HM3 := Lib.hid hm3
      have B3 := Lib.hid ((ZB.out.drewN 1).turns TO (Ne.symm hOq))
      have R3 := Lib.hid (own_turns (own_turns ZR.out (.of_below (S := fun _ => False) hZd) (fun _ _ => id)) TO (fun g' hg' e => by simp [Value.ownBlock] at hg'; omega))
      have P3 := Lib.hid ((ZP.out.keep (.of_below (S := fun _ => False) hZd) (fun h => h) (fun h => h) (fun h => h)).keep TO (by omega) (by omega) (by omega))
      have K3 := Lib.hid ((ZK.out.drewN 1).turns TO (by omega))
      have M3 := Lib.hid (ZM.out.turns TO (fun e => HY.out.ne e.symm))
      have T3 := Lib.hid (((ZT.out.drewN 1).mono (T := fun j => j = g ∨ j = q ∨ j = l ∨ j = O) (fun _ _ e => by omega)).trans TO (fun _ _ e => .inr (.inr (.inr e))))
      clear hm3 ht3 TO ZO hZd
      have e0 := P3.out.c0
      have f5 := B3.out.cell 5
      have m0 := K3.out.cell 0
      simp only [List.set_cons_succ, List.set_cons_zero, List.getElem?_cons_succ, List.getElem?_cons_zero] at f5 m0
      go_upto_region 12 with (fail)
      refine wp_tail 7 (by kernel_rfl) (by kernel_rfl) ?_
      simp only [List.take_succ_cons, List.take_zero, List.drop_succ_cons, List.drop_zero]
      repeat still_step
      refine wpStill_nil ?_
      clear e0 f5 m0
      have h3d : Below w3.heap.size w3 w3.drew := below_drewN' (Below.refl w3.heap.size w3) 1
      refine wpl_update (w := w3.drew) rfl _ _ _ 79 rfl (str_keys Tryz.underlying9) Tryz.underlying79 (M3.out.below h3d) (gT ts i).key (.int .i64 next) rfl rfl rfl ?_
      intro w4 hm4 ht4
      have TT : Turns (fun j => j = T) w3.drew w4 := .of_map (S := fun j => j = T) ht4 rfl
      have HM4 := Lib.hid hm4
      have B4 := Lib.hid ((B3.out.drewN 1).turns TT (Ne.symm hTq))
      have R4 := Lib.hid (own_turns (own_turns R3.out (.of_below (S := fun _ => False) h3d) (fun _ _ => id)) TT (fun g' hg' e => by simp [Value.ownBlock] at hg'; omega))
      have K4 := Lib.hid ((K3.out.drewN 1).turns TT (by omega))
      have O4 := Lib.hid ((HM3.out.below h3d).turns TT HY.out.ne)
      have T4 := Lib.hid (((T3.out.drewN 1).mono (T := fun j => j = g ∨ j = q ∨ j = l ∨ j = O ∨ j = T) (fun _ _ e => by omega)).trans TT (fun _ _ e => .inr (.inr (.inr (.inr e)))))
      clear hm4 ht4 TT h3d
      have m0 := K4.out.cell 0
      have m3 := K4.out.cell 3
      simp only [List.set_cons_succ, List.set_cons_zero, List.getElem?_cons_succ, List.getElem?_cons_zero] at m0 m3
      go_upto_region 13 with (fail)
      go_quiet (fail)
      clear m0 m3
      go_wp2_with fail
      refine bodyPost_ret (results_tmp4 rfl _ _ _) rfl ?_
      have h4d := below_drewN' (Below.refl w4.heap.size w4) nq
      have hel : (ts.eraseIdx i).length = ts.length - 1 := List.length_eraseIdx_of_lt hi
      have hO4 : ∃ n, MapIs kInt (w4.drewN nq) O (oV (updI om next ⟨{ gT ts i with att := (gT ts i).att + 1 }, next, who, addI now lease⟩)) n := ⟨_, by
        have := O4.out.below h4d
        rw [oV_upd] at this
        exact this⟩
      have hT4 : ∃ n, MapIs kStr (w4.drewN nq) T (sV (updS tm (gT ts i).key next)) n := ⟨_, by
        have := HM4.out.below h4d
        rw [sV_upd] at this
        exact this⟩
      refine .inr ⟨i, .slice (some ⟨g, 0, none⟩) (ts.length - 1) c0, hi, HP.out, HJ.out, rfl, ⟨by simpa using B4.out.bel h4d, ?_, hO4, hT4, HH.out.ne, by rw [hel]; have := HH.out.few; omega, by have := HH.out.pos; omega, by omega⟩, fun g' hg' => .inl (by simpa [Value.ownBlock] using hg'), ?_⟩
      · rw [hel]
        exact own_turns R4.out (.of_below (S := fun _ => False) h4d) (fun _ _ => id)
      · have hw := HB0.out
        have hby := BY.out
        rw [← hw] at hby
        have hT4 := T4.out.drewN nq
        refine (Turns.of_below (S := QSet q (.slice (some ⟨g, 0, none⟩) ts.length c0) O T) hby).trans (T4.out.drewN nq) (fun j hj e => ?_)
        rcases e with e | e | e | e | e
        · exact .inr (.inr (.inr (by rw [e]; rfl)))
        · exact .inl e
        · omega
        · exact .inr (.inl e)
        · exact .inr (.inr (.inl e))
end Go.Proofs.YtpbheicfplpemaaGreat

namespace Go.Proofs.YtpbheicfplpemaaGreat
open Go.RowKit

theorem results_T2 {P : Program} {fn : Func} {p u : Tmp} {ty : TypeId} (h : fn.results = #[.cell p ty, .tmp u]) (tmps : Array Value) (w : World) (g : Nat) (t : TypeId) (cs : Array Value) (fr : Nat × Nat) (d : TypeDesc)
    (hp : tmps.getD p undef = .pointer (some ⟨g, 0, none⟩)) (hg : w.heap[g]? = some (.cells cs t fr))
    (hu : P.underlying ty = some d) (hd : (match d with | .struct _ | .array _ _ => true | _ => false) = true) (hi : (P.info? ty).map (·.size) = some cs.size) :
    (results fn tmps).run P w = .ok (.tuple #[.agg cs, tmps.getD u undef]) w := by
  have hp' : tmps[p]?.getD undef = .pointer (some ⟨g, 0, none⟩) := by simpa using hp
  simp [results, h, hp', asAddr, run_loadVar_row w g t ty cs fr d hg hu hd hi]
def otL (x : Ot) : List Value := [.string x.tk.key, .string x.tk.sticky, .int .i64 x.tk.ready, .int .i64 x.tk.att, .int .i64 x.token, .string x.worker, .int .i64 x.until_]
def ot0 : Ot := ⟨⟨⟨#[]⟩, ⟨#[]⟩, 0, 0⟩, 0, ⟨#[]⟩, 0⟩
theorem zeroOut (w : World) : (zeroValue 88).run Tryz.prog w = .ok (otV ot0) w := by kernel_rfl
set_option maxRecDepth 20000 in
set_option maxHeartbeats 8000000 in
theorem find1 (w : World) (q : Nat) (most grace next : Int) (wv : Value) (ts : List Tk) (O T : Nat) (om : Int → Option Ot) (tm : ByteArray → Option Int) (h : QS w q most grace next wv ts O T om tm) (k : Int) (x : Ot) (hx : om k = some x) :
    Calls Tryz.prog 61 #[.pointer (some ⟨q, 0, none⟩), .int .i64 k] w fun e w' => e = .returned (.tuple #[otV x, .int .i64 0]) ∧ Below w.heap.size w w' := by
  have hB := Below.new w (.cells (otL ot0).toArray 88)
  have W1 := Lib.hid (Blk.new w 88 (otL ot0))
  have HX := Lib.hid (h.bel hB)
  have HB := Lib.hid hB
  clear hB
  simp only [otL, ot0] at W1 HX HB
  go_enter Tryz.func61, Tryz.ntmps61
  go_upto_region 1 with (fail)
  generalize w.alloc (.cells #[.string ⟨#[]⟩, .string ⟨#[]⟩, .int .i64 0, .int .i64 0, .int .i64 0, .string ⟨#[]⟩, .int .i64 0] 88) = X at *
  obtain ⟨_, _, c2, _, c4, _⟩ := HX.out.cells
  have HM := Lib.hid (made1 X q next HX.out.pos c2)
  obtain ⟨nO, hO⟩ := HX.out.outs
  have hlk := MapIs.lookup (t := 78) (e := 88) hO (int_keys Tryz.underlying3) Tryz.underlying78 (zeroOut _) k true
  unfold oV at hlk
  rw [hx] at hlk
  have hlk : (Instr.lookup 78 (.map (some O)) (.int .i64 k) true).run Tryz.prog X = .ok (.tuple #[otV x, .bool true]) X := hlk
  clear hO
  generalize hb : w.heap.size = b at *
  have hbl := W1.out.lt
  unfold otV at hlk
  have HBQ := Lib.hid hb
  clear hb
  go_upto_region 6 with (go_at_call 39; refine HM.out.mono ?_; rintro e w' ⟨rfl, rfl⟩)
  have hbY := Below.new w' (.cells #[.string x.tk.key, .string x.tk.sticky, .int .i64 x.tk.ready, .int .i64 x.tk.att, .int .i64 x.token, .string x.worker, .int .i64 x.until_] 88)
  have KB := Lib.hid (W1.out.bel hbY)
  have KX := Lib.hid (Blk.new w' 88 (otL x))
  have HBY := Lib.hid (HB.out.trans (hbY.mono (Nat.le_of_lt hbl)))
  have hcb : b ≠ w'.heap.size := by omega
  simp only [otL] at KX
  clear hbY HX W1 HB hlk HM c2 c4
  generalize w'.alloc (.cells #[.string x.tk.key, .string x.tk.sticky, .int .i64 x.tk.ready, .int .i64 x.tk.att, .int .i64 x.token, .string x.worker, .int .i64 x.until_] 88) = Y at *
  generalize w'.heap.size = c at *
  have z0 := KB.out.fz 0
  have z1 := KB.out.fz 1
  have z2 := KB.out.fz 2
  have z3 := KB.out.fz 3
  have z4 := KB.out.fz 4
  have z5 := KB.out.fz 5
  have z6 := KB.out.fz 6
  have u0 := KX.out.cell 0
  have u1 := KX.out.cell 1
  have u2 := KX.out.cell 2
  have u3 := KX.out.cell 3
  have u4 := KX.out.cell 4
  have u5 := KX.out.cell 5
  have u6 := KX.out.cell 6
  have v0 := KB.out.cell 0
  have v1 := KB.out.cell 1
  have v2 := KB.out.cell 2
  have v3 := KB.out.cell 3
  have v4 := KB.out.cell 4
  have v5 := KB.out.cell 5
  have v6 := KB.out.cell 6
  simp only [List.getElem?_cons_succ, List.getElem?_cons_zero] at u0 u1 u2 u3 u4 u5 u6 v0 v1 v2 v3 v4 v5 v6
  go_wp2_with fail
  have hk := ((((((KB.out.set 0 (.string x.tk.key)).set 1 (.string x.tk.sticky)).set 2 (.int .i64 x.tk.ready)).set 3 (.int .i64 x.tk.att)).set 4 (.int .i64 x.token)).set 5 (.string x.worker)).set 6 (.int .i64 x.until_)
  simp only [List.set_cons_succ, List.set_cons_zero] at hk
  refine bodyPost_ret (results_T2 (h := rfl) (g := b) (t := 88) (cs := (otL x).toArray) (fr := (0, 0)) (hp := rfl) (hg := hk) (hu := Tryz.underlying88) (hd := rfl) (hi := by kernel_rfl) _ _) rfl ?_
  refine ⟨rfl, ?_⟩
  have hby := HBY.out
  have hbq := HBQ.out
  rw [← hbq] at hby
  have T0 := ((((((((Turns.of_below (S := fun _ => False) hby).set ⟨b, 0, none⟩ (.string x.tk.key) (fun e => absurd e (by simp only; omega))).set ⟨b, 1, none⟩ (.string x.tk.sticky) (fun e => absurd e (by simp only; omega))).set ⟨b, 2, none⟩ (.int .i64 x.tk.ready) (fun e => absurd e (by simp only; omega))).set ⟨b, 3, none⟩ (.int .i64 x.tk.att) (fun e => absurd e (by simp only; omega))).set ⟨b, 4, none⟩ (.int .i64 x.token) (fun e => absurd e (by simp only; omega))).set ⟨b, 5, none⟩ (.string x.worker) (fun e => absurd e (by simp only; omega))).set ⟨b, 6, none⟩ (.int .i64 x.until_) (fun e => absurd e (by simp only; omega)))
  exact T0.below (Nat.le_refl _) (fun _ _ e => e.elim)
set_option maxRecDepth 20000 in
set_option maxHeartbeats 8000000 in
theorem find0 (w : World) (q : Nat) (most grace next : Int) (wv : Value) (ts : List Tk) (O T : Nat) (om : Int → Option Ot) (tm : ByteArray → Option Int) (h : QS w q most grace next wv ts O T om tm) (k : Int) (hx : om k = none) :
    Calls Tryz.prog 61 #[.pointer (some ⟨q, 0, none⟩), .int .i64 k] w fun e w' => e = .returned (.tuple #[otV ot0, .int .i64 5]) ∧ Below w.heap.size w w' := by
  have hB := Below.new w (.cells (otL ot0).toArray 88)
  have W1 := Lib.hid (Blk.new w 88 (otL ot0))
  have HX := Lib.hid (h.bel hB)
  have HB := Lib.hid hB
  clear hB
  simp only [otL, ot0] at W1 HX HB
  go_enter Tryz.func61, Tryz.ntmps61
  go_upto_region 1 with (fail)
  generalize w.alloc (.cells #[.string ⟨#[]⟩, .string ⟨#[]⟩, .int .i64 0, .int .i64 0, .int .i64 0, .string ⟨#[]⟩, .int .i64 0] 88) = X at *
  obtain ⟨_, _, c2, _, c4, _⟩ := HX.out.cells
  have HM := Lib.hid (made1 X q next HX.out.pos c2)
  obtain ⟨nO, hO⟩ := HX.out.outs
  have hlk := MapIs.lookup (t := 78) (e := 88) hO (int_keys Tryz.underlying3) Tryz.underlying78 (zeroOut _) k true
  unfold oV at hlk
  rw [hx] at hlk
  have hlk : (Instr.lookup 78 (.map (some O)) (.int .i64 k) true).run Tryz.prog X = .ok (.tuple #[otV ot0, .bool false]) X := hlk
  clear hO
  generalize hb : w.heap.size = b at *
  have hbl := W1.out.lt
  unfold otV ot0 at hlk
  have HBQ := Lib.hid hb
  clear hb
  go_upto_region 5 with (go_at_call 39; refine HM.out.mono ?_; rintro e w' ⟨rfl, rfl⟩)
  have hbY := Below.new w' (.cells #[.string ⟨#[]⟩, .string ⟨#[]⟩, .int .i64 0, .int .i64 0, .int .i64 0, .string ⟨#[]⟩, .int .i64 0] 88)
  have KB := Lib.hid (W1.out.bel hbY)
  have HBY := Lib.hid (HB.out.trans (hbY.mono (Nat.le_of_lt hbl)))
  have hcb : b ≠ w'.heap.size := by omega
  clear hbY HX W1 HB hlk HM c2 c4
  generalize w'.alloc (.cells #[.string ⟨#[]⟩, .string ⟨#[]⟩, .int .i64 0, .int .i64 0, .int .i64 0, .string ⟨#[]⟩, .int .i64 0] 88) = Y at *
  generalize w'.heap.size = c at *
  have z0 := KB.out.fz 0
  have z1 := KB.out.fz 1
  have z2 := KB.out.fz 2
  have z3 := KB.out.fz 3
  have z4 := KB.out.fz 4
  have z5 := KB.out.fz 5
  have z6 := KB.out.fz 6
  have v0 := KB.out.cell 0
  have v1 := KB.out.cell 1
  have v2 := KB.out.cell 2
  have v3 := KB.out.cell 3
  have v4 := KB.out.cell 4
  have v5 := KB.out.cell 5
  have v6 := KB.out.cell 6
  simp only [List.getElem?_cons_succ, List.getElem?_cons_zero] at v0 v1 v2 v3 v4 v5 v6
  go_wp2_with fail
  have hk := (((((((KB.out.set 0 (.string ⟨#[]⟩)).set 1 (.string ⟨#[]⟩)).set 2 (.int .i64 0)).set 3 (.int .i64 0)).set 4 (.int .i64 0)).set 5 (.string ⟨#[]⟩)).set 6 (.int .i64 0))
  simp only [List.set_cons_succ, List.set_cons_zero] at hk
  refine bodyPost_ret (results_T2 (h := rfl) (g := b) (t := 88) (cs := (otL ot0).toArray) (fr := (0, 0)) (hp := rfl) (hg := hk) (hu := Tryz.underlying88) (hd := rfl) (hi := by kernel_rfl) _ _) rfl ?_
  refine ⟨rfl, ?_⟩
  have hby := HBY.out
  have hbq := HBQ.out
  rw [← hbq] at hby
  have T0 := ((((((((Turns.of_below (S := fun _ => False) hby).set ⟨b, 0, none⟩ (.string ⟨#[]⟩) (fun e => absurd e (by simp only; omega))).set ⟨b, 1, none⟩ (.string ⟨#[]⟩) (fun e => absurd e (by simp only; omega))).set ⟨b, 2, none⟩ (.int .i64 0) (fun e => absurd e (by simp only; omega))).set ⟨b, 3, none⟩ (.int .i64 0) (fun e => absurd e (by simp only; omega))).set ⟨b, 4, none⟩ (.int .i64 0) (fun e => absurd e (by simp only; omega))).set ⟨b, 5, none⟩ (.string ⟨#[]⟩) (fun e => absurd e (by simp only; omega))).set ⟨b, 6, none⟩ (.int .i64 0) (fun e => absurd e (by simp only; omega)))
  exact T0.below (Nat.le_refl _) (fun _ _ e => e.elim)
set_option maxRecDepth 20000 in
set_option maxHeartbeats 8000000 in
theorem findN (w : World) (p : Value) (hm : ∀ X, Below w.heap.size w X → Calls Tryz.prog 39 #[p] X fun e w' => e = .returned (.bool false) ∧ w' = X) (k : Int) :
    Calls Tryz.prog 61 #[p, .int .i64 k] w fun e w' => e = .returned (.tuple #[otV ot0, .int .i64 1]) ∧ Below w.heap.size w w' := by
  have hB := Below.new w (.cells (otL ot0).toArray 88)
  have W1 := Lib.hid (Blk.new w 88 (otL ot0))
  have HM := Lib.hid (hm _ hB)
  have HB := Lib.hid hB
  clear hB hm
  simp only [otL, ot0] at W1 HM HB
  go_enter Tryz.func61, Tryz.ntmps61
  go_upto_region 1 with (fail)
  generalize w.alloc (.cells #[.string ⟨#[]⟩, .string ⟨#[]⟩, .int .i64 0, .int .i64 0, .int .i64 0, .string ⟨#[]⟩, .int .i64 0] 88) = X at *
  generalize hb : w.heap.size = b at *
  have hbl := W1.out.lt
  have HBQ := Lib.hid hb
  clear hb
  go_upto_region 2 with (go_at_call 39; refine HM.out.mono ?_; rintro e w' ⟨rfl, rfl⟩)
  have KB := W1
  have HBY := HB
  clear W1 HB
  have z0 := KB.out.fz 0
  have z1 := KB.out.fz 1
  have z2 := KB.out.fz 2
  have z3 := KB.out.fz 3
  have z4 := KB.out.fz 4
  have z5 := KB.out.fz 5
  have z6 := KB.out.fz 6
  have v0 := KB.out.cell 0
  have v1 := KB.out.cell 1
  have v2 := KB.out.cell 2
  have v3 := KB.out.cell 3
  have v4 := KB.out.cell 4
  have v5 := KB.out.cell 5
  have v6 := KB.out.cell 6
  simp only [List.getElem?_cons_succ, List.getElem?_cons_zero] at v0 v1 v2 v3 v4 v5 v6
  go_wp2_with fail
  have hk := (((((((KB.out.set 0 (.string ⟨#[]⟩)).set 1 (.string ⟨#[]⟩)).set 2 (.int .i64 0)).set 3 (.int .i64 0)).set 4 (.int .i64 0)).set 5 (.string ⟨#[]⟩)).set 6 (.int .i64 0))
  simp only [List.set_cons_succ, List.set_cons_zero] at hk
  refine bodyPost_ret (results_T2 (h := rfl) (g := b) (t := 88) (cs := (otL ot0).toArray) (fr := (0, 0)) (hp := rfl) (hg := hk) (hu := Tryz.underlying88) (hd := rfl) (hi := by kernel_rfl) _ _) rfl ?_
  refine ⟨rfl, ?_⟩
  have hby := HBY.out
  have hbq := HBQ.out
  rw [← hbq] at hby
  have T0 := ((((((((Turns.of_below (S := fun _ => False) hby).set ⟨b, 0, none⟩ (.string ⟨#[]⟩) (fun e => absurd e (by simp only; omega))).set ⟨b, 1, none⟩ (.string ⟨#[]⟩) (fun e => absurd e (by simp only; omega))).set ⟨b, 2, none⟩ (.int .i64 0) (fun e => absurd e (by simp only; omega))).set ⟨b, 3, none⟩ (.int .i64 0) (fun e => absurd e (by simp only; omega))).set ⟨b, 4, none⟩ (.int .i64 0) (fun e => absurd e (by simp only; omega))).set ⟨b, 5, none⟩ (.string ⟨#[]⟩) (fun e => absurd e (by simp only; omega))).set ⟨b, 6, none⟩ (.int .i64 0) (fun e => absurd e (by simp only; omega)))
  exact T0.below (Nat.le_refl _) (fun _ _ e => e.elim)
end Go.Proofs.YtpbheicfplpemaaGreat

namespace Go.Proofs.YtpbheicfplpemaaGreat
open Go.RowKit

def DoneY (w : World) (q : Nat) (most grace next : Int) (wv : Value) (ts : List Tk) (O T : Nat) (om : Int → Option Ot) (tm : ByteArray → Option Int) (k : Int) (x : Ot) (e : Ending) (w' : World) : Prop :=
  e = .returned (.tuple #[.string x.tk.key, .int .i64 x.tk.att, .int .i64 0]) ∧ QS w' q most grace next wv ts O T (wipI om k) (wipS tm x.tk.key) ∧ Turns (QSet q wv O T) w w'
set_option maxRecDepth 20000 in
set_option maxHeartbeats 8000000 in
theorem done1 (w : World) (q : Nat) (most grace next : Int) (wv : Value) (ts : List Tk) (O T : Nat) (om : Int → Option Ot) (tm : ByteArray → Option Int) (h : QS w q most grace next wv ts O T om tm) (k : Int) (x : Ot) (hx : om k = some x) :
    Calls Tryz.prog 18 #[.pointer (some ⟨q, 0, none⟩), .int .i64 k] w (DoneY w q most grace next wv ts O T om tm k x) := by
  have HF := Lib.hid (find1 w q most grace next wv ts O T om tm h k x hx)
  have HH := Lib.hid h
  unfold otV at HF
  clear h
  go_enter Tryz.func18, Tryz.ntmps18
  go_upto_region 3 with (go_at_call 61; refine HF.out.mono ?_; rintro e w1 ⟨rfl, hb1⟩; have HB1 := Lib.hid hb1; clear hb1)
  have hbX := Below.new w1 (.cells #[.string x.tk.key, .string x.tk.sticky, .int .i64 x.tk.ready, .int .i64 x.tk.att, .int .i64 x.token, .string x.worker, .int .i64 x.until_] 88)
  have KX := Lib.hid (Blk.new w1 88 (otL x))
  have BX := Lib.hid (below_trans' HB1.out hbX)
  have HX := Lib.hid (HH.out.bel BX.out)
  have hql : ∀ i, QSet q wv O T i → i < w1.heap.size := fun i hi => Nat.lt_of_lt_of_le (HH.out.lts i hi) HB1.out.size
  simp only [otL] at KX
  clear hbX HB1 HF
  generalize w1.alloc (.cells #[.string x.tk.key, .string x.tk.sticky, .int .i64 x.tk.ready, .int .i64 x.tk.att, .int .i64 x.token, .string x.worker, .int .i64 x.until_] 88) = X at *
  generalize w1.heap.size = l at *
  obtain ⟨_, _, _, _, c4, _⟩ := HX.out.cells
  have hTl := hql T (.inr (.inr (.inl rfl)))
  have hOl := hql O (.inr (.inl rfl))
  have hqL := hql q (.inl rfl)
  have HQL := Lib.hid hql
  clear hql
  obtain ⟨nO, hO⟩ := HX.out.outs
  obtain ⟨nT, hT⟩ := HX.out.there
  have hOq : O ≠ q := hO.ne_cells HX.out.blk
  have hTq : T ≠ q := hT.ne_cells HX.out.blk
  have HO := Lib.hid hO
  have HT := Lib.hid hT
  clear hO hT
  go_upto_region 4 with (at_delete; refine wpl_delete (w := X) rfl _ _ 78 3 rfl (int_keys Tryz.underlying3) Tryz.underlying78 HO.out k rfl rfl ?_; intro w3 hm3 ht3; have TO := Lib.hid (Turns.of_map (S := fun j => j = O) ht3 rfl); have HM3 := Lib.hid hm3; clear hm3 ht3)
  have B3 := Lib.hid (HX.out.blk.turns TO.out (Ne.symm hOq))
  have K3 := Lib.hid (KX.out.turns TO.out (by omega))
  have M3 := Lib.hid (HT.out.turns TO.out (fun e => HX.out.ne e.symm))
  have f5 := B3.out.cell 5
  have m0 := K3.out.cell 0
  simp only [List.getElem?_cons_succ, List.getElem?_cons_zero] at f5 m0
  refine wp_tail 7 (by kernel_rfl) (by kernel_rfl) ?_
  simp only [List.take_succ_cons, List.take_zero, List.drop_succ_cons, List.drop_zero]
  repeat still_step
  refine wpStill_nil ?_
  clear f5 m0 c4
  have h3d : Below w3.heap.size w3 w3.drew := below_drewN' (Below.refl w3.heap.size w3) 1
  refine wpl_delete (w := w3.drew) rfl _ _ 79 9 rfl (str_keys Tryz.underlying9) Tryz.underlying79 (M3.out.below h3d) x.tk.key rfl rfl ?_
  intro w4 hm4 ht4
  have TT := Turns.of_map (S := fun j => j = T) ht4 rfl
  have K4 := Lib.hid ((K3.out.drewN 1).turns TT (by omega))
  have O4 := Lib.hid ((HM3.out.below h3d).turns TT HX.out.ne)
  have HM4 := Lib.hid hm4
  have T4 := Lib.hid (((TO.out.drewN 1).mono (T := fun j => j = O ∨ j = T) (fun _ _ e => .inl e)).trans TT (fun _ _ e => .inr e))
  clear hm4 ht4 TT h3d
  have m0 := K4.out.cell 0
  have m3 := K4.out.cell 3
  simp only [List.getElem?_cons_succ, List.getElem?_cons_zero] at m0 m3
  go_upto_region 5 with (fail)
  go_quiet (fail)
  clear m0 m3
  go_wp2_with fail
  go_ret3
  have h4d := below_drewN' (Below.refl w4.heap.size w4) nq
  have hT4 := T4.out.drewN nq
  have hvO : ∀ g, wv.ownBlock = some g → g ≠ O ∧ g ≠ T := fun g hg => ⟨own_ne_map HX.out.row hg HO.out, own_ne_map HX.out.row hg HT.out⟩
  refine ⟨rfl, ⟨HX.out.blk.turns hT4 (by omega), own_turns HX.out.row hT4 (fun g hg e => by have := hvO g hg; omega), ⟨_, by
    have := O4.out.below h4d
    rw [oV_wip] at this
    exact this⟩, ⟨_, by
    have := HM4.out.below h4d
    rw [sV_wip] at this
    exact this⟩, HH.out.ne, HH.out.few, HH.out.pos, HH.out.nxl⟩, (Turns.of_below BX.out).trans hT4 (fun i _ e => e.elim (fun e => .inr (.inl e)) (fun e => .inr (.inr (.inl e))))⟩
end Go.Proofs.YtpbheicfplpemaaGreat

namespace Go.Proofs.YtpbheicfplpemaaGreat
open Go.RowKit

def BackY (w : World) (q : Nat) (most grace next : Int) (wv : Value) (ts : List Tk) (O T : Nat) (om : Int → Option Ot) (tm : ByteArray → Option Int) (k ready : Int) (x : Ot) (e : Ending) (w' : World) : Prop :=
  e = .returned (.tuple #[.string x.tk.key, .int .i64 x.tk.att, .int .i64 0]) ∧ ∃ wv', QS w' q most grace next wv' (ts ++ [⟨x.tk.key, ⟨#[]⟩, ready, x.tk.att⟩]) O T (wipI om k) (updS tm x.tk.key 0) ∧ NextR w wv wv' ∧ Turns (QSet q wv O T) w w'
theorem NextR.later {w w1 : World} {v v' : Value} (h : NextR w1 v v') (hs : w.heap.size ≤ w1.heap.size) : NextR w v v' := fun g hg => (h g hg).imp id (fun e => Nat.le_trans hs e)
set_option maxRecDepth 20000 in
set_option maxHeartbeats 8000000 in
theorem back1 (w : World) (q : Nat) (most grace next : Int) (wv : Value) (ts : List Tk) (O T : Nat) (om : Int → Option Ot) (tm : ByteArray → Option Int) (h : QS w q most grace next wv ts O T om tm) (k ready : Int) (x : Ot) (hx : om k = some x) (hf : ts.length < 100000) :
    Calls Tryz.prog 56 #[.pointer (some ⟨q, 0, none⟩), .int .i64 k, .int .i64 ready] w (BackY w q most grace next wv ts O T om tm k ready x) := by
  have HF := Lib.hid (find1 w q most grace next wv ts O T om tm h k x hx)
  have HH := Lib.hid h
  unfold otV at HF
  clear h
  go_enter Tryz.func56, Tryz.ntmps56
  go_upto_region 3 with (go_at_call 61; refine HF.out.mono ?_; rintro e w1 ⟨rfl, hb1⟩; have HB1 := Lib.hid hb1; clear hb1)
  have hbX := Below.new w1 (.cells #[.string x.tk.key, .string x.tk.sticky, .int .i64 x.tk.ready, .int .i64 x.tk.att, .int .i64 x.token, .string x.worker, .int .i64 x.until_] 88)
  have KX := Lib.hid (Blk.new w1 88 (otL x))
  have BX := Lib.hid (below_trans' HB1.out hbX)
  have HX := Lib.hid (HH.out.bel BX.out)
  have hql : ∀ i, QSet q wv O T i → i < w1.heap.size := fun i hi => Nat.lt_of_lt_of_le (HH.out.lts i hi) HB1.out.size
  simp only [otL] at KX
  clear hbX HB1 HF
  generalize w1.alloc (.cells #[.string x.tk.key, .string x.tk.sticky, .int .i64 x.tk.ready, .int .i64 x.tk.att, .int .i64 x.token, .string x.worker, .int .i64 x.until_] 88) = X at *
  generalize w1.heap.size = l at *
  obtain ⟨_, _, _, _, c4, _⟩ := HX.out.cells
  have hOl := hql O (.inr (.inl rfl))
  have HQL := Lib.hid hql
  clear hql
  obtain ⟨nO, hO⟩ := HX.out.outs
  obtain ⟨nT, hT⟩ := HX.out.there
  have hOq : O ≠ q := hO.ne_cells HX.out.blk
  have HO := Lib.hid hO
  have HT := Lib.hid hT
  clear hO hT
  go_upto_region 4 with (at_delete; refine wpl_delete (w := X) rfl _ _ 78 3 rfl (int_keys Tryz.underlying3) Tryz.underlying78 HO.out k rfl rfl ?_; intro w3 hm3 ht3; have TO := Lib.hid (Turns.of_map (S := fun j => j = O) ht3 rfl); have HM3 := Lib.hid hm3; clear hm3 ht3)
  have K3 := Lib.hid (KX.out.turns TO.out (by omega))
  have hQ3 : QS w3 q most grace next wv ts O T (wipI om k) tm := ⟨HX.out.blk.turns TO.out (Ne.symm hOq), own_turns HX.out.row TO.out (fun g hg e => own_ne_map HX.out.row hg HO.out e), ⟨_, by
    have := HM3.out
    rw [oV_wip] at this
    exact this⟩, ⟨_, HT.out.turns TO.out (fun e => HX.out.ne e.symm)⟩, HH.out.ne, HH.out.few, HH.out.pos, HH.out.nxl⟩
  have HW := Lib.hid (waitQ w3 q most grace next wv ts O T _ tm hQ3 ⟨x.tk.key, ⟨#[]⟩, ready, x.tk.att⟩ hf)
  have T3 := Lib.hid ((Turns.of_below (S := QSet q wv O T) BX.out).trans TO.out (fun i _ e => .inr (.inl e)))
  unfold tkV at HW
  have m0 := K3.out.cell 0
  have m3 := K3.out.cell 3
  simp only [List.getElem?_cons_succ, List.getElem?_cons_zero] at m0 m3
  clear hQ3 TO HM3 HO HT c4 HX BX KX
  go_upto_region 5 with (go_at_call 43; refine HW.out.mono ?_; rintro e w4 ⟨rfl, wv', s4, n4, t4⟩; have S4 := Lib.hid s4; have N4 := Lib.hid n4; have T4 := Lib.hid t4; have K4 := Lib.hid (K3.out.turns t4 (fun hi => absurd (HQL.out l hi) (Nat.lt_irrefl _))); clear s4 n4 t4 m0 m3; have m0 := K4.out.cell 0; have m3 := K4.out.cell 3; simp only [List.getElem?_cons_succ, List.getElem?_cons_zero] at m0 m3)
  go_quiet (fail)
  clear m0 m3
  go_wp2_with fail
  go_ret3
  have h4d := below_drewN' (Below.refl w4.heap.size w4) nq
  exact ⟨rfl, wv', S4.out.bel h4d, N4.out.later T3.out.size, (T3.out.then T4.out).then (.of_below h4d)⟩
end Go.Proofs.YtpbheicfplpemaaGreat

namespace Go.Proofs.YtpbheicfplpemaaGreat
open Go.RowKit

/-- nobody made it -/
def UnM (w : World) (p : Value) : Prop := ∀ X, Below w.heap.size w X → Calls Tryz.prog 39 #[p] X fun e w' => e = .returned (.bool false) ∧ w' = X
theorem UnM.bel {w w' : World} {p : Value} (h : UnM w p) (hb : Below w.heap.size w w') : UnM w' p := fun X hX => h X (below_trans' hb hX)
theorem unm_nil (w : World) : UnM w (.pointer none) := fun X _ => made_nil X
theorem unm_zero (w : World) (q : Nat) (hl : q < w.heap.size) (hc : w.cell? ⟨q, 2, none⟩ = some (.int .i64 0)) : UnM w (.pointer (some ⟨q, 0, none⟩)) := fun X hX => made_zero X q ((hX.cell (p := ⟨q, 2, none⟩) hl).trans hc)
section
set_option maxRecDepth 20000
set_option maxHeartbeats 4000000
theorem putN (w : World) (p : Value) (h : UnM w p) (key sticky : ByteArray) (ready : Int) :
    Calls Tryz.prog 13 #[p, .string key, .string sticky, .int .i64 ready] w fun e w' => e = .returned (.int .i64 1) ∧ Below w.heap.size w w' := by
  have HM := Lib.hid (h w (Below.refl _ _))
  clear h
  go_enter Tryz.func13, Tryz.ntmps13
  go_wp2_with (go_at_call 39; refine HM.out.mono ?_; rintro e w' ⟨rfl, rfl⟩)
  go_ret
  exact ⟨rfl, Below.refl _ _⟩
theorem lenN (w : World) (p : Value) (h : UnM w p) :
    Calls Tryz.prog 19 #[p] w fun e w' => e = .returned (.int .i64 0) ∧ w' = w := by
  have HM := Lib.hid (h w (Below.refl _ _))
  clear h
  go_enter Tryz.func19, Tryz.ntmps19
  go_wp2_with (go_at_call 39; refine HM.out.mono ?_; rintro e w' ⟨rfl, rfl⟩)
  go_ret
  exact ⟨rfl, rfl⟩
theorem dropN (w : World) (p : Value) (h : UnM w p) (key : ByteArray) :
    Calls Tryz.prog 15 #[p, .string key] w fun e w' => e = .returned (.bool false) ∧ Below w.heap.size w w' := by
  have HM := Lib.hid (h _ (Below.new w (.cells #[.string key] 9)))
  have HB := Lib.hid (Below.new w (.cells #[.string key] 9))
  clear h
  go_enter Tryz.func15, Tryz.ntmps15
  go_wp2_with (go_at_call 39; refine HM.out.mono ?_; rintro e w' ⟨rfl, rfl⟩)
  go_ret
  exact ⟨rfl, HB.out⟩
theorem beatN (w : World) (p : Value) (h : UnM w p) (k now lease : Int) :
    Calls Tryz.prog 53 #[p, .int .i64 k, .int .i64 now, .int .i64 lease] w fun e w' => e = .returned (.int .i64 1) ∧ Below w.heap.size w w' := by
  have HM := Lib.hid (h w (Below.refl _ _))
  clear h
  go_enter Tryz.func53, Tryz.ntmps53
  go_wp2_with (go_at_call 39; refine HM.out.mono ?_; rintro e w' ⟨rfl, rfl⟩)
  go_ret
  exact ⟨rfl, Below.refl _ _⟩
theorem twinN (w : World) (p : Value) (h : UnM w p) :
    Calls Tryz.prog 12 #[p] w fun e w' => e = .returned (.pointer none) ∧ Below w.heap.size w w' := by
  have HM := Lib.hid (h w (Below.refl _ _))
  clear h
  go_enter Tryz.func12, Tryz.ntmps12
  go_wp2_with (go_at_call 39; refine HM.out.mono ?_; rintro e w' ⟨rfl, rfl⟩)
  go_ret
  exact ⟨rfl, Below.refl _ _⟩
theorem pollN (w : World) (p : Option Addr) (h : UnM w (.pointer p)) (who : ByteArray) (now lease : Int) :
    Calls Tryz.prog 14 #[.pointer p, .string who, .int .i64 now, .int .i64 lease] w fun e w' => e = .returned (.tuple #[.string ⟨#[]⟩, .int .i64 0, .int .i64 0, .int .i64 1]) ∧ Below w.heap.size w w' := by
  have K0 := ((Blk.new w 24 [.pointer p]).alloc (.cells #[.string who] 9)).alloc (.cells #[.int .i64 now] 2)
  have HB := Lib.hid (Below.new3 w (.cells #[.pointer p] 24) (.cells #[.string who] 9) (.cells #[.int .i64 now] 2))
  have HM := Lib.hid (h _ HB.out)
  have u0 := K0.cell 0
  simp only [List.getElem?_cons_zero] at u0
  clear h K0
  go_enter Tryz.func14, Tryz.ntmps14
  go_upto_region 1 with (fail)
  generalize ((w.alloc (.cells #[.pointer p] 24)).alloc (.cells #[.string who] 9)).alloc (.cells #[.int .i64 now] 2) = X at *
  go_upto_region 2 with (go_at_call 39; refine HM.out.mono ?_; rintro e w' ⟨rfl, rfl⟩)
  go_wp2_with fail
  refine bodyPost_ret (results_tmp4 rfl _ _ _) rfl ?_
  exact ⟨rfl, HB.out⟩
theorem doneE (w : World) (p : Value) (k er : Int) (he : er ≠ 0) (hf : Calls Tryz.prog 61 #[p, .int .i64 k] w fun e w' => e = .returned (.tuple #[otV ot0, .int .i64 er]) ∧ Below w.heap.size w w') :
    Calls Tryz.prog 18 #[p, .int .i64 k] w fun e w' => e = .returned (.tuple #[.string ⟨#[]⟩, .int .i64 0, .int .i64 er]) ∧ Below w.heap.size w w' := by
  have HF := Lib.hid hf
  have hne : (er == 0) = false := beq_eq_false_iff_ne.2 he
  clear hf
  unfold otV ot0 at HF
  go_enter Tryz.func18, Tryz.ntmps18
  go_upto_region 5 with (go_at_call 61; refine HF.out.mono ?_; rintro e w1 ⟨rfl, hb1⟩; have HB1 := Lib.hid hb1; clear hb1)
  have KX := Blk.new w1 88 (otL ot0)
  have BX := Lib.hid (below_trans' HB1.out (Below.new w1 (.cells (otL ot0).toArray 88)))
  simp only [otL, ot0] at KX BX
  generalize w1.alloc (.cells #[.string ⟨#[]⟩, .string ⟨#[]⟩, .int .i64 0, .int .i64 0, .int .i64 0, .string ⟨#[]⟩, .int .i64 0] 88) = X at *
  have m0 := KX.cell 0
  have m3 := KX.cell 3
  simp only [List.getElem?_cons_succ, List.getElem?_cons_zero] at m0 m3
  go_quiet (fail)
  clear m0 m3
  go_wp2_with fail
  go_ret3
  exact ⟨rfl, below_drewN' BX.out _⟩
theorem backE (w : World) (p : Value) (k ready er : Int) (he : er ≠ 0) (hf : Calls Tryz.prog 61 #[p, .int .i64 k] w fun e w' => e = .returned (.tuple #[otV ot0, .int .i64 er]) ∧ Below w.heap.size w w') :
    Calls Tryz.prog 56 #[p, .int .i64 k, .int .i64 ready] w fun e w' => e = .returned (.tuple #[.string ⟨#[]⟩, .int .i64 0, .int .i64 er]) ∧ Below w.heap.size w w' := by
  have HF := Lib.hid hf
  have hne : (er == 0) = false := beq_eq_false_iff_ne.2 he
  clear hf
  unfold otV ot0 at HF
  go_enter Tryz.func56, Tryz.ntmps56
  go_upto_region 5 with (go_at_call 61; refine HF.out.mono ?_; rintro e w1 ⟨rfl, hb1⟩; have HB1 := Lib.hid hb1; clear hb1)
  have KX := Blk.new w1 88 (otL ot0)
  have BX := Lib.hid (below_trans' HB1.out (Below.new w1 (.cells (otL ot0).toArray 88)))
  simp only [otL, ot0] at KX BX
  generalize w1.alloc (.cells #[.string ⟨#[]⟩, .string ⟨#[]⟩, .int .i64 0, .int .i64 0, .int .i64 0, .string ⟨#[]⟩, .int .i64 0] 88) = X at *
  have m0 := KX.cell 0
  have m3 := KX.cell 3
  simp only [List.getElem?_cons_succ, List.getElem?_cons_zero] at m0 m3
  go_quiet (fail)
  clear m0 m3
  go_wp2_with fail
  go_ret3
  exact ⟨rfl, below_drewN' BX.out _⟩
theorem sortedN (w : World) (p : Value) (h : UnM w p) :
    Calls Tryz.prog 72 #[p] w fun e w' => e = .returned (.slice none 0 0) ∧ w' = w := by
  have HM := Lib.hid (h w (Below.refl _ _))
  clear h
  go_enter Tryz.func72, Tryz.ntmps72
  go_wp2_with (go_at_call 39; refine HM.out.mono ?_; rintro e w' ⟨rfl, rfl⟩)
  go_ret
  exact ⟨rfl, rfl⟩
theorem tellN (w : World) (p : Value) (h : UnM w p) (f : Fn) (b1 b2 : Array Value) :
    Calls Tryz.prog 70 #[p, .func f b1 b2] w fun e w' => e = .returned (.slice none 0 0) ∧ w' = w := by
  have HM := Lib.hid (sortedN w p h)
  clear h
  go_enter Tryz.func70, Tryz.ntmps70
  go_wp2_with (go_at_call 72; refine HM.out.mono ?_; rintro e w' ⟨rfl, rfl⟩)
  refine wp_loop_rounds 1 ?_
  rw [rounds_succ]
  go_wp2_with fail
  go_ret
  exact ⟨rfl, rfl⟩
theorem outsN (w : World) (p : Value) (h : UnM w p) :
    Calls Tryz.prog 32 #[p] w fun e w' => e = .returned (.slice none 0 0) ∧ w' = w := by
  have HM := Lib.hid (tellN w p h (.func 71) #[] #[])
  clear h
  go_enter Tryz.func32, Tryz.ntmps32
  go_wp2_with (go_at_call 70; refine HM.out.mono ?_; rintro e w' ⟨rfl, rfl⟩)
  go_ret
  exact ⟨rfl, rfl⟩
theorem expireN (w : World) (p : Value) (h : UnM w p) (now : Int) :
    Calls Tryz.prog 59 #[p, .int .i64 now] w fun e w' => e = .returned (.slice none 0 0) ∧ Below w.heap.size w w' := by
  have HB := Lib.hid (Below.new w (.cells #[.int .i64 now] 2))
  have HM := Lib.hid (tellN _ p (h.bel HB.out) (.func 87) #[] #[.pointer (some ⟨w.heap.size, 0, none⟩)])
  clear h
  go_enter Tryz.func59, Tryz.ntmps59
  go_wp2_with (go_at_call 70; refine HM.out.mono ?_; rintro e w' ⟨rfl, rfl⟩)
  go_ret
  exact ⟨rfl, HB.out⟩
theorem nextN (w : World) (p : Value) (h : UnM w p) :
    Calls Tryz.prog 35 #[p] w fun e w' => e = .returned (.tuple #[.int .i64 0, .bool false]) ∧ Below w.heap.size w w' := by
  have HM := Lib.hid (sortedN w p h)
  clear h
  go_enter Tryz.func35, Tryz.ntmps35
  go_wp2_with (go_at_call 72; refine HM.out.mono ?_; rintro e w' ⟨rfl, rfl⟩)
  refine wp_loop_rounds 1 ?_
  rw [rounds_succ]
  go_wp2_with fail
  go_ret2
  exact ⟨rfl, Below.refl _ _⟩
theorem waitsN (w : World) (p : Value) (h : UnM w p) :
    Calls Tryz.prog 30 #[p] w fun e w' => e = .returned (.slice none 0 0) ∧ Below w.heap.size w w' := by
  have HM := Lib.hid (lenN w p h)
  clear h
  go_enter Tryz.func30, Tryz.ntmps30
  go_wp2_with (go_at_call 19; refine HM.out.mono ?_; rintro e w' ⟨rfl, rfl⟩)
  refine wp_loop_rounds 1 ?_
  rw [rounds_succ]
  go_wp2_with fail
  go_ret
  exact ⟨rfl, Below.refl _ _⟩
theorem bytesN (w : World) (p : Value) (h : UnM w p) :
    Calls Tryz.prog 37 #[p] w fun e w' => e = .returned (.slice none 0 0) ∧ Below w.heap.size w w' := by
  have HM := Lib.hid (h w (Below.refl _ _))
  clear h
  go_enter Tryz.func37, Tryz.ntmps37
  go_wp2_with (go_at_call 39; refine HM.out.mono ?_; rintro e w' ⟨rfl, rfl⟩)
  go_ret
  exact ⟨rfl, Below.refl _ _⟩
end
end Go.Proofs.YtpbheicfplpemaaGreat

namespace Go.Proofs.YtpbheicfplpemaaGreat
open Go.RowKit

def HeadY (w : World) (q : Nat) (most grace next : Int) (wv : Value) (t : Tk) (ts : List Tk) (O T : Nat) (om : Int → Option Ot) (tm : ByteArray → Option Int) (who : ByteArray) (now lease : Int) (e : Ending) (w' : World) : Prop :=
  ∃ wv', e = .returned (.tuple #[.string t.key, .int .i64 next, .int .i64 (t.att + 1), .int .i64 0]) ∧ QS w' q most grace (next + 1) wv' ts O T (updI om next ⟨{ t with att := t.att + 1 }, next, who, addI now lease⟩) (updS tm t.key next) ∧ NextR w wv wv' ∧ Turns (QSet q wv O T) w w'
/-- the first task is handed out where it is for the worker -/
theorem pollHead (w : World) (q : Nat) (most grace next : Int) (wv : Value) (t : Tk) (ts : List Tk) (O T : Nat) (om : Int → Option Ot) (tm : ByteArray → Option Int) (h : QS w q most grace next wv (t :: ts) O T om tm) (who : ByteArray) (now lease : Int) (hnx : next < 1000000000) (hle : 1 ≤ lease ∧ lease ≤ 9223372036854775807) (hno : -9223372036854775808 ≤ now ∧ now ≤ 9223372036854775807) (hg : -9223372036854775808 ≤ grace ∧ grace ≤ 9223372036854775807) (hr : ∀ x ∈ t :: ts, tkRdy x) (hat : ∀ x ∈ t :: ts, 0 ≤ x.att ∧ x.att ≤ 1000000000) (hp : isForI grace who now t = true) :
    Calls Tryz.prog 14 #[.pointer (some ⟨q, 0, none⟩), .string who, .int .i64 now, .int .i64 lease] w (HeadY w q most grace next wv t ts O T om tm who now lease) := by
  refine (pollQ w q most grace next wv (t :: ts) O T om tm h who now lease hnx hle hno hg hr hat).mono ?_
  rintro e w' (⟨_, hn, _⟩ | ⟨i, wv', hi, h1, h2, rfl, s, n, k⟩)
  · rw [hn t (List.mem_cons_self ..)] at hp
    cases hp
  · have hi0 : i = 0 := by
      rcases Nat.eq_zero_or_pos i with e | e
      · exact e
      · have := h2 0 e
        rw [show gT (t :: ts) 0 = t from rfl, hp] at this
        cases this
    subst hi0
    exact ⟨wv', rfl, s, n, k⟩
set_option maxRecDepth 20000 in
set_option maxHeartbeats 8000000 in
theorem awake_any (w : World) : Calls Tryz.prog 5 #[] w fun e w' => e = .returned (.bool true) ∧ Below w.heap.size w w' := by
  have HN := Lib.hid (newQ w 2 3 (by omega) (by omega) (by omega))
  go_enter Tryz.func5, Tryz.ntmps5
  go_upto_region 4 with (go_at_call 10; refine HN.out.mono ?_; rintro e w1 ⟨q, O, T, rfl, s1, l1, b1⟩; have S1 := Lib.hid s1; have L1 := Lib.hid l1; have B1 := Lib.hid b1; clear s1 l1 b1)
  have HP := Lib.hid (putQ w1 q 2 3 1 _ _ O T _ _ S1.out ⟨#[97]⟩ ⟨#[]⟩ 0 rfl (by simp) (by simp))
  clear HN
  go_upto_region 5 with (go_at_call 13; refine HP.out.mono ?_; rintro e w2 ⟨rfl, wv2, s2, n2, t2⟩; have S2 := Lib.hid s2; have N2 := Lib.hid n2; have T2 := Lib.hid t2; clear s2 n2 t2)
  have HQ := Lib.hid (pollHead w2 q 2 3 1 wv2 _ _ O T _ _ S2.out ⟨#[119]⟩ 0 5 (by omega) (by omega) (by omega) (by omega) (by intro t ht; simp at ht; subst ht; constructor <;> simp) (by intro t ht; simp at ht; subst ht; simp) (by simp [isForI]))
  clear HP
  go_upto_region 6 with (go_at_call 14; refine HQ.out.mono ?_; rintro e w3 ⟨wv3, rfl, s3, n3, t3⟩; have S3 := Lib.hid s3; have N3 := Lib.hid n3; have T3 := Lib.hid t3; clear s3 n3 t3)
  have HD := Lib.hid (done1 w3 q 2 3 _ wv3 _ O T _ _ S3.out 1 _ (if_pos rfl))
  clear HQ
  go_upto_region 7 with (go_at_call 18; refine HD.out.mono ?_; rintro e w4 ⟨rfl, s4, t4⟩; have S4 := Lib.hid s4; have T4 := Lib.hid t4; clear s4 t4)
  have HL := Lib.hid (lenQ w4 q 2 3 _ wv3 _ O T _ _ S4.out)
  clear HD
  simp only [List.length_nil] at HL
  go_wp2_with (go_at_call 19; refine HL.out.mono ?_; rintro e w5 ⟨rfl, rfl⟩)
  go_ret
  have L2 := N2.out.lo L1.out B1.out.size
  have hs2 := Nat.le_trans B1.out.size T2.out.size
  have L3 := N3.out.lo L2 hs2
  have K2 : Turns (fun i => w.heap.size ≤ i) w w2 := (Turns.of_below B1.out).then (T2.out.mono (fun i _ e => L1.out i e))
  have K3 := K2.then (T3.out.mono (fun i _ e => L2 i e))
  have K4 := K3.then (T4.out.mono (fun i _ e => L3 i e))
  exact ⟨rfl, K4.below (Nat.le_refl _) (fun _ _ e => e)⟩
end Go.Proofs.YtpbheicfplpemaaGreat
