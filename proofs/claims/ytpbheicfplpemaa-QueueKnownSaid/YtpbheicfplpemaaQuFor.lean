/- queue: whole.Add, isFor, the closure of Poll, IndexFunc. -/
import Derived.Test.YtpbheicfplpemaaQuDel
import Derived.Lib.SlicesS
namespace Go.Proofs.Ytpbheicfplpemaa
open Go.RowKit

def addI (a b : Int) : Int := if 0 < b ∧ 9223372036854775807 - b < a then 9223372036854775807 else if b < 0 ∧ a < -9223372036854775808 - b then -9223372036854775808 else a + b
theorem addQ (w : World) (a b : Int) (ha : -9223372036854775808 ≤ a ∧ a ≤ 9223372036854775807) (hb : -9223372036854775808 ≤ b ∧ b ≤ 9223372036854775807) :
    Calls Try.prog 34 #[.int .i64 a, .int .i64 b] w fun e w' => e = .returned (.int .i64 (addI a b)) ∧ w' = w := by
  by_cases h1 : 0 < b
  · have q1 : decide (0 < b) = true := decide_eq_true h1
    have q1' : decide (b < 0) = false := decide_eq_false (by omega)
    by_cases h2 : 9223372036854775807 - b < a
    · have q2 : decide (9223372036854775807 - b < a) = true := decide_eq_true h2
      have e : addI a b = 9223372036854775807 := by rw [addI, if_pos ⟨h1, h2⟩]
      rw [e]
      go_enter Try.func34, Try.ntmps34
      go_wp2_with fail
      go_ret
      exact ⟨rfl, rfl⟩
    · have q2 : decide (9223372036854775807 - b < a) = false := decide_eq_false h2
      have e : addI a b = a + b := by rw [addI, if_neg (by omega), if_neg (by omega)]
      rw [e]
      go_enter Try.func34, Try.ntmps34
      go_wp2_with fail
      go_ret
      exact ⟨rfl, rfl⟩
  · have q1 : decide (0 < b) = false := decide_eq_false h1
    by_cases h3 : b < 0
    · have q3 : decide (b < 0) = true := decide_eq_true h3
      by_cases h2 : a < -9223372036854775808 - b
      · have q2 : decide (a < -9223372036854775808 - b) = true := decide_eq_true h2
        have e : addI a b = -9223372036854775808 := by rw [addI, if_neg (by omega), if_pos ⟨h3, h2⟩]
        rw [e]
        go_enter Try.func34, Try.ntmps34
        go_wp2_with fail
        go_ret
        exact ⟨rfl, rfl⟩
      · have q2 : decide (a < -9223372036854775808 - b) = false := decide_eq_false h2
        have e : addI a b = a + b := by rw [addI, if_neg (by omega), if_neg (by omega)]
        rw [e]
        go_enter Try.func34, Try.ntmps34
        go_wp2_with fail
        go_ret
        exact ⟨rfl, rfl⟩
    · have q3 : decide (b < 0) = false := decide_eq_false h3
      have e : addI a b = a + b := by rw [addI, if_neg (by omega), if_neg (by omega)]
      rw [e]
      go_enter Try.func34, Try.ntmps34
      go_wp2_with fail
      go_ret
      exact ⟨rfl, rfl⟩

theorem empty_ne {b : ByteArray} (h : ¬ b = ⟨#[]⟩) : b.toList.isEmpty = false := by
  rw [ByteArray.toList_eq]
  cases e : b.data.toList with
  | nil => exact absurd (ByteArray.ext (Array.toList_inj.mp (by rw [e]))) h
  | cons => rfl
def isForI (grace : Int) (who : ByteArray) (now : Int) (t : Tk) : Bool := decide (t.ready ≤ now) && (decide (t.sticky = ⟨#[]⟩) || decide (t.sticky = who) || decide (addI t.ready grace ≤ now))
set_option maxRecDepth 20000 in
set_option maxHeartbeats 4000000 in
theorem isForQ (w : World) (q : Nat) (grace : Int) (t : Tk) (who : ByteArray) (now : Int) (hql : q < w.heap.size) (hc : w.cell? ⟨q, 1, none⟩ = some (.int .i64 grace)) (hg : -9223372036854775808 ≤ grace ∧ grace ≤ 9223372036854775807) (hr : -9223372036854775808 ≤ t.ready ∧ t.ready ≤ 9223372036854775807) :
    Calls Try.prog 32 #[.pointer (some ⟨q, 0, none⟩), tkV t, .string who, .int .i64 now] w fun e w' => e = .returned (.bool (isForI grace who now t)) ∧ Below w.heap.size w w' := by
  have KB := Lib.hid (Blk.new w 75 [.string t.key, .string t.sticky, .int .i64 t.ready, .int .i64 t.att])
  have hB := Lib.hid (Below.new w (.cells #[.string t.key, .string t.sticky, .int .i64 t.ready, .int .i64 t.att] 75))
  have HX : Hid ((w.alloc (.cells #[.string t.key, .string t.sticky, .int .i64 t.ready, .int .i64 t.att] 75)).cell? ⟨q, 1, none⟩ = some (.int .i64 grace)) := Lib.hid ((hB.out.cell hql).trans hc)
  have HA := fun X => Lib.hid (addQ X t.ready grace hr hg)
  clear hc
  unfold tkV
  go_enter Try.func32, Try.ntmps32
  go_wp2_with fail
  generalize w.alloc (.cells #[.string t.key, .string t.sticky, .int .i64 t.ready, .int .i64 t.att] 75) = X at *
  have hX := HX.out
  have u1 := KB.out.cell 1
  have u2 := KB.out.cell 2
  simp only [List.getElem?_cons_succ, List.getElem?_cons_zero] at u1 u2
  by_cases h1 : t.ready ≤ now
  · have q1 : decide (t.ready ≤ now) = true := decide_eq_true h1
    by_cases h2 : t.sticky = ⟨#[]⟩
    · have e : isForI grace who now t = true := by simp [isForI, h1, h2]
      go_quiet (fail)
      go_wp2_with fail
      go_ret
      exact ⟨by first | rfl | (rw [e]; rfl), below_drewN' hB.out _⟩
    · have q2 := empty_ne h2
      by_cases h3 : t.sticky = who
      · have e : isForI grace who now t = true := by simp [isForI, h1, h3]
        have q3 := (Lib.bytes_beq_iff t.sticky who).2 h3
        clear h3
        go_quiet (fail)
        go_wp2_with fail
        go_ret
        exact ⟨by first | rfl | (rw [e]; rfl), below_drewN' hB.out _⟩
      · have q3 := (Lib.bytes_beq_false_iff t.sticky who).2 h3
        have e : isForI grace who now t = decide (addI t.ready grace ≤ now) := by simp [isForI, h1, h2, h3]
        go_quiet ((go_at_call 34; exact Calls.quiet_of_same (HA _).out))
        go_wp2_with fail
        go_ret
        exact ⟨by first | rfl | (rw [e]; rfl), below_drewN' hB.out _⟩
  · have q1 : decide (t.ready ≤ now) = false := decide_eq_false h1
    have e : isForI grace who now t = false := by simp [isForI, h1]
    go_quiet (fail)
    go_wp2_with fail
    go_ret
    exact ⟨by first | rfl | (rw [e]; rfl), below_drewN' hB.out _⟩
end Go.Proofs.Ytpbheicfplpemaa
