/- heap.ahead, lay (explore) -/
import Derived.Test.YteondokncalbnaaBlk
import Derived.Test.YteondokncalbnaaHpPlain
import Derived.Test.YteondokncalbnaaProg
namespace Go.Proofs.Yteondokncalbnaa
open Go.RowKit

theorem ret_i {k : IntKind} {a b : Int} (h : a = b) : Ending.returned (.int k a) = .returned (.int k b) := by rw [h]
theorem isNaN64 (a : Int) (w : World) : Calls Try.prog 85 #[.int .i64 a] w fun e w' => e = .returned (.bool false) ∧ w' = w := by
  go_enter Try.func85, Try.ntmps85
  go_wp2_with fail
  go_ret
  exact ⟨by simp, rfl⟩
theorem isNaNi (a : Int) (w : World) : Calls Try.prog 86 #[.int .i64 a] w fun e w' => e = .returned (.bool false) ∧ w' = w := by
  go_enter Try.func86, Try.ntmps86
  go_wp2_with fail
  go_ret
  exact ⟨by simp, rfl⟩
def cmpII (a b : Int) : Int := if a < b then -1 else if b < a then 1 else 0
theorem cmp64 (a b : Int) (w : World) : Calls Try.prog 78 #[.int .i64 a, .int .i64 b] w fun e w' => e = .returned (.int .i64 (cmpII a b)) ∧ w' = w := by
  by_cases h1 : a < b
  · go_enter Try.func78, Try.ntmps78
    go_wp2_with (go_at_call 85; refine (isNaN64 _ _).mono ?_; rintro e w' ⟨rfl, rfl⟩)
    go_ret
    exact ⟨by simp [cmpII, h1], rfl⟩
  · by_cases h2 : b < a
    · go_enter Try.func78, Try.ntmps78
      go_wp2_with (go_at_call 85; refine (isNaN64 _ _).mono ?_; rintro e w' ⟨rfl, rfl⟩)
      go_ret
      exact ⟨by simp [cmpII, h1, h2], rfl⟩
    · go_enter Try.func78, Try.ntmps78
      go_wp2_with (go_at_call 85; refine (isNaN64 _ _).mono ?_; rintro e w' ⟨rfl, rfl⟩)
      go_ret
      exact ⟨ret_i (by unfold cmpII; rw [if_neg (by omega), if_neg (by omega)]), rfl⟩
theorem cmpI (a b : Int) (w : World) : Calls Try.prog 79 #[.int .i64 a, .int .i64 b] w fun e w' => e = .returned (.int .i64 (cmpII a b)) ∧ w' = w := by
  by_cases h1 : a < b
  · go_enter Try.func79, Try.ntmps79
    go_wp2_with (go_at_call 86; refine (isNaNi _ _).mono ?_; rintro e w' ⟨rfl, rfl⟩)
    go_ret
    exact ⟨by simp [cmpII, h1], rfl⟩
  · by_cases h2 : b < a
    · go_enter Try.func79, Try.ntmps79
      go_wp2_with (go_at_call 86; refine (isNaNi _ _).mono ?_; rintro e w' ⟨rfl, rfl⟩)
      go_ret
      exact ⟨by simp [cmpII, h1, h2], rfl⟩
    · go_enter Try.func79, Try.ntmps79
      go_wp2_with (go_at_call 86; refine (isNaNi _ _).mono ?_; rintro e w' ⟨rfl, rfl⟩)
      go_ret
      exact ⟨ret_i (by unfold cmpII; rw [if_neg (by omega), if_neg (by omega)]), rfl⟩
/-- the first that is not 0 -/
def orII (a b : Int) : Int := if a = 0 then b else a
theorem or_any (a b : Int) (g : Nat) (w : World) (h : Blk w g 3 [.int .i64 a, .int .i64 b]) : Calls Try.prog 77 #[.slice (some ⟨g, 0, none⟩) 2 2] w fun e w' => e = .returned (.int .i64 (orII a b)) ∧ w' = w := by
  have c0 := h.cell 0
  have c1 := h.cell 1
  simp only [List.getElem?_cons_succ, List.getElem?_cons_zero] at c0 c1
  by_cases ha : a = 0
  · by_cases hb : b = 0
    · have e1 : (a != 0) = false := by simp [ha]
      have e2 : (b != 0) = false := by simp [hb]
      have E : Hid (orII a b = 0) := Lib.hid (by simp [orII, ha, hb])
      clear ha hb
      go_enter Try.func77, Try.ntmps77
      go_wp2_with fail
      refine wp_loop_rounds 3 ?_
      rw [rounds_succ]
      go_wp2_with fail
      rw [rounds_succ]
      go_wp2_with fail
      rw [rounds_succ]
      go_wp2_with fail
      go_ret
      exact ⟨ret_i E.out.symm, rfl⟩
    · have e1 : (a != 0) = false := by simp [ha]
      have e2 : (b != 0) = true := by simp [hb]
      have E : Hid (orII a b = b) := Lib.hid (by simp [orII, ha])
      clear ha hb
      go_enter Try.func77, Try.ntmps77
      go_wp2_with fail
      refine wp_loop_rounds 3 ?_
      rw [rounds_succ]
      go_wp2_with fail
      rw [rounds_succ]
      go_wp2_with fail
      go_ret
      exact ⟨ret_i E.out.symm, rfl⟩
  · have e1 : (a != 0) = true := by simp [ha]
    have E : Hid (orII a b = a) := Lib.hid (by simp [orII, ha])
    clear ha
    go_enter Try.func77, Try.ntmps77
    go_wp2_with fail
    refine wp_loop_rounds 3 ?_
    rw [rounds_succ]
    go_wp2_with fail
    go_ret
    exact ⟨ret_i E.out.symm, rfl⟩
/-- which of two things is ahead -/
def cmpT (a b : Th) : Int := orII (cmpII a.key b.key) (cmpII a.num b.num)
theorem cmpT_lt (a b : Th) : cmpT a b < 0 ↔ a.lt b := by
  unfold cmpT orII cmpII Th.lt
  split <;> split <;> (try split) <;> omega
theorem cmpT_bool {a b : Th} (h : a.lt b) : decide (cmpT a b < 0) = true := by simpa using (cmpT_lt a b).2 h
theorem cmpT_not {a b : Th} (h : ¬ a.lt b) : decide (cmpT a b < 0) = false := decide_eq_false fun hh => h ((cmpT_lt a b).1 hh)
theorem zeroIntE (w : World) : (zeroValue 3).run Try.prog w = .ok (.int .i64 0) w := by kernel_rfl
/-- the blocks of a heap -/
def HS (p : Nat) (v : Value) (M : Nat) : Nat → Prop := fun i => i = p ∨ i = M ∨ v.ownBlock = some i
theorem par_int {i : Nat} (h : 0 < i) : ((i : Int) - 1) / 2 = ((par i : Nat) : Int) := by unfold par; omega
/-- where a heap's things may lie next -/
def Next (w : World) (v v' : Value) : Prop := v'.ownBlock = v.ownBlock ∨ ∃ g, v'.ownBlock = some g ∧ w.heap.size ≤ g
theorem HS.next {w : World} {p M : Nat} {v v' : Value} (h : Next w v v') {i : Nat} (hi : i < w.heap.size) (hs : HS p v' M i) : HS p v M i := by
  rcases hs with h1 | h1 | h1
  · exact .inl h1
  · exact .inr (.inl h1)
  · rcases h with h | ⟨g, hg, hle⟩
    · exact .inr (.inr (h ▸ h1))
    · rw [hg] at h1
      injection h1 with h1
      omega
theorem HS.lo {B p M : Nat} {v v' : Value} {w : World} (h : ∀ i, HS p v M i → B ≤ i) (n : Next w v v') (hB : B ≤ w.heap.size) : ∀ i, HS p v' M i → B ≤ i := by
  rintro i (h1 | h1 | h1)
  · exact h i (.inl h1)
  · exact h i (.inr (.inl h1))
  · rcases n with n | ⟨g, hg, hle⟩
    · exact h i (.inr (.inr (n ▸ h1)))
    · rw [hg] at h1
      injection h1 with h1
      omega
end Go.Proofs.Yteondokncalbnaa
