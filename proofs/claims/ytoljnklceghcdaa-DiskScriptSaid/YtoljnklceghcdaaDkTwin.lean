/- disk: a disk that nobody made; a clone of bytes; Twin. -/
import Derived.Test.YtoljnklceghcdaaDkCrash
import Derived.Laws.Externs
import Derived.Laws.Cover3
namespace Go.Proofs.Ytoljnklceghcdaa
open Go.RowKit Go.Maps Go.Sort Go.Shelf
variable {Xs : Nat → Prop}

section
variable (w : World) (a : Option Addr) (h : NoDisk w a)
include h
theorem read_no (k : ByteArray) : Calls Try.prog 13 #[.pointer a, .string k] w fun e w' => e = .returned (.tuple #[.slice none 0 0, .int .i64 1]) ∧ w' = w := by
  have HM := Lib.hid (there_no w a h k)
  clear h
  go_enter Try.func13, Try.ntmps13
  go_wp2_with (go_at_call 30; refine HM.out.mono ?_; rintro e w' ⟨rfl, rfl⟩)
  go_ret2
  exact ⟨rfl, rfl⟩
theorem names_no : Calls Try.prog 19 #[.pointer a] w fun e w' => e = .returned (.tuple #[.slice none 0 0, .int .i64 1]) ∧ w' = w := by
  have HM := Lib.hid (goes_no w a h)
  clear h
  go_enter Try.func19, Try.ntmps19
  go_wp2_with (go_at_call 26; refine HM.out.mono ?_; rintro e w' ⟨rfl, rfl⟩)
  go_ret2
  exact ⟨rfl, rfl⟩
theorem crash_no (A : Option Addr) (n c : Nat) : Calls Try.prog 12 #[.pointer a, .slice A n c] w fun e w' => e = .returned (.int .i64 1) ∧ w' = w := by
  have HM := Lib.hid (made_no w a h)
  clear h
  go_enter Try.func12, Try.ntmps12
  go_wp2_with (go_at_call 32; refine HM.out.mono ?_; rintro e w' ⟨rfl, rfl⟩)
  go_ret
  exact ⟨rfl, rfl⟩
theorem twin_no : Calls Try.prog 21 #[.pointer a] w fun e w' => e = .returned (.pointer none) ∧ w' = w := by
  have HM := Lib.hid (made_no w a h)
  clear h
  go_enter Try.func21, Try.ntmps21
  go_wp2_with (go_at_call 32; refine HM.out.mono ?_; rintro e w' ⟨rfl, rfl⟩)
  go_ret
  exact ⟨rfl, rfl⟩
theorem append_no (k : ByteArray) (B : Option Addr) (m c : Nat) : Calls Try.prog 10 #[.pointer a, .string k, .slice B m c] w fun e w' => e = .returned (.int .i64 1) ∧ Below w.heap.size w w' := by
  have HB := Lib.hid (Below.new3 w (.cells #[.pointer a] 25) (.cells #[.string k] 9) (.cells #[.slice B m c] 29))
  have HM := Lib.hid (goes_no _ a (h.bel HB.out))
  clear h
  go_enter Try.func10, Try.ntmps10
  go_wp2_with (go_at_call 26; refine HM.out.mono ?_; rintro e w' ⟨rfl, rfl⟩)
  go_ret
  exact ⟨rfl, HB.out⟩
theorem sync_no (k : ByteArray) : Calls Try.prog 11 #[.pointer a, .string k] w fun e w' => e = .returned (.int .i64 1) ∧ Below w.heap.size w w' := by
  have HB := Lib.hid (Below.new2 w (.cells #[.pointer a] 25) (.cells #[.string k] 9))
  have HM := Lib.hid (there_no _ a (h.bel HB.out) k)
  clear h
  go_enter Try.func11, Try.ntmps11
  go_wp2_with (go_at_call 30; refine HM.out.mono ?_; rintro e w' ⟨rfl, rfl⟩)
  go_ret
  exact ⟨rfl, HB.out⟩
theorem remove_no (k : ByteArray) : Calls Try.prog 22 #[.pointer a, .string k] w fun e w' => e = .returned (.int .i64 1) ∧ Below w.heap.size w w' := by
  have HB := Lib.hid (Below.new2 w (.cells #[.pointer a] 25) (.cells #[.string k] 9))
  have HM := Lib.hid (there_no _ a (h.bel HB.out) k)
  clear h
  go_enter Try.func22, Try.ntmps22
  go_wp2_with (go_at_call 30; refine HM.out.mono ?_; rintro e w' ⟨rfl, rfl⟩)
  go_ret
  exact ⟨rfl, HB.out⟩
theorem rename_no (k k2 : ByteArray) : Calls Try.prog 25 #[.pointer a, .string k, .string k2] w fun e w' => e = .returned (.int .i64 1) ∧ Below w.heap.size w w' := by
  have HB := Lib.hid (Below.new3 w (.cells #[.pointer a] 25) (.cells #[.string k] 9) (.cells #[.string k2] 9))
  have HM := Lib.hid (there_no _ a (h.bel HB.out) k)
  clear h
  go_enter Try.func25, Try.ntmps25
  go_wp2_with (go_at_call 30; refine HM.out.mono ?_; rintro e w' ⟨rfl, rfl⟩)
  go_ret
  exact ⟨rfl, HB.out⟩
end
theorem eql_nilB (w : World) (a : Option Addr) (l c : Nat) : (binOp .eql 29 (.slice a l c) (.slice none 0 0)).run Try.prog w = .ok (.bool a.isNone) w := by
  simp only [binOp]
  simp [run_equal_slice_nil w 29 _ a l c Try.underlying29]
theorem cloneB (w : World) (A : Option Addr) (n c : Nat) (l : List UInt8) (h : FileB Xs w (.slice A n c) l) (hL : l.length ≤ 100000000) {Ys : Nat → Prop} (hy : ∀ g, Ys g → g < w.heap.size) :
    Calls Try.prog 35 #[.slice A n c] w fun e w' => ∃ A' c', e = .returned (.slice A' l.length c') ∧ FileB Ys w' (.slice A' l.length c') l ∧ Below w.heap.size w w' := by
  cases A with
  | none =>
    obtain ⟨h1, rfl⟩ := h.bs.none
    subst h1
    obtain rfl : c = 0 := by
      rcases h with ⟨e, _⟩ | ⟨g, cap, cur, e, _⟩
      · injection e
      · cases e
    have hq := fun w => eql_nilB w none 0 0
    go_enter Try.func35, Try.ntmps35
    go_wp2_with fail
    go_ret
    exact ⟨none, 0, rfl, .nil _ _, Below.refl _ _⟩
  | some a =>
    have hq := fun w => eql_nilB w (some a) n c
    obtain ⟨A', cap', w3, hrun, ho, hb3⟩ := append_copy w (some a) n c l h.bs hL 29
    have HR := Lib.hid hrun
    have HO := Lib.hid ho
    have HB3 := Lib.hid hb3
    clear hrun ho hb3 h
    go_enter Try.func35, Try.ntmps35
    go_wp2_with (at_builtin; refine wpl_append_run rfl _ _ 29 rfl _ _ rfl rfl _ _ HR.out ?_)
    go_ret
    exact ⟨A', cap', rfl, .of_own HO.out rfl (fun g hg h => absurd (hy g h) (by have := own_ge HO.out hg; omega)), HB3.out⟩
end Go.Proofs.Ytoljnklceghcdaa
