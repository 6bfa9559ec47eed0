/- disk: New, made, goes, there, Off, Fuse, Waits. -/
import Derived.Test.YtoljnklceghcdaaDkState
import Derived.WalkSpells
namespace Go.Proofs.Ytoljnklceghcdaa
open Go.RowKit
variable {Xs : Nat → Prop}

set_option maxRecDepth 20000 in
theorem newD (w : World) : Calls Try.prog 9 #[] w fun e w' => e = .returned (.pointer (some ⟨w.heap.size + 1, 0, none⟩)) ∧ DS Xs w' (w.heap.size + 1) w.heap.size false (-1) (fun _ => none) 0 ∧ Below w.heap.size w w' := by
  have hmm := @run_makeMap Try.prog
  go_enter Try.func9, Try.ntmps9
  go_wp2_with fail
  go_ret
  refine ⟨rfl, ⟨Blk.new2 w _ 51 [.map (some w.heap.size), .bool false, .int .i64 (-1)], ⟨fun _ => none, 0, Nat.le_refl _, (MapIs.empty kStr w).alloc _, fun k => .inl ⟨rfl, rfl⟩⟩, by omega⟩, Below.new2 w _ _⟩
theorem made_nil (w : World) : Calls Try.prog 32 #[.pointer none] w fun e w' => e = .returned (.bool false) ∧ w' = w := by
  go_enter Try.func32, Try.ntmps32
  go_wp2_with fail
  go_ret
  exact ⟨rfl, rfl⟩
theorem made_is (w : World) (d : Nat) (m : Option Nat) (hc : w.cell? ⟨d, 0, none⟩ = some (.map m)) : Calls Try.prog 32 #[.pointer (some ⟨d, 0, none⟩)] w fun e w' => e = .returned (.bool m.isSome) ∧ w' = w := by
  have hq := fun w => run_neq_map_nil (P := Try.prog) w 49 _ _ m Try.underlying49
  go_enter Try.func32, Try.ntmps32
  go_wp2_with fail
  go_ret
  exact ⟨by cases m <;> rfl, rfl⟩
/-- a disk that nobody made: nil, or its map is nil -/
def NoDisk (w : World) (a : Option Addr) : Prop := a = none ∨ ∃ d, a = some ⟨d, 0, none⟩ ∧ Blk w d 51 [.map none, .bool false, .int .i64 0]
theorem NoDisk.bel {w w' : World} {a : Option Addr} (h : NoDisk w a) (k : Below w.heap.size w w') : NoDisk w' a := by
  rcases h with h | ⟨d, h, hb⟩
  · exact .inl h
  · exact .inr ⟨d, h, hb.bel k⟩
theorem made_no (w : World) (a : Option Addr) (h : NoDisk w a) : Calls Try.prog 32 #[.pointer a] w fun e w' => e = .returned (.bool false) ∧ w' = w := by
  rcases h with rfl | ⟨d, rfl, hb⟩
  · exact made_nil w
  · exact made_is w d none (hb.cell 0)
theorem goes_no (w : World) (a : Option Addr) (h : NoDisk w a) : Calls Try.prog 26 #[.pointer a] w fun e w' => e = .returned (.int .i64 1) ∧ w' = w := by
  have HM := Lib.hid (made_no w a h)
  clear h
  go_enter Try.func26, Try.ntmps26
  go_wp2_with (go_at_call 32; refine HM.out.mono ?_; rintro e w' ⟨rfl, rfl⟩)
  go_ret
  exact ⟨rfl, rfl⟩
def goC (off : Bool) : Int := if off then 250 else 0
theorem goesD (w : World) (d F N : Nat) (off : Bool) (fuse : Int) (p : Fs) (h : DS Xs w d F off fuse p N) : Calls Try.prog 26 #[.pointer (some ⟨d, 0, none⟩)] w fun e w' => e = .returned (.int .i64 (goC off)) ∧ w' = w := by
  obtain ⟨c0, c1, _⟩ := h.cells
  have HM := Lib.hid (made_is w d (some F) c0)
  simp only [Option.isSome_some] at HM
  clear h c0
  cases off
  all_goals
    go_enter Try.func26, Try.ntmps26
    go_wp2_with (go_at_call 32; refine HM.out.mono ?_; rintro e w' ⟨rfl, rfl⟩)
    go_ret
    exact ⟨rfl, rfl⟩
theorem offD (w : World) (d F N : Nat) (off : Bool) (fuse : Int) (p : Fs) (h : DS Xs w d F off fuse p N) : Calls Try.prog 18 #[.pointer (some ⟨d, 0, none⟩)] w fun e w' => e = .returned (.bool off) ∧ w' = w := by
  obtain ⟨c0, c1, _⟩ := h.cells
  clear h c0
  go_enter Try.func18, Try.ntmps18
  go_wp2_with fail
  go_ret
  exact ⟨rfl, rfl⟩
theorem off_no (w : World) (a : Option Addr) (h : NoDisk w a) : Calls Try.prog 18 #[.pointer a] w fun e w' => e = .returned (.bool false) ∧ w' = w := by
  rcases h with rfl | ⟨d, rfl, hb⟩
  · go_enter Try.func18, Try.ntmps18
    go_wp2_with fail
    go_ret
    exact ⟨rfl, rfl⟩
  · have c1 := hb.cell 1
    simp only [List.getElem?_cons_succ, List.getElem?_cons_zero] at c1
    clear hb
    go_enter Try.func18, Try.ntmps18
    go_wp2_with fail
    go_ret
    exact ⟨rfl, rfl⟩
theorem zeroFileE (w : World) : (zeroValue 58).run Try.prog w = .ok (fileV (.slice none 0 0) 0) w := by kernel_rfl
theorem DS.look0 {w : World} {F n : Nat} {p : Fs} {mv : ByteArray → Option Value} (hm : MapIs kStr w F mv n) (hf : Files Xs w p mv) (k : ByteArray) :
    ∃ v, FileB Xs w v (pl p k).1 ∧ (pl p k).2 ≤ (pl p k).1.length ∧ ∀ w', Below w.heap.size w w' → (Instr.lookup 49 (.map (some F)) (.string k) true).run Try.prog w' = .ok (.tuple #[fileV v (pl p k).2, .bool (p k).isSome]) w' ∧
      (Instr.lookup 49 (.map (some F)) (.string k) false).run Try.prog w' = .ok (fileV v (pl p k).2) w' := by
  obtain ⟨h1, v, h2, h3, h4⟩ := hf.get k
  refine ⟨v, h3, h4, fun w' hb => ?_⟩
  have l1 := MapIs.lookup (t := 49) (e := 58) (hm.below hb) (str_keys Try.underlying9) Try.underlying49 (zeroFileE _) k true
  have l2 := MapIs.lookup (t := 49) (e := 58) (hm.below hb) (str_keys Try.underlying9) Try.underlying49 (zeroFileE _) k false
  rw [h1, h2] at l1
  rw [h2] at l2
  exact ⟨l1, l2⟩
theorem DS.look {w : World} {d F N : Nat} {off : Bool} {fuse : Int} {p : Fs} (h : DS Xs w d F off fuse p N) (k : ByteArray) :
    ∃ v, FileB Xs w v (pl p k).1 ∧ (pl p k).2 ≤ (pl p k).1.length ∧ (Instr.lookup 49 (.map (some F)) (.string k) true).run Try.prog w = .ok (.tuple #[fileV v (pl p k).2, .bool (p k).isSome]) w ∧
      (Instr.lookup 49 (.map (some F)) (.string k) false).run Try.prog w = .ok (fileV v (pl p k).2) w := by
  obtain ⟨mv, n, hN, hm, hf⟩ := h.files
  obtain ⟨v, h3, h4, hl⟩ := DS.look0 hm hf k
  obtain ⟨l1, l2⟩ := hl w (Below.refl _ _)
  exact ⟨v, h3, h4, l1, l2⟩
def thC (off : Bool) (is : Bool) : Int := if off then 250 else if is then 0 else 5
theorem there_no (w : World) (a : Option Addr) (h : NoDisk w a) (k : ByteArray) : Calls Try.prog 30 #[.pointer a, .string k] w fun e w' => e = .returned (.int .i64 1) ∧ w' = w := by
  have HM := Lib.hid (goes_no w a h)
  clear h
  go_enter Try.func30, Try.ntmps30
  go_wp2_with (go_at_call 26; refine HM.out.mono ?_; rintro e w' ⟨rfl, rfl⟩)
  go_ret
  exact ⟨rfl, rfl⟩
set_option maxRecDepth 20000 in
theorem thereD (w : World) (d F N : Nat) (off : Bool) (fuse : Int) (p : Fs) (h : DS Xs w d F off fuse p N) (k : ByteArray) : Calls Try.prog 30 #[.pointer (some ⟨d, 0, none⟩), .string k] w fun e w' => e = .returned (.int .i64 (thC off (p k).isSome)) ∧ Below w.heap.size w w' := by
  have HM := Lib.hid (goesD w d F N off fuse p h)
  obtain ⟨c0, _, _⟩ := h.cells
  obtain ⟨v, hv, _, hl, _⟩ := h.look k
  unfold fileV at hl
  obtain ⟨A, cap, rfl, _, hc1, hc2⟩ := hv.form
  generalize (p k).isSome = b at *
  clear h hv
  cases off
  · cases b
    all_goals
      unfold goC at HM
      simp only [if_false, Bool.false_eq_true] at HM
      go_enter Try.func30, Try.ntmps30
      go_wp2_with (go_at_call 26; refine HM.out.mono ?_; rintro e w' ⟨rfl, rfl⟩)
      go_ret
      exact ⟨rfl, Below.new _ _⟩
  · unfold goC at HM
    simp only [if_true] at HM
    clear hl c0
    go_enter Try.func30, Try.ntmps30
    go_wp2_with (go_at_call 26; refine HM.out.mono ?_; rintro e w' ⟨rfl, rfl⟩)
    go_ret
    exact ⟨rfl, Below.refl _ _⟩
set_option maxRecDepth 20000 in
theorem waitsD (w : World) (d F N : Nat) (off : Bool) (fuse : Int) (p : Fs) (h : DS Xs w d F off fuse p N) (k : ByteArray) : Calls Try.prog 15 #[.pointer (some ⟨d, 0, none⟩), .string k] w fun e w' => e = .returned (.int .i64 (((pl p k).1.length : Int) - ((pl p k).2 : Int))) ∧ Below w.heap.size w w' := by
  obtain ⟨c0, _, _⟩ := h.cells
  have HM := Lib.hid (made_is w d (some F) c0)
  simp only [Option.isSome_some] at HM
  obtain ⟨v, hv, hn, _, hl⟩ := h.look k
  unfold fileV at hl
  obtain ⟨A, cap, rfl, _, hc1, hc2⟩ := hv.form
  generalize (pl p k).1.length = n at *
  generalize (pl p k).2 = m at *
  unfold maxLen at hc2
  clear h hv
  go_enter Try.func15, Try.ntmps15
  go_wp2_with (go_at_call 32; refine HM.out.mono ?_; rintro e w' ⟨rfl, rfl⟩)
  go_ret
  exact ⟨rfl, Below.new _ _⟩
theorem waits_no (w : World) (a : Option Addr) (h : NoDisk w a) (k : ByteArray) : Calls Try.prog 15 #[.pointer a, .string k] w fun e w' => e = .returned (.int .i64 0) ∧ w' = w := by
  have HM := Lib.hid (made_no w a h)
  clear h
  go_enter Try.func15, Try.ntmps15
  go_wp2_with (go_at_call 32; refine HM.out.mono ?_; rintro e w' ⟨rfl, rfl⟩)
  go_ret
  exact ⟨rfl, rfl⟩
theorem fuse_no (w : World) (a : Option Addr) (h : NoDisk w a) (n : Int) : Calls Try.prog 16 #[.pointer a, .int .i64 n] w fun e w' => e = .returned (.int .i64 1) ∧ w' = w := by
  have HM := Lib.hid (goes_no w a h)
  clear h
  go_enter Try.func16, Try.ntmps16
  go_wp2_with (go_at_call 26; refine HM.out.mono ?_; rintro e w' ⟨rfl, rfl⟩)
  go_ret
  exact ⟨rfl, rfl⟩
/-- Fuse -/
def fuC (off : Bool) (n : Int) : Int := if off then 250 else if n < 0 then 1 else 0
def fuN (off : Bool) (fuse n : Int) : Int := if off then fuse else if n < 0 then fuse else n
theorem fuseD (w : World) (d F N : Nat) (off : Bool) (fuse : Int) (p : Fs) (h : DS Xs w d F off fuse p N) (n : Int) (hn : n ≤ 9223372036854775807) : Calls Try.prog 16 #[.pointer (some ⟨d, 0, none⟩), .int .i64 n] w fun e w' => e = .returned (.int .i64 (fuC off n)) ∧ DS Xs w' d F off (fuN off fuse n) p N ∧ Turns (DSet d F) w w' := by
  have HM := Lib.hid (goesD w d F N off fuse p h)
  have HH := Lib.hid h
  obtain ⟨_, _, c2⟩ := h.cells
  have z2 := h.blk.fz 2
  have hbl := h.blk.lt
  clear h
  cases off
  · unfold goC at HM
    simp only [if_false, Bool.false_eq_true] at HM
    by_cases hn0 : n < 0
    · go_enter Try.func16, Try.ntmps16
      go_wp2_with (go_at_call 26; refine HM.out.mono ?_; rintro e w' ⟨rfl, rfl⟩)
      go_ret
      refine ⟨by simp [fuC, hn0], ?_, Turns.refl _ _⟩
      rw [show fuN false fuse n = fuse from (if_neg (by decide)).trans (if_pos hn0)]
      exact HH.out
    · go_enter Try.func16, Try.ntmps16
      go_wp2_with (go_at_call 26; refine HM.out.mono ?_; rintro e w' ⟨rfl, rfl⟩)
      go_ret
      rw [show fuN false fuse n = n from (if_neg (by decide)).trans (if_neg (by omega))]
      rw [show fuC false n = 0 from (if_neg (by decide)).trans (if_neg (by omega))]
      exact ⟨rfl, HH.out.set false n (HH.out.blk.set 2 (.int .i64 n)) (.of_set w' ⟨d, 2, none⟩ _ rfl) (by omega), .of_set w' ⟨d, 2, none⟩ _ (.inl rfl)⟩
  · unfold goC at HM
    simp only [if_true] at HM
    go_enter Try.func16, Try.ntmps16
    go_wp2_with (go_at_call 26; refine HM.out.mono ?_; rintro e w' ⟨rfl, rfl⟩)
    go_ret
    exact ⟨rfl, HH.out, Turns.refl _ _⟩
end Go.Proofs.Ytoljnklceghcdaa
