/- HeapNobody: a heap that nobody made. -/
import Derived.Test.YtoihhckiacmfcaaHpSort0
import Derived.Test.YtoihhckiacmfcaaHpAwake
namespace Go.Proofs.Ytoihhckiacmfcaa
open Go.RowKit

/-- no heap, or one that nobody made -/
def Nob (w : World) (a : Option Addr) : Prop := a = none ∨ ∃ z, a = some ⟨z, 0, none⟩ ∧ Blk w z 56 [.bool false, .slice none 0 0, .map none, .int .i64 0]
theorem Nob.bel {w w' : World} {a : Option Addr} (h : Nob w a) (hb : Below w.heap.size w w') : Nob w' a := h.imp id fun ⟨z, e, k⟩ => ⟨z, e, k.bel hb⟩

set_option maxRecDepth 20000 in
theorem nob_push (w : World) (a : Option Addr) (h : Nob w a) (key : Int) : Calls Try.prog 16 #[.pointer a, .int .i64 key, .int .i64 1] w fun e w' => e = .returned (.int .i64 (-1)) ∧ w' = w := by
  rcases h with rfl | ⟨z, rfl, hz⟩
  · go_enter Try.func16, Try.ntmps16
    go_wp2_with fail
    go_ret
    exact ⟨rfl, rfl⟩
  · have b0 := hz.cell 0
    simp only [List.getElem?_cons_succ, List.getElem?_cons_zero] at b0
    clear hz
    go_enter Try.func16, Try.ntmps16
    go_wp2_with fail
    go_ret
    exact ⟨rfl, rfl⟩
set_option maxRecDepth 20000 in
theorem nob_copy (w : World) (a : Option Addr) (h : Nob w a) : Calls Try.prog 21 #[.pointer a] w fun e w' => e = .returned (.pointer none) ∧ w' = w := by
  rcases h with rfl | ⟨z, rfl, hz⟩
  · go_enter Try.func21, Try.ntmps21
    go_wp2_with fail
    go_ret
    exact ⟨rfl, rfl⟩
  · have b0 := hz.cell 0
    simp only [List.getElem?_cons_succ, List.getElem?_cons_zero] at b0
    clear hz
    go_enter Try.func21, Try.ntmps21
    go_wp2_with fail
    go_ret
    exact ⟨rfl, rfl⟩
set_option maxRecDepth 20000 in
theorem nob_len (w : World) (a : Option Addr) (h : Nob w a) : Calls Try.prog 11 #[.pointer a] w fun e w' => e = .returned (.int .i64 0) ∧ w' = w := by
  rcases h with rfl | ⟨z, rfl, hz⟩
  · go_enter Try.func11, Try.ntmps11
    go_wp2_with fail
    go_ret
    exact ⟨rfl, rfl⟩
  · have b0 := hz.cell 1
    simp only [List.getElem?_cons_succ, List.getElem?_cons_zero] at b0
    clear hz
    go_enter Try.func11, Try.ntmps11
    go_wp2_with fail
    go_ret
    exact ⟨rfl, rfl⟩
set_option maxRecDepth 20000 in
theorem nob_peek (w : World) (a : Option Addr) (h : Nob w a) : Calls Try.prog 23 #[.pointer a] w fun e w' => e = .returned (.tuple #[.int .i64 0, .int .i64 0, .int .i64 0, .bool false]) ∧ w' = w := by
  have hL := Lib.hid (nob_len w a h)
  clear h
  go_enter Try.func23, Try.ntmps23
  go_wp2_with (go_at_call 11; refine hL.out.mono ?_; rintro e w' ⟨rfl, rfl⟩)
  exact bodyPost_ret (v := .tuple #[.int .i64 0, .int .i64 0, .int .i64 0, .bool false]) (by simp [results, Try.results23, go_sem]) rfl ⟨rfl, rfl⟩
set_option maxRecDepth 20000 in
theorem nob_pop (w : World) (a : Option Addr) (h : Nob w a) : Calls Try.prog 12 #[.pointer a] w fun e w' => e = .returned (.tuple #[.int .i64 0, .int .i64 0, .int .i64 0, .bool false]) ∧ w' = w := by
  have hL := Lib.hid (nob_peek w a h)
  clear h
  go_enter Try.func12, Try.ntmps12
  go_wp2_with (go_at_call 23; refine hL.out.mono ?_; rintro e w' ⟨rfl, rfl⟩)
  exact bodyPost_ret (v := .tuple #[.int .i64 0, .int .i64 0, .int .i64 0, .bool false]) (by simp [results, Try.results12, go_sem]) rfl ⟨rfl, rfl⟩
set_option maxRecDepth 20000 in
theorem nob_find (w : World) (a : Option Addr) (h : Nob w a) (k : Int) : Calls Try.prog 29 #[.pointer a, .int .i64 k] w fun e w' => e = .returned (.tuple #[.int .i64 0, .bool false]) ∧ w' = w := by
  rcases h with rfl | ⟨z, rfl, hz⟩
  · go_enter Try.func29, Try.ntmps29
    go_wp2_with fail
    go_ret2
    exact ⟨rfl, rfl⟩
  · have b0 := hz.cell 2
    simp only [List.getElem?_cons_succ, List.getElem?_cons_zero] at b0
    clear hz
    have hlk : (Instr.lookup 54 (.map none) (.int .i64 k) true).run Try.prog w = .ok (.tuple #[.int .i64 0, .bool false]) w := by
      have L := int_keys (P := Try.prog) (kt := 3) Try.underlying3
      rcases L.find k w [] (by simp) with ⟨f1, _⟩ | ⟨j, e0, _, f2, _⟩
      · have f0 := L.check true k w
        unfold kInt at f0 f1
        simp [Instr.lookup, run_underlying Try.underlying54, f0, f1, zeroIntE, Result.andThen]
      · simp at f2
    go_enter Try.func29, Try.ntmps29
    go_wp2_with fail
    go_ret2
    exact ⟨rfl, rfl⟩
set_option maxRecDepth 20000 in
theorem nob_remove (w : World) (a : Option Addr) (h : Nob w a) (k : Int) : Calls Try.prog 10 #[.pointer a, .int .i64 k] w fun e w' => e = .returned (.tuple #[.int .i64 0, .bool false]) ∧ w' = w := by
  have hL := Lib.hid (nob_find w a h k)
  clear h
  go_enter Try.func10, Try.ntmps10
  go_wp2_with (go_at_call 29; refine hL.out.mono ?_; rintro e w' ⟨rfl, rfl⟩)
  go_ret2
  exact ⟨rfl, rfl⟩
set_option maxRecDepth 20000 in
theorem nob_change (w : World) (a : Option Addr) (h : Nob w a) (k key : Int) : Calls Try.prog 9 #[.pointer a, .int .i64 k, .int .i64 key] w fun e w' => e = .returned (.bool false) ∧ w' = w := by
  have hL := Lib.hid (nob_find w a h k)
  clear h
  go_enter Try.func9, Try.ntmps9
  go_wp2_with (go_at_call 29; refine hL.out.mono ?_; rintro e w' ⟨rfl, rfl⟩)
  go_ret
  exact ⟨rfl, rfl⟩
set_option maxRecDepth 20000 in
theorem values_any (v : Value) (hv : v.oneCell' = true) (w : World) : Calls Try.prog 46 #[.slice none 0 0] w fun e w' => e = .returned (.func (.func 57) #[] #[.pointer (some ⟨w.heap.size, 0, none⟩)]) ∧ w' = w.alloc (.cells #[.slice none 0 0] 53) := by
  go_enter Try.func46, Try.ntmps46
  go_wp2_with fail
  go_ret
  exact ⟨rfl, rfl⟩
set_option maxRecDepth 20000 in
theorem nob_sorted (w : World) (a : Option Addr) (h : Nob w a) : Calls Try.prog 33 #[.pointer a] w fun e w' => e = .returned (.slice none 0 0) ∧ Below w.heap.size w w' := by
  rcases h with rfl | ⟨z, rfl, hz⟩
  · go_enter Try.func33, Try.ntmps33
    go_wp2_with fail
    go_ret
    exact ⟨rfl, Below.refl _ _⟩
  · have b0 := hz.cell 1
    simp only [List.getElem?_cons_succ, List.getElem?_cons_zero] at b0
    clear hz
    go_enter Try.func33, Try.ntmps33
    go_wp2_with (go_at_call 46; refine (values_any (.bool true) rfl _).mono ?_; rintro e w' ⟨rfl, rfl⟩)
    refine (sortedFunc0 _ _ w.heap.size (by simp) ?_).mono ?_
    · exact (Blk.new w 53 [.slice none 0 0]).cell 0
    rintro e w1 ⟨rfl, hb⟩
    have hB := below_trans' (Below.new w _) hb
    have HB := Lib.hid hB
    clear hB hb
    go_wp2_with fail
    go_ret
    exact ⟨rfl, HB.out⟩
set_option maxRecDepth 20000 in
theorem nob_keys (w : World) (a : Option Addr) (h : Nob w a) : Calls Try.prog 13 #[.pointer a] w fun e w' => e = .returned (.slice none 0 0) ∧ Below w.heap.size w w' := by
  have hL := Lib.hid (nob_sorted w a h)
  clear h
  go_enter Try.func13, Try.ntmps13
  go_wp2_with fail
  refine hL.out.mono ?_
  rintro e w1 ⟨rfl, hb⟩
  have HB := Lib.hid hb
  clear hb
  go_wp2_with fail
  refine wp_loop_rounds 1 ?_
  rw [rounds_succ]
  go_wp2_with fail
  go_ret
  exact ⟨rfl, HB.out⟩
set_option maxRecDepth 20000 in
theorem nob_all (w : World) (a : Option Addr) (h : Nob w a) : Calls Try.prog 14 #[.pointer a] w fun e w' => e = .returned (.slice none 0 0) ∧ Below w.heap.size w w' := by
  have hL := Lib.hid (nob_sorted w a h)
  clear h
  go_enter Try.func14, Try.ntmps14
  go_wp2_with fail
  refine hL.out.mono ?_
  rintro e w1 ⟨rfl, hb⟩
  have HB := Lib.hid hb
  clear hb
  go_wp2_with fail
  refine wp_loop_rounds 1 ?_
  rw [rounds_succ]
  go_wp2_with fail
  go_ret
  exact ⟨rfl, HB.out⟩
set_option maxRecDepth 20000 in
set_option maxHeartbeats 4000000 in
theorem nobody_any (key number : Int) (w : World) : Calls Try.prog 6 #[.int .i64 key, .int .i64 number] w fun e w' => e = .returned (.bool true) ∧ Below w.heap.size w w' := by
  go_enter Try.func6, Try.ntmps6
  go_wp2_with fail
  refine (awake_any _).mono ?_
  rintro e w1 ⟨rfl, hb⟩
  have W0 := Blk.new w 56 [.bool false, .slice none 0 0, .map none, .int .i64 0]
  have HZ := Lib.hid (W0.bel hb)
  have HB := Lib.hid (below_trans' (Below.new w _) hb)
  clear hb W0
  generalize hz : w.heap.size = z at *
  have HW := Lib.hid hz
  clear hz
  have n1 := Lib.hid (nob_push w1 none (.inl rfl) key)
  have n2 := Lib.hid (nob_push w1 (some ⟨z, 0, none⟩) (.inr ⟨z, rfl, HZ.out⟩) key)
  have n3 := Lib.hid (nob_copy w1 none (.inl rfl))
  have n4 := Lib.hid (nob_copy w1 (some ⟨z, 0, none⟩) (.inr ⟨z, rfl, HZ.out⟩))
  go_wp2_with (first | (go_at_call 16; with_reducible refine (n1.out).mono ?_; rintro e w' ⟨rfl, rfl⟩) | (go_at_call 16; with_reducible refine (n2.out).mono ?_; rintro e w' ⟨rfl, rfl⟩) | (go_at_call 21; with_reducible refine (n3.out).mono ?_; rintro e w' ⟨rfl, rfl⟩) | (go_at_call 21; with_reducible refine (n4.out).mono ?_; rintro e w' ⟨rfl, rfl⟩))
  have hL0 : Blk (w'.alloc (.cells #[.pointer none, .pointer (some ⟨z, 0, none⟩)] 57)) w'.heap.size 57 [.pointer none, .pointer (some ⟨z, 0, none⟩)] := Blk.new w' _ _
  have hb := Below.new w' (.cells #[.pointer none, .pointer (some ⟨z, 0, none⟩)] 57)
  have HL := Lib.hid hL0
  have HZ := Lib.hid (HZ.out.bel hb)
  have HB := Lib.hid (HB.out.trans (hb.mono (by have h1 := HB.out.size; have h2 := HW.out; omega)))
  clear hL0 hb n1 n2 n3 n4
  generalize w'.alloc (.cells #[.pointer none, .pointer (some ⟨z, 0, none⟩)] 57) = X at *
  generalize w'.heap.size = q at *
  refine wp_loop_rounds 3 ?_
  rw [rounds_succ]
  have c0 := HL.out.cell 0
  have c1 := HL.out.cell 1
  simp only [List.getElem?_cons_succ, List.getElem?_cons_zero] at c0 c1
  have hN := Lib.hid (show Nob X none from (.inl rfl))
  go_wp2_with (first | (go_at_call 23; refine (nob_peek _ _ hN.out).mono ?_; rintro e w' ⟨rfl, rfl⟩) | (go_at_call 12; refine (nob_pop _ _ hN.out).mono ?_; rintro e w' ⟨rfl, rfl⟩) | (go_at_call 10; refine (nob_remove _ _ hN.out _).mono ?_; rintro e w' ⟨rfl, rfl⟩) | (go_at_call 9; refine (nob_change _ _ hN.out _ _).mono ?_; rintro e w' ⟨rfl, rfl⟩) | (go_at_call 11; refine (nob_len _ _ hN.out).mono ?_; rintro e w' ⟨rfl, rfl⟩))
  refine (nob_keys _ _ hN.out).mono ?_
  rintro e w4 ⟨rfl, hb⟩
  have hN := Lib.hid (hN.out.bel hb)
  have HZ := Lib.hid (HZ.out.bel hb)
  have HL := Lib.hid (HL.out.bel hb)
  have HB := Lib.hid (HB.out.trans (hb.mono (by have h1 := HB.out.size; have h2 := HW.out; omega)))
  clear hb c0 c1
  go_wp2_with fail
  refine (nob_all _ _ hN.out).mono ?_
  rintro e w5 ⟨rfl, hb⟩
  have HZ := Lib.hid (HZ.out.bel hb)
  have HL := Lib.hid (HL.out.bel hb)
  have HB := Lib.hid (HB.out.trans (hb.mono (by have h1 := HB.out.size; have h2 := HW.out; omega)))
  clear hb hN
  go_wp2_with fail
  rw [rounds_succ]
  have c0 := HL.out.cell 0
  have c1 := HL.out.cell 1
  simp only [List.getElem?_cons_succ, List.getElem?_cons_zero] at c0 c1
  have hN := Lib.hid (show Nob w5 (some ⟨z, 0, none⟩) from (.inr ⟨z, rfl, HZ.out⟩))
  go_wp2_with (first | (go_at_call 23; refine (nob_peek _ _ hN.out).mono ?_; rintro e w' ⟨rfl, rfl⟩) | (go_at_call 12; refine (nob_pop _ _ hN.out).mono ?_; rintro e w' ⟨rfl, rfl⟩) | (go_at_call 10; refine (nob_remove _ _ hN.out _).mono ?_; rintro e w' ⟨rfl, rfl⟩) | (go_at_call 9; refine (nob_change _ _ hN.out _ _).mono ?_; rintro e w' ⟨rfl, rfl⟩) | (go_at_call 11; refine (nob_len _ _ hN.out).mono ?_; rintro e w' ⟨rfl, rfl⟩))
  refine (nob_keys _ _ hN.out).mono ?_
  rintro e w4 ⟨rfl, hb⟩
  have hN := Lib.hid (hN.out.bel hb)
  have HZ := Lib.hid (HZ.out.bel hb)
  have HL := Lib.hid (HL.out.bel hb)
  have HB := Lib.hid (HB.out.trans (hb.mono (by have h1 := HB.out.size; have h2 := HW.out; omega)))
  clear hb c0 c1
  go_wp2_with fail
  refine (nob_all _ _ hN.out).mono ?_
  rintro e w5 ⟨rfl, hb⟩
  have HZ := Lib.hid (HZ.out.bel hb)
  have HL := Lib.hid (HL.out.bel hb)
  have HB := Lib.hid (HB.out.trans (hb.mono (by have h1 := HB.out.size; have h2 := HW.out; omega)))
  clear hb hN
  go_wp2_with fail
  rw [rounds_succ]
  go_wp2_with fail
  go_ret
  exact ⟨rfl, by rw [HW.out]; exact HB.out⟩
end Go.Proofs.Ytoihhckiacmfcaa
