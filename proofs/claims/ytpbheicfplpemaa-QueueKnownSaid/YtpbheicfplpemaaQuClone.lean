/- queue: slices.Clone of tasks, maps.Clone of both maps. -/
import Derived.Test.YtpbheicfplpemaaQuAwake
import Derived.Deep.RegionHeld3
import Derived.Laws.Externs
import Derived.Laws.Cover3
import Derived.Shelf.SlMaps.Clone
namespace Go.Proofs.Ytpbheicfplpemaa
open Go.RowKit

theorem own_empty (w : World) (base : Nat) (e : TypeId) (size : Nat) (hb : base ≤ w.heap.size) : (w.alloc (.cells #[] e)).ownsRow base e size (.slice (some ⟨w.heap.size, 0, none⟩) 0 0) 0 [] := by
  refine ⟨by simp, .inr ⟨w.heap.size, 0, #[], rfl, hb, heap_alloc_new w _, by omega, by unfold maxLen; omega, by simp, by simp⟩⟩
theorem eql_nil (w : World) (a : Option Addr) (l c : Nat) : (binOp .eql 58 (.slice a l c) (.slice none 0 0)).run Try.prog w = .ok (.bool a.isNone) w := by
  simp only [binOp]
  simp [run_equal_slice_nil w 58 _ a l c Try.underlying58]
set_option maxRecDepth 20000 in
theorem clone_nil (w : World) : Calls Try.prog 36 #[.slice none 0 0] w fun e w' => e = .returned (.slice none 0 0) ∧ w' = w := by
  have hq := fun w => eql_nil w none 0 0
  go_enter Try.func36, Try.ntmps36
  go_wp2_with fail
  go_ret
  exact ⟨rfl, rfl⟩
set_option maxRecDepth 20000 in
set_option maxHeartbeats 4000000 in
theorem clone_own (w : World) (v : Value) (n : Nat) (cs : List Value) (h : w.ownsRow 0 75 4 v n cs) (hone : ∀ u ∈ cs, u.oneCell' = true) (hn : n ≤ 1000000) :
    Calls Try.prog 36 #[v] w fun e w' => ∃ v', e = .returned v' ∧ w'.ownsRow w.heap.size 75 4 v' n cs ∧ Below w.heap.size w w' := by
  obtain ⟨i0, hi, hz0, hz1, hz2⟩ := info_parts info_task
  rcases h.2 with ⟨rfl, rfl⟩ | ⟨g, cap, cur, rfl, h3, h4, h5, h6, h7, h8⟩
  · have hcs : cs = [] := List.eq_nil_of_length_eq_zero (by have := h.1; omega)
    subst hcs
    exact (clone_nil w).mono fun e w' ⟨he, hw⟩ => ⟨_, he, by rw [hw]; exact World.ownsRow_nil _ _ _ _, by rw [hw]; exact Below.refl _ _⟩
  · have HO := Lib.hid (own_empty w w.heap.size 75 4 (Nat.le_refl _))
    have hnews : ∀ j u, cs[j]? = some u → (w.alloc (.cells #[] 75)).cell? ((⟨g, 0, none⟩ : Addr).add j) = some u := fun j u hj => by
      have e : (⟨g, 0, none⟩ : Addr).add j = ⟨g, j, none⟩ := by simp [Addr.add]; omega
      rw [e]
      have h' := h.alloc (.cells #[] 75)
      rw [h'.cellAt j (by have := (List.getElem?_eq_some_iff.1 hj).1; have := h.1; omega), hj]
    have HN := Lib.hid hnews
    have HL := Lib.hid h.1
    have HB := Lib.hid (Below.new w (.cells #[] 75))
    have hl1 : Hid (0 + n ≤ maxLen) := Lib.hid (by unfold maxLen; omega)
    have hl2 : Hid ((0 + n) * 48 ≤ 140737488355328) := Lib.hid (by omega)
    have hbs : Hid (w.heap.size ≤ (w.alloc (.cells #[] 75)).heap.size) := Lib.hid (by simp)
    have hq := fun w => eql_nil w (some ⟨g, 0, none⟩) n cap
    clear h h3 h4 h5 h6 h7 h8 hnews
    go_enter Try.func36, Try.ntmps36
    go_wp2_with (at_builtin; refine wpList_append_own_at _ rfl _ _ 58 rfl w.heap.size 75 i0 _ 4 48 Try.underlying58 hi hz0 hz1 hz2 rfl (by decide) _ _ _ rfl HO.out ⟨g, 0, none⟩ n cap cs rfl HL.out HN.out hone hl1.out hl2.out hbs.out ?_; intro v1 y1 hown1 hgr1 _ _)
    go_ret
    rw [Nat.zero_add, List.nil_append] at hown1
    exact ⟨_, rfl, hown1, HB.out.grown hgr1 HB.out.size (fun r e => by injection e with e; exact Nat.le_of_eq e)⟩
set_option maxRecDepth 20000 in
set_option maxHeartbeats 4000000 in
theorem mcloneI (w : World) (M : Nat) (m : Int → Option Value) (n : Nat) (h : MapIs kInt w M m n) :
    Calls Try.prog 37 #[.map (some M)] w fun e w' => e = .returned (.map (some w.heap.size)) ∧ MapIs kInt w' w.heap.size m n ∧ Below w.heap.size w w' := by
  obtain ⟨es, clock, hb, hrest⟩ := h
  have HRest := Lib.hid hrest
  have hq := fun w => run_eql_map_nil_sl (P := Try.prog) w 59 _ _ (some M) Try.underlying59
  clear hrest
  go_enter Try.func37, Try.ntmps37
  go_wp2_with fail
  rw [run_callFunc_extern Try.func56 (by kernel_rfl) (by kernel_rfl) (by kernel_rfl) (e := Extern.MapsClone.clone) (by kernel_rfl), run_maps_clone_sl w 59 hb]
  simp only [Result.andThen]
  rw [Oper.upon_value]
  go_wp2_with fail
  rw [run_typeAssert_map_sl _ 59 _ _ _ _ Try.underlying59]
  simp only [Result.andThen]
  rw [Oper.upon_value]
  go_wp2_with fail
  go_ret
  exact ⟨rfl, ⟨es, clock, heap_alloc_new w _, HRest.out⟩, Below.new _ _⟩

set_option maxRecDepth 20000 in
set_option maxHeartbeats 4000000 in
theorem mcloneS (w : World) (M : Nat) (m : ByteArray → Option Value) (n : Nat) (h : MapIs kStr w M m n) :
    Calls Try.prog 38 #[.map (some M)] w fun e w' => e = .returned (.map (some w.heap.size)) ∧ MapIs kStr w' w.heap.size m n ∧ Below w.heap.size w w' := by
  obtain ⟨es, clock, hb, hrest⟩ := h
  have HRest := Lib.hid hrest
  have hq := fun w => run_eql_map_nil_sl (P := Try.prog) w 47 _ _ (some M) Try.underlying47
  clear hrest
  go_enter Try.func38, Try.ntmps38
  go_wp2_with fail
  rw [run_callFunc_extern Try.func56 (by kernel_rfl) (by kernel_rfl) (by kernel_rfl) (e := Extern.MapsClone.clone) (by kernel_rfl), run_maps_clone_sl w 47 hb]
  simp only [Result.andThen]
  rw [Oper.upon_value]
  go_wp2_with fail
  rw [run_typeAssert_map_sl _ 47 _ _ _ _ Try.underlying47]
  simp only [Result.andThen]
  rw [Oper.upon_value]
  go_wp2_with fail
  go_ret
  exact ⟨rfl, ⟨es, clock, heap_alloc_new w _, HRest.out⟩, Below.new _ _⟩

end Go.Proofs.Ytpbheicfplpemaa
