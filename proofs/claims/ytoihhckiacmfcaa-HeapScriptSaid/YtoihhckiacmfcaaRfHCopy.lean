/- (*Heap).Copy at int. -/
import Derived.Test.YtoihhckiacmfcaaHpI8
import Derived.Deep.RegionHeld3
import Derived.Laws.Externs
import Derived.Laws.Cover3
import Derived.Shelf.SlMaps.Clone
namespace Go.Proofs.Ytoihhckiacmfcaa
open Go.RowKit

theorem own_empty (w : World) (base : Nat) (e : TypeId) (size : Nat) (hb : base ≤ w.heap.size) : (w.alloc (.cells #[] e)).ownsRow base e size (.slice (some ⟨w.heap.size, 0, none⟩) 0 0) 0 [] := by
  refine ⟨by simp, .inr ⟨w.heap.size, 0, #[], rfl, hb, heap_alloc_new w _, by omega, by unfold maxLen; omega, by simp, by simp⟩⟩
theorem eql_nil (w : World) (a : Option Addr) (l c : Nat) : (binOp .eql 53 (.slice a l c) (.slice none 0 0)).run Try.prog w = .ok (.bool a.isNone) w := by
  simp only [binOp]
  simp [run_equal_slice_nil w 53 _ a l c Try.underlying53]
set_option maxRecDepth 20000 in
theorem clone_nil (w : World) : Calls Try.prog 37 #[.slice none 0 0] w fun e w' => e = .returned (.slice none 0 0) ∧ w' = w := by
  have hq := fun w => eql_nil w none 0 0
  go_enter Try.func37, Try.ntmps37
  go_wp2_with fail
  go_ret
  exact ⟨rfl, rfl⟩
set_option maxRecDepth 20000 in
set_option maxHeartbeats 4000000 in
theorem clone_own (w : World) (v : Value) (n : Nat) (cs : List Value) (h : w.ownsRow 0 65 3 v n cs) (hone : ∀ u ∈ cs, u.oneCell' = true) (hn : n ≤ 1000000) :
    Calls Try.prog 37 #[v] w fun e w' => ∃ v', e = .returned v' ∧ w'.ownsRow w.heap.size 65 3 v' n cs ∧ Below w.heap.size w w' := by
  obtain ⟨i0, hi, hz0, hz1, hz2⟩ := info_parts info_thI
  rcases h.2 with ⟨rfl, rfl⟩ | ⟨g, cap, cur, rfl, h3, h4, h5, h6, h7, h8⟩
  · have hcs : cs = [] := List.eq_nil_of_length_eq_zero (by have := h.1; omega)
    subst hcs
    exact (clone_nil w).mono fun e w' ⟨he, hw⟩ => ⟨_, he, by rw [hw]; exact World.ownsRow_nil _ _ _ _, by rw [hw]; exact Below.refl _ _⟩
  · have HO := Lib.hid (own_empty w w.heap.size 65 3 (Nat.le_refl _))
    have hnews : ∀ j u, cs[j]? = some u → (w.alloc (.cells #[] 65)).cell? ((⟨g, 0, none⟩ : Addr).add j) = some u := fun j u hj => by
      have e : (⟨g, 0, none⟩ : Addr).add j = ⟨g, j, none⟩ := by simp [Addr.add]; omega
      rw [e]
      have h' := h.alloc (.cells #[] 65)
      rw [h'.cellAt j (by have := (List.getElem?_eq_some_iff.1 hj).1; have := h.1; omega), hj]
    have HN := Lib.hid hnews
    have HL := Lib.hid h.1
    have HB := Lib.hid (Below.new w (.cells #[] 65))
    have hl1 : Hid (0 + n ≤ maxLen) := Lib.hid (by unfold maxLen; omega)
    have hl2 : Hid ((0 + n) * 24 ≤ 140737488355328) := Lib.hid (by omega)
    have hbs : Hid (w.heap.size ≤ (w.alloc (.cells #[] 65)).heap.size) := Lib.hid (by simp)
    have hq := fun w => eql_nil w (some ⟨g, 0, none⟩) n cap
    clear h h3 h4 h5 h6 h7 h8 hnews
    go_enter Try.func37, Try.ntmps37
    go_wp2_with (at_builtin; refine wpList_append_own_at _ rfl _ _ 53 rfl w.heap.size 65 i0 _ 3 24 Try.underlying53 hi hz0 hz1 hz2 rfl (by decide) _ _ _ rfl HO.out ⟨g, 0, none⟩ n cap cs rfl HL.out HN.out hone hl1.out hl2.out hbs.out ?_; intro v1 y1 hown1 hgr1 _ _)
    go_ret
    rw [Nat.zero_add, List.nil_append] at hown1
    exact ⟨_, rfl, hown1, HB.out.grown hgr1 HB.out.size (fun r e => by injection e with e; exact Nat.le_of_eq e)⟩
set_option maxRecDepth 20000 in
set_option maxHeartbeats 4000000 in
theorem mclone (w : World) (M : Nat) (m : Int → Option Value) (n : Nat) (h : MapIs kInt w M m n) :
    Calls Try.prog 38 #[.map (some M)] w fun e w' => e = .returned (.map (some w.heap.size)) ∧ MapIs kInt w' w.heap.size m n ∧ Below w.heap.size w w' := by
  obtain ⟨es, clock, hb, hrest⟩ := h
  have HRest := Lib.hid hrest
  have hq := fun w => run_eql_map_nil_sl (P := Try.prog) w 54 _ _ (some M) Try.underlying54
  clear hrest
  go_enter Try.func38, Try.ntmps38
  go_wp2_with fail
  rw [run_callFunc_extern Try.func47 (by kernel_rfl) (by kernel_rfl) (by kernel_rfl) (e := Extern.MapsClone.clone) (by kernel_rfl), run_maps_clone_sl w 54 hb]
  simp only [Result.andThen]
  rw [Oper.upon_value]
  go_wp2_with fail
  rw [run_typeAssert_map_sl _ 54 _ _ _ _ Try.underlying54]
  simp only [Result.andThen]
  rw [Oper.upon_value]
  go_wp2_with fail
  go_ret
  exact ⟨rfl, ⟨es, clock, heap_alloc_new w _, HRest.out⟩, Below.new _ _⟩

theorem own_base {W : World} {base base' : Nat} {e : TypeId} {size : Nat} {v : Value} {k : Nat} {xs : List Value} (h : W.ownsRow base e size v k xs) (hb : base' ≤ base) : W.ownsRow base' e size v k xs := by
  refine ⟨h.1, ?_⟩
  rcases h.2 with hn | ⟨g, cap, cur, hv, hbg, rest⟩
  · exact .inl hn
  · exact .inr ⟨g, cap, cur, hv, Nat.le_trans hb hbg, rest⟩
def HCpY (w : World) (xs : List Th) (nx : Nat) (e : Ending) (w' : World) : Prop :=
  ∃ p' v' M', e = .returned (.pointer (some ⟨p', 0, none⟩)) ∧ HStI w' p' v' M' xs nx ∧ (∀ i, HS p' v' M' i → w.heap.size ≤ i) ∧ Below w.heap.size w w'
set_option maxRecDepth 20000 in
set_option maxHeartbeats 8000000 in
theorem hcopy (w : World) (p : Nat) (v : Value) (M : Nat) (xs : List Th) (nx : Nat) (h : HStI w p v M xs nx) : Calls Try.prog 21 #[.pointer (some ⟨p, 0, none⟩)] w (HCpY w xs nx) := by
  obtain ⟨m, hm, hp⟩ := h.raw
  obtain ⟨nm, hmm⟩ := hm.map
  have hone : ∀ u ∈ xs.flatMap thCI, u.oneCell' = true := fun u hu => by
    obtain ⟨t, ht, hx⟩ := List.mem_flatMap.1 hu
    exact hm.one t ht u hx
  have hfew := hm.few
  have hS : ∀ X, Below w.heap.size w X → X.cell? ⟨p, 0, none⟩ = some (.bool true) ∧ X.cell? ⟨p, 1, none⟩ = some v ∧ X.cell? ⟨p, 2, none⟩ = some (.map (some M)) ∧ X.cell? ⟨p, 3, none⟩ = some (.int .i64 (nx : Int)) := fun X hX => by
    have k := hm.blk.bel hX
    have k0 := k.cell 0
    have k1 := k.cell 1
    have k2 := k.cell 2
    have k3 := k.cell 3
    simp only [List.getElem?_cons_succ, List.getElem?_cons_zero] at k0 k1 k2 k3
    exact ⟨k0, k1, k2, k3⟩
  obtain ⟨k0, k1, k2, k3⟩ := hS w (Below.refl _ _)
  have HSS := Lib.hid hS
  have hcl : ∀ X, Below w.heap.size w X → Calls Try.prog 37 #[v] X fun e X' => ∃ v', e = .returned v' ∧ X'.ownsRow w.heap.size 65 3 v' xs.length (xs.flatMap thCI) ∧ Below w.heap.size w X' ∧ Below X.heap.size X X' := fun X hX => by
    refine (clone_own X v xs.length _ (own_turns hm.row (.of_below (S := fun _ => False) hX) (fun _ _ => id)) hone hfew).mono ?_
    rintro e X' ⟨v', rfl, h1, h2⟩
    exact ⟨v', rfl, own_base h1 hX.size, hX.trans (h2.mono hX.size), h2⟩
  have hml : ∀ X, Below w.heap.size w X → Calls Try.prog 38 #[.map (some M)] X fun e X' => ∃ M', e = .returned (.map (some M')) ∧ MapIs kInt X' M' m nm ∧ w.heap.size ≤ M' ∧ Below w.heap.size w X' ∧ Below X.heap.size X X' := fun X hX => by
    refine (mclone X M m nm (hmm.below hX)).mono ?_
    rintro e X' ⟨rfl, h1, h2⟩
    exact ⟨_, rfl, h1, hX.size, hX.trans (h2.mono hX.size), h2⟩
  have HCL := Lib.hid hcl
  have HML := Lib.hid hml
  have HH := Lib.hid h
  have HP := Lib.hid hp
  have HONE := Lib.hid hm.one
  have HB0 := Lib.hid (below_drewN' (Below.refl w.heap.size w) 1)
  clear h hm hp hmm hone hS hcl hml
  go_enter Try.func21, Try.ntmps21
  go_wp2_with fail
  go_region_held3 (fun X => X.cell? ⟨p, 0, none⟩ = some (.bool true) ∧ X.cell? ⟨p, 1, none⟩ = some v ∧ X.cell? ⟨p, 2, none⟩ = some (.map (some M)) ∧ X.cell? ⟨p, 3, none⟩ = some (.int .i64 (nx : Int)))
    (first | go_keep | exact HSS.out _ HCB.out | exact HSS.out _ HMB.out)
    (first | (go_at_call 37; refine (HCL.out _ (by first | exact HB0.out | exact HMB.out)).mono ?_; rintro e X1 ⟨vc, rfl, c1, c2, c3⟩; obtain ⟨Ac, kc, rfl⟩ := own_slice' c1; have HCR := Lib.hid c1; have HCB := Lib.hid c2; have HCX := Lib.hid c3; clear c1 c2 c3) | (go_at_call 38; refine (HML.out _ (by first | exact HB0.out | exact HCB.out)).mono ?_; rintro e X2 ⟨Mc, rfl, c1, c2, c3, c4⟩; have HMR := Lib.hid c1; have HMG := Lib.hid c2; have HMB := Lib.hid c3; have HMX := Lib.hid c4; clear c1 c2 c3 c4))
  go_wp2_with fail
  go_ret
  have hn := Below.new X2 (.cells #[.bool true, .slice Ac xs.length kc, .map (some Mc), .int .i64 (nx : Int)] 56)
  have hr2 := own_turns (own_turns HCR.out (.of_below (S := fun _ => False) HMX.out) (fun _ _ => id)) (.of_below (S := fun _ => False) hn) (fun _ _ => id)
  refine ⟨X2.heap.size, _, Mc, rfl, ⟨⟨m, ⟨Blk.new X2 _ [.bool true, .slice Ac xs.length kc, .map (some Mc), .int .i64 (nx : Int)], own_base hr2 (Nat.zero_le _), ⟨nm, HMR.out.below hn⟩, HONE.out, hfew⟩, HP.out⟩, HH.out.heap, HH.out.apart, HH.out.lt, HH.out.few, HH.out.len⟩, ?_, HMB.out.trans (hn.mono HMB.out.size)⟩
  rintro i (rfl | rfl | hi)
  · exact HMB.out.size
  · exact HMG.out
  · exact (hr2.lt i hi).1
end Go.Proofs.Ytoihhckiacmfcaa
