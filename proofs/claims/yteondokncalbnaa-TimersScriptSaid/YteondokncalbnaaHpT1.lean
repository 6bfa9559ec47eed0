/- heap.ahead at prompter/api.Timer (written by gen_heap.py). -/
import Derived.Test.YteondokncalbnaaHpA
namespace Go.Proofs.Yteondokncalbnaa
open Go.RowKit
/-- a timer's cells -/
def timV (d : Int) (o : ByteArray) (k : Int) : Nat → Value := fun i => if i = 0 then .int .i64 d else if i = 1 then .string o else .int .i64 k
set_option maxRecDepth 20000 in
set_option maxHeartbeats 6000000 in
theorem aheadT (a b : Th) (w : World) : Calls Try.prog 66 #[.agg #[.int .i64 a.key, .int .i64 (a.num : Int), a.v 0, a.v 1, a.v 2], .agg #[.int .i64 b.key, .int .i64 (b.num : Int), b.v 0, b.v 1, b.v 2]] w fun e w' => e = .returned (.int .i64 (cmpT a b)) ∧ Below w.heap.size w w' := by
  go_enter Try.func66, Try.ntmps66
  go_wp2_with fail
  refine wp_tail 10 (by kernel_rfl) (by kernel_rfl) ?_
  simp only [List.take_succ_cons, List.take_zero, List.drop_succ_cons, List.drop_zero]
  repeat (first | still_step | still_call (cmp64 _ _ _) | still_call (cmpI _ _ _))
  refine wpStill_nil ?_
  go_wp2_with fail
  refine (or_any (cmpII a.key b.key) (cmpII (a.num : Int) (b.num : Int)) (w.heap.size + 1 + 1) _ (Blk.new3 w _ _ 3 [.int .i64 (cmpII a.key b.key), .int .i64 (cmpII (a.num : Int) (b.num : Int))]).drew).mono ?_
  rintro e w' ⟨rfl, rfl⟩
  go_wp2_with fail
  go_ret
  exact ⟨rfl, (below_drewN' (Below.new3 w _ _ _) 1)⟩
/-- a thing's cells -/
def thCT (t : Th) : List Value := [.int .i64 t.key, .int .i64 (t.num : Int), t.v 0, t.v 1, t.v 2]
theorem thCT_len (t : Th) : (thCT t).length = 5 := rfl
/-- a heap in memory: its block, its row, its map of places -/
structure HRawT (w : World) (p : Nat) (v : Value) (M : Nat) (xs : List Th) (m : Int → Option Value) (nx : Nat) : Prop where
  blk : Blk w p 96 [.bool true, v, .map (some M), .int .i64 (nx : Int)]
  row : w.ownsRow 0 92 5 v xs.length (xs.flatMap thCT)
  map : ∃ n, MapIs kInt w M m n
  one : ∀ t ∈ xs, ∀ u ∈ thCT t, u.oneCell' = true
  few : xs.length ≤ 1000000
theorem row_cellT {w : World} {g n cap : Nat} {xs : List Th} (h : w.ownsRow 0 92 5 (.slice (some ⟨g, 0, none⟩) n cap) n (xs.flatMap thCT)) (hn : n = xs.length) (i j : Nat) (hi : i < xs.length) (hj : j < 5) :
    w.cell? ⟨g, i * 5 + j, none⟩ = (thCT (gT xs i))[j]? := by
  subst hn
  rw [h.cellAt _ (by omega), flat_get thCT 5 thCT_len xs i j hj, List.getElem?_eq_getElem hi, gT_of hi]
  rfl
theorem set_rowT (xs : List Th) (i : Nat) (t : Th) (hi : i < xs.length) : ((((((xs.flatMap thCT).set (i * 5) (.int .i64 t.key)).set (i * 5 + 1) (.int .i64 (t.num : Int))).set (i * 5 + 2) (t.v 0)).set (i * 5 + 3) (t.v 1)).set (i * 5 + 4) (t.v 2)) = (xs.set i t).flatMap thCT := by
  obtain ⟨A, B, hA, h1, h2⟩ := flat_split thCT 5 thCT_len xs i hi
  rw [h1, h2]
  rw [set_at0 hA, set_at hA, set_at hA, set_at hA, set_at hA]
  rfl

set_option maxRecDepth 20000 in
set_option maxHeartbeats 6000000 in
theorem layT (w : World) (p : Nat) (v : Value) (M : Nat) (xs : List Th) (m : Int → Option Value) (nx i : Nat) (t : Th) (h : HRawT w p v M xs m nx) (hi : i < xs.length) (h1 : ∀ u ∈ thCT t, u.oneCell' = true) :
    Calls Try.prog 64 #[.pointer (some ⟨p, 0, none⟩), .int .i64 (i : Int), .agg #[.int .i64 t.key, .int .i64 (t.num : Int), t.v 0, t.v 1, t.v 2]] w fun e w' => e = .returned (.tuple #[]) ∧ HRawT w' p v M (xs.set i t) (upd m (t.num : Int) (.int .i64 (i : Int))) nx ∧ Turns (HS p v M) w w' := by
  obtain ⟨g, cap, rfl, hvb, hg, hnc, hcm⟩ := own_at h.row (by omega)
  have hfew := h.few
  have W0 : Blk (w.alloc (.cells #[.int .i64 t.key, .int .i64 (t.num : Int), t.v 0, t.v 1, t.v 2] 92)) w.heap.size 92 [.int .i64 t.key, .int .i64 (t.num : Int), t.v 0, t.v 1, t.v 2] := Blk.new w 92 _
  have HB := h.blk.alloc (.cells #[.int .i64 t.key, .int .i64 (t.num : Int), t.v 0, t.v 1, t.v 2] 92)
  have HR := h.row.alloc (.cells #[.int .i64 t.key, .int .i64 (t.num : Int), t.v 0, t.v 1, t.v 2] 92)
  obtain ⟨nm, hmp⟩ := h.map
  have HM := hmp.alloc (.cells #[.int .i64 t.key, .int .i64 (t.num : Int), t.v 0, t.v 1, t.v 2] 92)
  have HT : Turns (HS p (.slice (some ⟨g, 0, none⟩) xs.length cap) M) w (w.alloc (.cells #[.int .i64 t.key, .int .i64 (t.num : Int), t.v 0, t.v 1, t.v 2] 92)) := (Turns.refl _ w).alloc _
  have hpw := h.blk.lt
  have hmw := hmp.lt
  have hgp := own_ne_blk h.row hvb h.blk (by decide)
  have hgM := own_ne_map h.row hvb hmp
  have hpM := hmp.ne_cells h.blk
  have h1' := Lib.hid h1
  have hone := Lib.hid h.one
  clear h hmp h1
  go_enter Try.func64, Try.ntmps64
  go_wp2_with fail
  generalize hb : w.heap.size = b at *
  generalize (w.alloc (.cells #[.int .i64 t.key, .int .i64 (t.num : Int), t.v 0, t.v 1, t.v 2] 92)) = W at *
  have hWb := W0.lt
  have b1 := HB.cell 1
  have b2 := HB.cell 2
  have a0 := W0.cell 0
  have a1 := W0.cell 1
  have a2 := W0.cell 2
  have a3 := W0.cell 3
  have a4 := W0.cell 4
  simp only [List.getElem?_cons_succ, List.getElem?_cons_zero] at b1 b2 a0 a1 a2 a3 a4
  have r0 := row_cellT HR rfl i 0 hi (by omega)
  have r1 := row_cellT HR rfl i 1 hi (by omega)
  have r2 := row_cellT HR rfl i 2 hi (by omega)
  have r3 := row_cellT HR rfl i 3 hi (by omega)
  have r4 := row_cellT HR rfl i 4 hi (by omega)
  simp only [thCT, Nat.add_zero, List.getElem?_cons_succ, List.getElem?_cons_zero] at r0 r1 r2 r3 r4
  have z0 := HR.frozenAt (i * 5)
  have z1 := HR.frozenAt (i * 5 + 1)
  have z2 := HR.frozenAt (i * 5 + 2)
  have z3 := HR.frozenAt (i * 5 + 3)
  have z4 := HR.frozenAt (i * 5 + 4)
  have hi' : (i : Int) < (xs.length : Int) := by omega
  have s0 : ∀ (w : World) (a : Addr) (md : Mode), (store a (t.v 0) md).run Try.prog w = stored Try.prog w a (t.v 0) md := fun w a md => run_store Try.prog w a _ md (h1'.out _ (by simp [thCT]))
  have s1 : ∀ (w : World) (a : Addr) (md : Mode), (store a (t.v 1) md).run Try.prog w = stored Try.prog w a (t.v 1) md := fun w a md => run_store Try.prog w a _ md (h1'.out _ (by simp [thCT]))
  have s2 : ∀ (w : World) (a : Addr) (md : Mode), (store a (t.v 2) md).run Try.prog w = stored Try.prog w a (t.v 2) md := fun w a md => run_store Try.prog w a _ md (h1'.out _ (by simp [thCT]))
  have HW0 := Lib.hid W0
  have HHR := Lib.hid HR
  have HHB := Lib.hid HB
  have HHM := Lib.hid HM
  have HHT := Lib.hid HT
  clear W0 HR HB HM HT
  refine wp_tail 7 (by kernel_rfl) (by kernel_rfl) ?_
  simp only [List.take_succ_cons, List.take_zero, List.drop_succ_cons, List.drop_zero]
  still_step
  still_step
  still_step
  still_step
  still_step
  still_step
  still_step
  refine wpStill_nil ?_
  go_wp2_with fail
  have hgp' : p ≠ g := fun e => hgp e.symm
  have HB2 := ((((((HHB.out.far (p := ⟨g, i * 5, none⟩) hgp' (.int .i64 t.key)).far (p := ⟨g, i * 5 + 1, none⟩) hgp' (.int .i64 (t.num : Int))).far (p := ⟨g, i * 5 + 2, none⟩) hgp' (t.v 0)).far (p := ⟨g, i * 5 + 3, none⟩) hgp' (t.v 1)).far (p := ⟨g, i * 5 + 4, none⟩) hgp' (t.v 2))).drew
  have hbg : b ≠ g := by omega
  have HW2 := ((((((HW0.out.far (p := ⟨g, i * 5, none⟩) hbg (.int .i64 t.key)).far (p := ⟨g, i * 5 + 1, none⟩) hbg (.int .i64 (t.num : Int))).far (p := ⟨g, i * 5 + 2, none⟩) hbg (t.v 0)).far (p := ⟨g, i * 5 + 3, none⟩) hbg (t.v 1)).far (p := ⟨g, i * 5 + 4, none⟩) hbg (t.v 2))).drew
  have HR2 : World.ownsRow ((((((W.setCell ⟨g, i * 5, none⟩ (.int .i64 t.key)).setCell ⟨g, i * 5 + 1, none⟩ (.int .i64 (t.num : Int))).setCell ⟨g, i * 5 + 2, none⟩ (t.v 0)).setCell ⟨g, i * 5 + 3, none⟩ (t.v 1)).setCell ⟨g, i * 5 + 4, none⟩ (t.v 2)).drew) 0 92 5 (.slice (some ⟨g, 0, none⟩) xs.length cap) xs.length _ := ((((((HHR.out.stored (i * 5) (.int .i64 t.key)).1.stored (i * 5 + 1) (.int .i64 (t.num : Int))).1.stored (i * 5 + 2) (t.v 0)).1.stored (i * 5 + 3) (t.v 1)).1.stored (i * 5 + 4) (t.v 2)).1)
  rw [set_rowT xs i t hi] at HR2
  have HM2 : MapIs kInt ((((((W.setCell ⟨g, i * 5, none⟩ (.int .i64 t.key)).setCell ⟨g, i * 5 + 1, none⟩ (.int .i64 (t.num : Int))).setCell ⟨g, i * 5 + 2, none⟩ (t.v 0)).setCell ⟨g, i * 5 + 3, none⟩ (t.v 1)).setCell ⟨g, i * 5 + 4, none⟩ (t.v 2)).drew) M m nm := (((((HHM.out.setCell ⟨g, i * 5, none⟩ (.int .i64 t.key)).setCell ⟨g, i * 5 + 1, none⟩ (.int .i64 (t.num : Int))).setCell ⟨g, i * 5 + 2, none⟩ (t.v 0)).setCell ⟨g, i * 5 + 3, none⟩ (t.v 1)).setCell ⟨g, i * 5 + 4, none⟩ (t.v 2))
  have HT2 : Turns (HS p (.slice (some ⟨g, 0, none⟩) xs.length cap) M) w ((((((W.setCell ⟨g, i * 5, none⟩ (.int .i64 t.key)).setCell ⟨g, i * 5 + 1, none⟩ (.int .i64 (t.num : Int))).setCell ⟨g, i * 5 + 2, none⟩ (t.v 0)).setCell ⟨g, i * 5 + 3, none⟩ (t.v 1)).setCell ⟨g, i * 5 + 4, none⟩ (t.v 2)).drew) := ((((((HHT.out.set ⟨g, i * 5, none⟩ (.int .i64 t.key) (fun _ => .inr (.inr rfl))).set ⟨g, i * 5 + 1, none⟩ (.int .i64 (t.num : Int)) (fun _ => .inr (.inr rfl))).set ⟨g, i * 5 + 2, none⟩ (t.v 0) (fun _ => .inr (.inr rfl))).set ⟨g, i * 5 + 3, none⟩ (t.v 1) (fun _ => .inr (.inr rfl))).set ⟨g, i * 5 + 4, none⟩ (t.v 2) (fun _ => .inr (.inr rfl)))).drewN 1
  clear HHB HW0 HHR HHM HHT r0 z0 a0 r1 z1 a1 r2 z2 a2 r3 z3 a3 r4 z4 a4 b1 b2
  generalize (((((W.setCell ⟨g, i * 5, none⟩ (.int .i64 t.key)).setCell ⟨g, i * 5 + 1, none⟩ (.int .i64 (t.num : Int))).setCell ⟨g, i * 5 + 2, none⟩ (t.v 0)).setCell ⟨g, i * 5 + 3, none⟩ (t.v 1)).setCell ⟨g, i * 5 + 4, none⟩ (t.v 2)).drew = X at *
  have b2 := HB2.cell 2
  have a1 := HW2.cell 1
  simp only [List.getElem?_cons_succ, List.getElem?_cons_zero] at b2 a1
  have KB := Lib.hid HB2
  have KR := Lib.hid HR2
  have KM := Lib.hid HM2
  have KT := Lib.hid HT2
  have KO : Hid (∀ u ∈ xs.set i t, ∀ y ∈ thCT u, y.oneCell' = true) := Lib.hid fun u hu => by
    rcases List.mem_or_eq_of_mem_set hu with hu | rfl
    · exact hone.out u hu
    · exact h1'.out
  clear HB2 HW2 HR2 HM2 HT2
  refine wp_tail 7 (by kernel_rfl) (by kernel_rfl) ?_
  simp only [List.take_succ_cons, List.take_zero, List.drop_succ_cons, List.drop_zero]
  repeat still_step
  refine wpStill_nil ?_
  go_wp2_with (at_mapUpdate; refine wpl_update _ rfl _ _ _ 94 rfl (int_keys Try.underlying3) Try.underlying94 KM.out (t.num : Int) (.int .i64 (i : Int)) rfl rfl rfl ?_; intro w3 hm3 ht3)
  go_end0
  refine ⟨rfl, ⟨?_, ?_, ⟨_, hm3⟩, KO.out, by simpa using hfew⟩, ?_⟩
  · exact KB.out.drew.turns (.of_map (S := fun i => i = M) ht3 rfl) (fun e => hpM e.symm)
  · rw [List.length_set]
    exact own_turns (w := X.drew) KR.out (.of_map (S := fun i => i = M) ht3 rfl) (fun q hq e => by simp [Value.ownBlock] at hq; omega)
  · exact (KT.out.drewN 1).trans (.of_map (S := fun i => i = M) ht3 rfl) (fun q _ e => .inr (.inl e))
end Go.Proofs.Yteondokncalbnaa
