/- disk: the closures of Remove, Sync, Rename: what a change does. -/
import Derived.Test.YtoljnklceghcdaaDkChange
namespace Go.Proofs.Ytoljnklceghcdaa
open Go.RowKit
variable {Xs : Nat → Prop}

/-- a change's boxes: the disk, a name -/
structure Box2 (w : World) (b n d : Nat) (k : ByteArray) : Prop where
  b0 : w.cell? ⟨b, 0, none⟩ = some (.pointer (some ⟨d, 0, none⟩))
  n0 : w.cell? ⟨n, 0, none⟩ = some (.string k)
theorem Box2.turns {S : Nat → Prop} {w w' : World} {b n d : Nat} {k : ByteArray} (h : Box2 w b n d k) (t : Turns S w w') (h1 : ¬ S b) (h2 : ¬ S n) : Box2 w' b n d k :=
  ⟨(t.cell (p := ⟨b, 0, none⟩) (World.block_lt_of_cell? w _ h.b0) h1).trans h.b0, (t.cell (p := ⟨n, 0, none⟩) (World.block_lt_of_cell? w _ h.n0) h2).trans h.n0⟩
theorem Box2.bel {w w' : World} {b n d : Nat} {k : ByteArray} (h : Box2 w b n d k) (t : Below w.heap.size w w') : Box2 w' b n d k := h.turns (.of_below (S := fun _ => False) t) id id
/-- the files after a change at one name -/
theorem dsWip {w w' : World} {d F N n n' : Nat} {off : Bool} {fuse : Int} {p : Fs} {mv : ByteArray → Option Value} (h : DS Xs w d F off fuse p N) (hN : n ≤ N) (hm0 : MapIs kStr w F mv n) (hf : Files Xs w p mv) (k : ByteArray)
    (hm : MapIs kStr w' F (fun k' => if k' = k then none else mv k') n') (hn : n' ≤ n) (t : Turns (fun i => i = F) w w') : DS Xs w' d F off fuse (wip p k) N := by
  refine ⟨h.blk.turns t (fun e => h.ne e.symm), ⟨_, n', by omega, hm, Files.wip (hf.turns t (fun g cur hg _ e => ?_)) k⟩, h.fu⟩
  subst e
  exact hm0.ne_cells hg rfl
theorem dsUpd {w w' : World} {d F N n n' : Nat} {off : Bool} {fuse : Int} {p : Fs} {mv : ByteArray → Option Value} (h : DS Xs w d F off fuse p N) (hN : n ≤ N) (hm0 : MapIs kStr w F mv n) (hf : Files Xs w p mv) (k : ByteArray) (v : Value) (l : List UInt8) (m : Nat) (hv : FileB Xs w v l) (hl : m ≤ l.length)
    (hm : MapIs kStr w' F (fun k' => if k' = k then some (fileV v m) else mv k') n') (hn : n' = if (mv k).isSome then n else n + 1) (t : Turns (fun i => i = F) w w') : DS Xs w' d F off fuse (upd p k (l, m)) (if (p k).isSome then N else N + 1) := by
  have hb : ∀ g cur, w.heap[g]? = some (.cells cur 5 (0, 0)) → ¬ (fun i => i = F) g := fun g cur hg e => by
    subst e
    exact hm0.ne_cells hg rfl
  rw [(hf.get k).1] at hn
  refine ⟨h.blk.turns t (fun e => h.ne e.symm), ⟨_, n', ?_, hm, Files.upd (hf.turns t (fun g cur e _ => hb g cur e)) k v l m (hv.turns t (fun g hg => by obtain ⟨_, ⟨cur, e⟩, _⟩ := hv.lt hg; exact hb g cur e)) hl⟩, h.fu⟩
  split at hn
  · rename_i h1
    rw [if_pos h1]
    omega
  · rename_i h1
    rw [if_neg h1]
    omega
set_option maxRecDepth 20000 in
theorem rmDo (w : World) (b n d F N : Nat) (off : Bool) (fuse : Int) (p : Fs) (k : ByteArray) (h : DS Xs w d F off fuse p N) (hb : Box2 w b n d k) :
    Calls Try.prog 36 #[.pointer (some ⟨b, 0, none⟩), .pointer (some ⟨n, 0, none⟩)] w fun e w' => e = .returned (.tuple #[]) ∧ DS Xs w' d F off fuse (wip p k) N ∧ Turns (DSet d F) w w' := by
  obtain ⟨c0, _, _⟩ := h.cells
  obtain ⟨b0, n0⟩ := hb
  have HH := Lib.hid h
  obtain ⟨mv, n1, hN, hm, hf⟩ := h.files
  have HM := Lib.hid hm
  have HF := Lib.hid hf
  clear h hm hf
  go_enter Try.func36, Try.ntmps36
  refine wp_tail 5 (by kernel_rfl) (by kernel_rfl) ?_
  simp only [List.take_succ_cons, List.take_zero, List.drop_succ_cons, List.drop_zero]
  repeat still_step
  refine wpStill_nil ?_
  have hB := below_drewN' (Below.refl w.heap.size w) 1
  refine wpl_delete (w := w.drew) rfl _ _ 49 9 rfl (str_keys Try.underlying9) Try.underlying49 (HM.out.below hB) k rfl rfl ?_
  intro w3 hm3 ht3
  have HM3 := Lib.hid hm3
  have T3 := Lib.hid (((Turns.refl (fun i => i = F) w).drewN 1).then (.of_map (S := fun i => i = F) ht3 rfl))
  clear hm3 ht3
  go_wp2_with fail
  go_end0
  exact ⟨rfl, dsWip HH.out hN HM.out HF.out k HM3.out (by split <;> omega) T3.out, T3.out.mono (fun _ _ e => .inr e)⟩
set_option maxRecDepth 20000 in
theorem syDo (w : World) (b n d F N : Nat) (off : Bool) (fuse : Int) (p : Fs) (k : ByteArray) (h : DS Xs w d F off fuse p N) (hb : Box2 w b n d k) (hk : (p k).isSome = true) :
    Calls Try.prog 31 #[.pointer (some ⟨b, 0, none⟩), .pointer (some ⟨n, 0, none⟩)] w fun e w' => e = .returned (.tuple #[]) ∧ DS Xs w' d F off fuse (upd p k ((pl p k).1, (pl p k).1.length)) N ∧ Turns (DSet d F) w w' := by
  obtain ⟨c0, _, _⟩ := h.cells
  have hB2 := Lib.hid hb
  obtain ⟨b0, n0⟩ := hb
  have HH := Lib.hid h
  obtain ⟨mv, n1, hN, hm, hf⟩ := h.files
  have HM := Lib.hid hm
  have HF := Lib.hid hf
  obtain ⟨v, hv, hn, hlk⟩ := DS.look0 hm hf k
  obtain ⟨A, cap, rfl, _, hc1, hc2⟩ := hv.form
  have HL := Lib.hid hlk
  have l1 := (hlk w.drew (below_drewN' (Below.refl _ _) 1)).2
  have l2 := fun o => (hlk (w.alloc o).drew (below_drewN' (Below.new w o) 1)).2
  have l3 := fun o => (hlk (w.drew.alloc o) ((below_drewN' (Below.refl w.heap.size w) 1).alloc (Nat.le_refl _) o)).2
  have e0 := fun o => ((Below.new w o).cell (p := ⟨b, 0, none⟩) (World.block_lt_of_cell? w _ b0)).trans b0
  have e1 := fun o => ((Below.new w o).cell (p := ⟨n, 0, none⟩) (World.block_lt_of_cell? w _ n0)).trans n0
  have e2 := fun o => ((Below.new w o).cell (p := ⟨d, 0, none⟩) (World.block_lt_of_cell? w _ c0)).trans c0
  unfold fileV at l1 l2 l3
  clear h hm hf hlk
  go_enter Try.func31, Try.ntmps31
  go_wp2_with fail
  go_region
  have hB0 := below_drewN' (Below.new w (.cells #[.slice A (pl p k).1.length cap, .int .i64 ((pl p k).2 : Int)] 58)) 1
  have hwl := Lib.hid (show b < w.heap.size ∧ n < w.heap.size ∧ d < w.heap.size ∧ F < w.heap.size from ⟨World.block_lt_of_cell? w _ b0, World.block_lt_of_cell? w _ n0, World.block_lt_of_cell? w _ c0, HM.out.lt⟩)
  have BX : Hid (Below w.heap.size w (w.alloc (.cells #[.slice A (pl p k).1.length cap, .int .i64 ((pl p k).2 : Int)] 58)).drew) := Lib.hid hB0
  have KX : Hid (Blk (w.alloc (.cells #[.slice A (pl p k).1.length cap, .int .i64 ((pl p k).2 : Int)] 58)).drew w.heap.size 58 [.slice A (pl p k).1.length cap, .int .i64 ((pl p k).2 : Int)]) := Lib.hid ((Blk.new w 58 [.slice A (pl p k).1.length cap, .int .i64 ((pl p k).2 : Int)]).drewN 1)
  clear l1 l2 l3 e0 e1 e2 b0 n0 c0 hB0
  generalize (w.alloc (.cells #[.slice A (pl p k).1.length cap, .int .i64 ((pl p k).2 : Int)] 58)).drew = X at *
  generalize hg : w.heap.size = g at *
  have HG := Lib.hid hg
  clear hg
  have k0 := KX.out.cell 0
  have k1 := KX.out.cell 1
  have z1 := KX.out.fz 1
  have kl := KX.out.lt
  simp only [List.getElem?_cons_succ, List.getElem?_cons_zero] at k0 k1
  go_upto_region 2 with (fail)
  have TY := Lib.hid ((Turns.refl (fun i => i = g) X).set ⟨g, 1, none⟩ (.int .i64 ((pl p k).1.length : Int)) (fun _ => rfl))
  have KY := Lib.hid (KX.out.set 1 (.int .i64 ((pl p k).1.length : Int)))
  clear k0 k1 z1
  generalize X.setCell ⟨g, 1, none⟩ (.int .i64 ((pl p k).1.length : Int)) = Y at *
  have hG := HG.out
  have hW := hwl.out
  have T0 : Turns (fun i => i = g) w Y := ((Turns.of_below (S := fun i => i = g) (by rw [hG]; exact BX.out)).then TY.out)
  have hbf : ∀ r cur, w.heap[r]? = some (.cells cur 5 (0, 0)) → ¬ r = g := fun r cur hr e => by
    have := (Array.getElem?_eq_some_iff.1 hr).1
    omega
  have HD := Lib.hid (HH.out.keep T0 (by omega) (by omega) (fun r cur e _ => hbf r cur e))
  have HV := Lib.hid (hv.turns T0 (fun r hr => hbf r _ (hv.lt hr).2.1.choose_spec))
  have HM2 := Lib.hid (HM.out.turns T0 (by omega))
  have HF2 := Lib.hid (HF.out.turns T0 (fun r cur e _ => hbf r cur e))
  have B2 := hB2.out.turns T0 (by omega) (by omega)
  have T0H := Lib.hid T0
  obtain ⟨b0, n0⟩ := B2
  obtain ⟨c0, _, _⟩ := HD.out.cells
  have k0 := KY.out.cell 0
  have k1 := KY.out.cell 1
  simp only [List.set_cons_succ, List.set_cons_zero, List.getElem?_cons_succ, List.getElem?_cons_zero] at k0 k1
  clear hbf hG hW T0 hv
  refine wp_tail 6 (by kernel_rfl) (by kernel_rfl) ?_
  simp only [List.take_succ_cons, List.take_zero, List.drop_succ_cons, List.drop_zero]
  repeat still_step
  refine wpStill_nil ?_
  have hB := below_drewN' (Below.refl Y.heap.size Y) 1
  refine wpl_update (w := Y.drew) rfl _ _ _ 49 rfl (str_keys Try.underlying9) Try.underlying49 (HM2.out.below hB) k (fileV (.slice A (pl p k).1.length cap) (pl p k).1.length) rfl rfl rfl ?_
  intro w3 hm3 ht3
  have HM3 := Lib.hid hm3
  have T3 := Lib.hid (((Turns.refl (fun i => i = F) Y).drewN 1).then (.of_map (S := fun i => i = F) ht3 rfl))
  clear hm3 ht3
  go_wp2_with fail
  go_end0
  have hd := dsUpd HD.out hN HM2.out HF2.out k _ (pl p k).1 (pl p k).1.length HV.out (Nat.le_refl _) HM3.out rfl T3.out
  rw [if_pos hk] at hd
  exact ⟨rfl, hd, (T0H.out.mono (T := DSet d F) (fun i hi e => by have := HG.out; omega)).then (T3.out.mono (fun _ _ e => .inr e))⟩
set_option maxRecDepth 20000 in
theorem mvDo (w : World) (b n n2 d F N : Nat) (off : Bool) (fuse : Int) (p : Fs) (k k2 : ByteArray) (h : DS Xs w d F off fuse p N) (hb : Box2 w b n d k) (hx : w.cell? ⟨n2, 0, none⟩ = some (.string k2)) :
    Calls Try.prog 44 #[.pointer (some ⟨b, 0, none⟩), .pointer (some ⟨n, 0, none⟩), .pointer (some ⟨n2, 0, none⟩)] w fun e w' => e = .returned (.tuple #[]) ∧ DS Xs w' d F off fuse (upd (wip p k) k2 (pl p k)) (N + 1) ∧ Turns (DSet d F) w w' := by
  obtain ⟨c0, _, _⟩ := h.cells
  have hB2 := Lib.hid hb
  obtain ⟨b0, n0⟩ := hb
  have HH := Lib.hid h
  obtain ⟨mv, n1, hN, hm, hf⟩ := h.files
  have HM := Lib.hid hm
  have HF := Lib.hid hf
  obtain ⟨v, hv, hn, hlk⟩ := DS.look0 hm hf k
  obtain ⟨A, cap, rfl, _, hc1, hc2⟩ := hv.form
  have HL := Lib.hid hlk
  have l1 := (hlk w.drew (below_drewN' (Below.refl _ _) 1)).2
  have l2 := fun o => (hlk (w.alloc o).drew (below_drewN' (Below.new w o) 1)).2
  have l3 := fun o => (hlk (w.drew.alloc o) ((below_drewN' (Below.refl w.heap.size w) 1).alloc (Nat.le_refl _) o)).2
  have e0 := fun o => ((Below.new w o).cell (p := ⟨b, 0, none⟩) (World.block_lt_of_cell? w _ b0)).trans b0
  have e1 := fun o => ((Below.new w o).cell (p := ⟨n, 0, none⟩) (World.block_lt_of_cell? w _ n0)).trans n0
  have e2 := fun o => ((Below.new w o).cell (p := ⟨d, 0, none⟩) (World.block_lt_of_cell? w _ c0)).trans c0
  unfold fileV at l1 l2 l3
  have HX := Lib.hid hx
  clear h hm hf hlk hx
  go_enter Try.func44, Try.ntmps44
  go_wp2_with fail
  go_region
  have hB0 := below_drewN' (Below.new w (.cells #[.slice A (pl p k).1.length cap, .int .i64 ((pl p k).2 : Int)] 58)) 1
  have hwl := Lib.hid (show b < w.heap.size ∧ n < w.heap.size ∧ d < w.heap.size ∧ F < w.heap.size ∧ n2 < w.heap.size from ⟨World.block_lt_of_cell? w _ b0, World.block_lt_of_cell? w _ n0, World.block_lt_of_cell? w _ c0, HM.out.lt, World.block_lt_of_cell? w _ HX.out⟩)
  have BX : Hid (Below w.heap.size w (w.alloc (.cells #[.slice A (pl p k).1.length cap, .int .i64 ((pl p k).2 : Int)] 58)).drew) := Lib.hid hB0
  have KX : Hid (Blk (w.alloc (.cells #[.slice A (pl p k).1.length cap, .int .i64 ((pl p k).2 : Int)] 58)).drew w.heap.size 58 [.slice A (pl p k).1.length cap, .int .i64 ((pl p k).2 : Int)]) := Lib.hid ((Blk.new w 58 [.slice A (pl p k).1.length cap, .int .i64 ((pl p k).2 : Int)]).drewN 1)
  clear l1 l2 l3 e0 e1 e2 b0 n0 c0 hB0
  generalize (w.alloc (.cells #[.slice A (pl p k).1.length cap, .int .i64 ((pl p k).2 : Int)] 58)).drew = X at *
  generalize hg : w.heap.size = g at *
  have HG := Lib.hid hg
  clear hg
  have k0 := KX.out.cell 0
  have k1 := KX.out.cell 1
  have z1 := KX.out.fz 1
  have kl := KX.out.lt
  simp only [List.getElem?_cons_succ, List.getElem?_cons_zero] at k0 k1
  have hG := HG.out
  have hW := hwl.out
  have T0 : Turns (fun i => i = g) w X := (Turns.of_below (S := fun i => i = g) (by rw [hG]; exact BX.out))
  have hbf : ∀ r cur, w.heap[r]? = some (.cells cur 5 (0, 0)) → ¬ r = g := fun r cur hr e => by
    have := (Array.getElem?_eq_some_iff.1 hr).1
    omega
  have HD := Lib.hid (HH.out.keep T0 (by omega) (by omega) (fun r cur e _ => hbf r cur e))
  have HV := Lib.hid (hv.turns T0 (fun r hr => hbf r _ (hv.lt hr).2.1.choose_spec))
  have HM2 := Lib.hid (HM.out.turns T0 (by omega))
  have HF2 := Lib.hid (HF.out.turns T0 (fun r cur e _ => hbf r cur e))
  have B2 := hB2.out.turns T0 (by omega) (by omega)
  have X2 := Lib.hid ((T0.cell (p := ⟨n2, 0, none⟩) (World.block_lt_of_cell? w _ HX.out) (show ¬ n2 = g by omega)).trans HX.out)
  have HB2 := Lib.hid B2
  have T0H := Lib.hid T0
  obtain ⟨b0, n0⟩ := B2
  obtain ⟨c0, _, _⟩ := HD.out.cells
  clear hbf hG hW T0 hv k0 k1 z1
  go_upto_region 1 with (fail)
  refine wp_tail 5 (by kernel_rfl) (by kernel_rfl) ?_
  simp only [List.take_succ_cons, List.take_zero, List.drop_succ_cons, List.drop_zero]
  repeat still_step
  refine wpStill_nil ?_
  have hB := below_drewN' (Below.refl X.heap.size X) 1
  refine wpl_delete (w := X.drew) rfl _ _ 49 9 rfl (str_keys Try.underlying9) Try.underlying49 (HM2.out.below hB) k rfl rfl ?_
  intro w3 hm3 ht3
  have T3 := ((Turns.refl (fun i => i = F) X).drewN 1).then (.of_map (S := fun i => i = F) ht3 rfl)
  have HM3 := Lib.hid hm3
  have HD3 := Lib.hid (dsWip HD.out hN HM2.out HF2.out k hm3 (by split <;> omega) T3)
  have hFb : ∀ r cur, X.heap[r]? = some (.cells cur 5 (0, 0)) → ¬ r = F := fun r cur hr e => by
    subst e
    exact HM2.out.ne_cells hr rfl
  have HF3 := Lib.hid (Files.wip (HF2.out.turns T3 (fun r cur e _ => hFb r cur e)) k)
  have HV3 := Lib.hid (HV.out.turns T3 (fun r hr => hFb r _ (HV.out.lt hr).2.1.choose_spec))
  have b3 := (ht3.cell ⟨b, 0, none⟩).trans b0
  have x3 := (ht3.cell ⟨n2, 0, none⟩).trans X2.out
  have c3 := (ht3.cell ⟨d, 0, none⟩).trans c0
  have f0 := (ht3.cell ⟨g, 0, none⟩).trans (KX.out.cell 0)
  have f1 := (ht3.cell ⟨g, 1, none⟩).trans (KX.out.cell 1)
  simp only [List.getElem?_cons_succ, List.getElem?_cons_zero] at f0 f1
  have T3H := Lib.hid T3
  clear b0 n0 c0 hm3 ht3 T3 hFb hB
  go_upto_region 2 with (fail)
  refine wp_tail 6 (by kernel_rfl) (by kernel_rfl) ?_
  simp only [List.take_succ_cons, List.take_zero, List.drop_succ_cons, List.drop_zero]
  repeat still_step
  refine wpStill_nil ?_
  have hB := below_drewN' (Below.refl w3.heap.size w3) 1
  refine wpl_update (w := w3.drew) rfl _ _ _ 49 rfl (str_keys Try.underlying9) Try.underlying49 (HM3.out.below hB) k2 (fileV (.slice A (pl p k).1.length cap) (pl p k).2) rfl rfl rfl ?_
  intro w4 hm4 ht4
  have HM4 := Lib.hid hm4
  have T4 := Lib.hid (((Turns.refl (fun i => i = F) w3).drewN 1).then (.of_map (S := fun i => i = F) ht4 rfl))
  clear hm4 ht4
  go_wp2_with fail
  go_end0
  have hd := dsUpd HD3.out (by split <;> omega) HM3.out HF3.out k2 _ (pl p k).1 (pl p k).2 HV3.out hn HM4.out rfl T4.out
  exact ⟨rfl, hd.wide (by split <;> omega), (T0H.out.mono (T := DSet d F) (fun i hi e => by have := HG.out; omega)).then ((T3H.out.then T4.out).mono (fun _ _ e => .inr e))⟩
end Go.Proofs.Ytoljnklceghcdaa
