/- disk: the closure of Append; bytes behind a file's bytes. -/
import Derived.Test.YteihedfmmiihiaaGreatWmB
import Derived.Deep.AppendSrc
import Derived.Deep.Upon
import Derived.ArgAppend
namespace Go.Proofs.YteihedfmmiihiaaGreat
open Go.RowKit
variable {Xs : Nat → Prop}

theorem bytesV_one (l : List UInt8) : ∀ u ∈ Cd.bytesV l, u.oneCell' = true := fun u hu => by
  obtain ⟨c, _, rfl⟩ := List.mem_map.1 hu
  rfl
theorem Bs.adds {w : World} {a : Addr} {n : Nat} {l : List UInt8} (h : Bs w (some a) n l) : ∀ j u, (Cd.bytesV l)[j]? = some u → w.cell? (a.add j) = some u := fun j u hj => by
  have hlt : j < l.length := by
    have := (List.getElem?_eq_some_iff.1 hj).1
    simpa [Cd.bytesV] using this
  obtain ⟨ad, e, _, hc⟩ := h.cell j hlt
  obtain rfl : a = ad := Option.some.inj e
  rw [hc]
  simp [Cd.bytesV, Cd.byteV, hlt] at hj
  rw [hj]
theorem Bs.none {w : World} {n : Nat} {l : List UInt8} (h : Bs w none n l) : n = 0 ∧ l = [] := by
  have hl : l = [] := by
    cases l with
    | nil => rfl
    | cons c t => obtain ⟨ad, e, _⟩ := h.cell 0 (by simp); cases e
  subst hl
  exact ⟨h.len, rfl⟩
theorem grown_below {w w' : World} (h : w.grownBy w' none) : Below w.heap.size w w' := ⟨h.os, h.tape, h.output, h.size, fun i hi => h.block i hi (by simp)⟩
/-- bytes behind a file's that has no room: the file's own slice where nothing comes, else a new row -/
theorem append_file (w : World) (A : Option Addr) (l : List UInt8) (hv : FileB Xs w (.slice A l.length l.length) l) (B : Option Addr) (m c : Nat) (lb : List UInt8) (hs : Bs w B m lb) (hL : l.length + lb.length ≤ 100000000) (hx : ∀ g, Xs g → g < w.heap.size) (ty : TypeId) :
    ∃ A' cap' w', (Builtin.append_ #[30, 30] ty #[.slice A l.length l.length, .slice B m c]).run Tryz.prog w = .ok (.slice A' (l ++ lb).length cap') w' ∧ FileB Xs w' (.slice A' (l ++ lb).length cap') (l ++ lb) ∧ Below w.heap.size w w' := by
  obtain ⟨i0, hi, hz0, hz1, hz2⟩ := info_parts info_u8
  have hm := hs.len
  by_cases h0 : m = 0
  · have hlb : lb = [] := List.eq_nil_of_length_eq_zero (by omega)
    subst hlb
    subst h0
    have hsrc : Src Tryz.prog i0.size 30 (.slice B 0 c) 0 [] w := by
      cases B with
      | none => exact Src.ofNil w Tryz.underlying30 c
      | some a => exact Src.ofSlice w Tryz.underlying30 a 0 c [] (by simp) (by simp) (by simp)
    have hrun := run_append_nothing w 30 30 ty 5 i0 Tryz.underlying30 hi A l.length l.length (Nat.le_refl _) _ hsrc
    refine ⟨A, l.length, w, by rw [List.append_nil]; exact hrun, by rw [List.append_nil]; exact hv, Below.refl _ _⟩
  · cases B with
    | none => exact absurd hs.none.1 h0
    | some a =>
      cases A with
      | some b =>
        obtain ⟨v', w', hrun, r1, r2⟩ := run_append_arg_grows (P := Tryz.prog) w 30 ty 5 i0 (.int .u8 0) 1 1 Tryz.underlying30 hi hz0 hz1 hz2 rfl (by decide) b l.length l.length (Cd.bytesV l) (by simp [Cd.bytesV]) (FileB.bs hv).adds a m c (Cd.bytesV lb) (by simp [Cd.bytesV]; omega) hs.adds (by omega) (by unfold maxLen; omega) (by omega)
        rw [← Cd.bytesV_append] at r1
        obtain ⟨A', c', rfl⟩ := own_slice' r1
        have e : l.length + m = (l ++ lb).length := by rw [List.length_append]; omega
        rw [e] at r1 hrun
        exact ⟨A', c', w', hrun, FileB.of_own r1 rfl (fun g hg h => absurd (hx g h) (by have := own_ge r1 hg; omega)), grown_below r2⟩
      | none =>
        obtain ⟨h1, rfl⟩ := (FileB.bs hv).none
        obtain ⟨v', w', hrun, r1, r2, _⟩ := run_append_own (P := Tryz.prog) w w.heap.size 30 ty 5 i0 (.int .u8 0) 1 1 Tryz.underlying30 hi hz0 hz1 hz2 rfl (by decide) (.slice none 0 0) 0 [] (World.ownsRow_nil w _ 5 1) a m c (Cd.bytesV lb) (by simp [Cd.bytesV]; omega) hs.adds (bytesV_one _) (by unfold maxLen; simp at hL; omega) (by simp at hL; omega) (Nat.le_refl _)
        rw [List.nil_append] at r1
        obtain ⟨A', c', rfl⟩ := own_slice' r1
        have e : 0 + m = ([] ++ lb : List UInt8).length := by rw [List.nil_append]; omega
        rw [e] at r1 hrun
        exact ⟨A', c', w', hrun, FileB.of_own (by rw [List.nil_append] at r1 ⊢; exact r1) rfl (fun g hg h => absurd (hx g h) (by have := own_ge r1 hg; omega)), grown_below r2⟩
/-- as a step of a region that draws -/
theorem step_append_run {P : Program} {ops : Array Oper} {o : Oper} {a : Act} {w : World} {K : Act → World → Prop} {Q : Exit → Act → World → Prop} {E : Prop}
    (hg : o.guard = none) (s x : Operand) (t : TypeId) (hop : o.op = Op.call { callee := Callee.builtin Builtin.append, args := #[s, x], argTypes := #[t, t] }) (vs vx : Value) (hs : a.eval s = vs) (hx : a.eval x = vx)
    (v' : Value) (w' : World) (hrun : (Builtin.append_ #[t, t] o.type #[vs, vx]).run P w = .ok v' w') (hK : K (a.put o.dst v') w') :
    if Region.wanted o (yielded ops a.tmps) = true then Oper.wp P o a w K Q else E := by
  have hw : Region.wanted o (yielded ops a.tmps) = true := by simp [Region.wanted, hg]
  rw [if_pos hw]
  unfold Oper.wp
  simp [execOp, hop, resolve, invoke, builtin, hs, hx, hrun, Result.andThen]
  exact hK
set_option maxRecDepth 20000 in
theorem clipB (w : World) (A : Option Addr) (n c : Nat) (h : n ≤ c) (hc : c ≤ maxLen) : Calls Tryz.prog 44 #[.slice A n c] w fun e w' => e = .returned (.slice A n n) ∧ w' = w := by
  unfold maxLen at hc
  go_enter Tryz.func44, Tryz.ntmps44
  go_wp2_with fail
  go_ret
  exact ⟨rfl, rfl⟩
set_option maxRecDepth 20000 in
theorem apDo (w : World) (b n n2 d F N : Nat) (B : Option Addr) (m c : Nat) (lb : List UInt8) (hs : Bs w B m lb) (hc : m ≤ c) (off : Bool) (fuse : Int) (p : Fs) (k : ByteArray) (h : DS Xs w d F off fuse p N) (hb : Box2 w b n d k) (hx : w.cell? ⟨n2, 0, none⟩ = some (.slice B m c)) (hxs : ∀ g, Xs g → g < w.heap.size) (hL : (pl p k).1.length + lb.length ≤ 100000000) :
    Calls Tryz.prog 43 #[.pointer (some ⟨b, 0, none⟩), .pointer (some ⟨n, 0, none⟩), .pointer (some ⟨n2, 0, none⟩)] w fun e w' => e = .returned (.tuple #[]) ∧ DS Xs w' d F off fuse (upd p k ((pl p k).1 ++ lb, (pl p k).2)) (N + 1) ∧ Turns (DSet d F) w w' := by
  obtain ⟨c0, _, _⟩ := h.cells
  have hB2 := Lib.hid hb
  obtain ⟨b0, n0⟩ := hb
  have HH := Lib.hid h
  obtain ⟨mv, n1, hN, hm, hf⟩ := h.files
  have HM := Lib.hid hm
  have HF := Lib.hid hf
  obtain ⟨v, hv, hn, hlk⟩ := DS.look0 hm hf k
  obtain ⟨A, cap, rfl, _, hc1, hc2⟩ := hv.form
  have HL := Lib.hid hlk
  have l1 := (hlk w.drew (below_drewN' (Below.refl _ _) 1)).2
  have l2 := fun o => (hlk (w.alloc o).drew (below_drewN' (Below.new w o) 1)).2
  have l3 := fun o => (hlk (w.drew.alloc o) ((below_drewN' (Below.refl w.heap.size w) 1).alloc (Nat.le_refl _) o)).2
  have e0 := fun o => ((Below.new w o).cell (p := ⟨b, 0, none⟩) (World.block_lt_of_cell? w _ b0)).trans b0
  have e1 := fun o => ((Below.new w o).cell (p := ⟨n, 0, none⟩) (World.block_lt_of_cell? w _ n0)).trans n0
  have e2 := fun o => ((Below.new w o).cell (p := ⟨d, 0, none⟩) (World.block_lt_of_cell? w _ c0)).trans c0
  unfold fileV at l1 l2 l3
  have HX := Lib.hid hx
  have HXS : Hid (∀ g, Xs g → g < w.heap.size) := Lib.hid hxs
  clear h hm hf hlk hx hxs
  go_enter Tryz.func43, Tryz.ntmps43
  go_wp2_with fail
  go_region
  have hB0 := below_drewN' (Below.new w (.cells #[.slice A (pl p k).1.length cap, .int .i64 ((pl p k).2 : Int)] 80)) 1
  have hwl := Lib.hid (show b < w.heap.size ∧ n < w.heap.size ∧ d < w.heap.size ∧ F < w.heap.size ∧ n2 < w.heap.size from ⟨World.block_lt_of_cell? w _ b0, World.block_lt_of_cell? w _ n0, World.block_lt_of_cell? w _ c0, HM.out.lt, World.block_lt_of_cell? w _ HX.out⟩)
  have BX : Hid (Below w.heap.size w (w.alloc (.cells #[.slice A (pl p k).1.length cap, .int .i64 ((pl p k).2 : Int)] 80)).drew) := Lib.hid hB0
  have KX : Hid (Blk (w.alloc (.cells #[.slice A (pl p k).1.length cap, .int .i64 ((pl p k).2 : Int)] 80)).drew w.heap.size 80 [.slice A (pl p k).1.length cap, .int .i64 ((pl p k).2 : Int)]) := Lib.hid ((Blk.new w 80 [.slice A (pl p k).1.length cap, .int .i64 ((pl p k).2 : Int)]).drewN 1)
  clear l1 l2 l3 e0 e1 e2 b0 n0 c0 hB0
  generalize (w.alloc (.cells #[.slice A (pl p k).1.length cap, .int .i64 ((pl p k).2 : Int)] 80)).drew = X at *
  generalize hg : w.heap.size = g at *
  have HG := Lib.hid hg
  clear hg
  have k0 := KX.out.cell 0
  have k1 := KX.out.cell 1
  have z1 := KX.out.fz 1
  have kl := KX.out.lt
  simp only [List.getElem?_cons_succ, List.getElem?_cons_zero] at k0 k1
  have hG := HG.out
  have hW := hwl.out
  have T0 : Turns (fun i => i = g) w X := (Turns.of_below (S := fun i => i = g) (by rw [hG]; exact BX.out))
  have hbf : ∀ r cur, w.heap[r]? = some (.cells cur 5 (0, 0)) → ¬ r = g := fun r cur hr e => by
    have := (Array.getElem?_eq_some_iff.1 hr).1
    omega
  have HD := Lib.hid (HH.out.keep T0 (by omega) (by omega) (fun r cur e _ => hbf r cur e))
  have HV := Lib.hid (hv.turns T0 (fun r hr => hbf r _ (hv.lt hr).2.1.choose_spec))
  have HM2 := Lib.hid (HM.out.turns T0 (by omega))
  have HF2 := Lib.hid (HF.out.turns T0 (fun r cur e _ => hbf r cur e))
  have B2 := hB2.out.turns T0 (by omega) (by omega)
  have X2 := Lib.hid ((T0.cell (p := ⟨n2, 0, none⟩) (World.block_lt_of_cell? w _ HX.out) (show ¬ n2 = g by omega)).trans HX.out)
  have HB2 := Lib.hid B2
  have T0H := Lib.hid T0
  obtain ⟨b0, n0⟩ := B2
  obtain ⟨c0, _, _⟩ := HD.out.cells
  have HS := Lib.hid (hs.kept (by have := T0.size; exact this) (fun ad e h0 => T0.block _ (by obtain ⟨ad', e', hlt, _⟩ := hs.cell 0 h0; obtain rfl : ad' = ad := Option.some.inj (e'.symm.trans e); exact hlt) (by obtain ⟨ad', e', hlt, _⟩ := hs.cell 0 h0; obtain rfl : ad' = ad := Option.some.inj (e'.symm.trans e); omega)))
  have x2 := X2.out
  have z0 := KX.out.fz 0
  have HCl := Lib.hid (fun (W : World) => clipB W A (pl p k).1.length cap hc1 hc2)
  clear hbf hG hW T0 hv
  go_upto_region 1 with (fail)
  clear hs
  have hdr := below_drewN' (Below.refl X.heap.size X) 1
  obtain ⟨A', cap', Y, hrun, hv2, hb2⟩ := append_file X.drew A (pl p k).1 (HV.out.below hdr).clip B m c lb (HS.out.below hdr) hL (fun r hr => Nat.lt_trans (HXS.out r hr) kl) 30
  have HR := Lib.hid hrun
  have HV2 := Lib.hid hv2
  have BY := Lib.hid (below_trans' hdr hb2)
  have y0 := (BY.out.cell (p := ⟨g, 0, none⟩) kl).trans k0
  have yz := (BY.out.frozen (p := ⟨g, 0, none⟩) kl).trans z0
  have HYD := Lib.hid (HD.out.bel BY.out)
  have HYK := Lib.hid (KX.out.bel BY.out)
  have HYM := Lib.hid (HM2.out.below BY.out)
  have HYF := Lib.hid (HF2.out.turns (.of_below (S := fun _ => False) BY.out) (fun _ _ _ _ => id))
  have HYB := Lib.hid (HB2.out.bel BY.out)
  have HYT := Lib.hid (T0H.out.then (.of_below BY.out))
  clear hrun hv2 hb2 hdr
  generalize hLL : (pl p k).1 ++ lb = L at *
  have HLL := Lib.hid hLL
  clear hLL
  go_region_law (first | (refine step_append_run (by rfl) _ _ _ (by rfl) _ _ (by rfl) (by rfl) (.slice A' L.length cap') Y HR.out ?_) | (go_simp; go_at_call 44; refine (HCl.out _).mono ?_; rintro e X2 ⟨rfl, rfl⟩))
  all_goals
    go_upto_region 2 with (fail)
    have hG := HG.out
    have hW := hwl.out
    have TZ := (Turns.refl (fun i => i = g) Y).set ⟨g, 0, none⟩ (.slice A' L.length cap') (fun _ => rfl)
    have hbf : ∀ r cur, Y.heap[r]? = some (.cells cur 5 (0, 0)) → ¬ r = g := fun r cur hr e => by
      subst e
      have := HYK.out
      unfold Blk at this
      rw [hr] at this
      injection this with this
      injection this with _ this _
      exact absurd this (by decide)
    have KZ := Lib.hid (HYK.out.set 0 (.slice A' L.length cap'))
    have HZD := Lib.hid (HYD.out.keep TZ (by omega) (by omega) (fun r cur e _ => hbf r cur e))
    have HZV := Lib.hid (HV2.out.turns TZ (fun r hr => hbf r _ (HV2.out.lt hr).2.1.choose_spec))
    have HZM := Lib.hid (HYM.out.turns TZ (by omega))
    have HZF := Lib.hid (HYF.out.turns TZ (fun r cur e _ => hbf r cur e))
    have HZT := Lib.hid (HYT.out.then TZ)
    have B2 := HYB.out.turns TZ (by omega) (by omega)
    clear hbf TZ y0 yz k0 k1 z0 z1 x2 b0 n0 c0
    generalize Y.setCell ⟨g, 0, none⟩ (.slice A' L.length cap') = Z at *
    obtain ⟨b0, n0⟩ := B2
    obtain ⟨c0, _, _⟩ := HZD.out.cells
    have k0 := KZ.out.cell 0
    have k1 := KZ.out.cell 1
    simp only [List.set_cons_succ, List.set_cons_zero, List.getElem?_cons_succ, List.getElem?_cons_zero] at k0 k1
    clear hG hW
    refine wp_tail 6 (by kernel_rfl) (by kernel_rfl) ?_
    simp only [List.take_succ_cons, List.take_zero, List.drop_succ_cons, List.drop_zero]
    repeat still_step
    refine wpStill_nil ?_
    have hB := below_drewN' (Below.refl Z.heap.size Z) 1
    refine wpl_update (w := Z.drew) rfl _ _ _ 46 rfl (str_keys Tryz.underlying9) Tryz.underlying46 (HZM.out.below hB) k (fileV (.slice A' L.length cap') (pl p k).2) rfl rfl rfl ?_
    intro w3 hm3 ht3
    have HM3 := Lib.hid hm3
    have T3 := Lib.hid (((Turns.refl (fun i => i = F) Z).drewN 1).then (.of_map (S := fun i => i = F) ht3 rfl))
    clear hm3 ht3
    go_wp2_with fail
    go_end0
    have hd := dsUpd HZD.out hN HZM.out HZF.out k _ L (pl p k).2 HZV.out (by rw [← HLL.out, List.length_append]; omega) HM3.out rfl T3.out
    rw [HLL.out]
    exact ⟨rfl, hd.wide (by split <;> omega), (HZT.out.mono (T := DSet d F) (fun i hi e => by have := HG.out; omega)).then (T3.out.mono (fun _ _ e => .inr e))⟩
end Go.Proofs.YteihedfmmiihiaaGreat
