/- event.Bytes of an event that may be: its bytes (written by gen_evbytes.py). -/
import Derived.Test.YticipdjfkpakpaaEvCheck
import Derived.Test.YticipdjfkpakpaaEvRead
namespace Go.Proofs.Yticipdjfkpakpaa
open Go.RowKit
attribute [local go_sem] run_store_cx'

/-- an event's bytes -/
def evB (x : Ev) : List UInt8 :=
  [UInt8.ofNat x.kind] ++ (if hasId x.kind then Cd.uB x.id else []) ++ (if hasName x.kind then Cd.textB x.name else []) ++ (if hasValue x.kind then flatB x.val else []) ++ (if hasInt x.kind then Cd.uB (Cd.zig x.int) else [])

/-- Bytes at work: the event's cells, the table's row, what stands already -/
structure BW (w W : World) (e f base : Nat) (ev has : List Value) (v : Value) (l : List UInt8) : Prop where
  lo : w.heap.size ≤ base
  size : base ≤ W.heap.size
  elt : e < base
  flt : f < base
  bel : Below w.heap.size w W
  ev : Blk W e 27 ev
  has : Blk W f 70 has
  own : W.ownsRow base 5 1 v l.length (Cd.bytesV l)
theorem BW.step {w W W' : World} {e f base : Nat} {ev has : List Value} {v : Value} {l : List UInt8} (h : BW w W e f base ev has v l) (hb : Below W.heap.size W W') : BW w W' e f base ev has v l :=
  ⟨h.lo, Nat.le_trans h.size hb.size, h.elt, h.flt, below_trans' h.bel (hb.mono (Nat.le_refl _)), h.ev.bel hb, h.has.bel hb, own_below h.own hb⟩
theorem BW.app {w W W' : World} {e f base : Nat} {ev has : List Value} {v v' : Value} {l m : List UInt8} (h : BW w W e f base ev has v l) (ho : W'.ownsRow base 5 1 v' (l.length + m.length) (Cd.bytesV l ++ Cd.bytesV m)) (hg : W.grownBy W' v.ownBlock) : BW w W' e f base ev has v' (l ++ m) := by
  have hb := below_grown h.own h.size hg
  refine ⟨h.lo, Nat.le_trans h.size hb.size, h.elt, h.flt, h.bel.trans (hb.mono h.lo), (hb.block e h.elt).trans h.ev, (hb.block f h.flt).trans h.has, ?_⟩
  rw [Cd.bytesV_append, List.length_append]
  exact ho
theorem in_cells {W : World} {A : Option Addr} {n cap : Nat} {l : List UInt8} (h : In W A n cap l) (h0 : 0 < l.length) : ∃ ad, A = some ad ∧ ∀ j u, (Cd.bytesV l)[j]? = some u → W.cell? (ad.add j) = some u := by
  obtain ⟨ad, rfl, _, _⟩ := h.bs.cell 0 h0
  refine ⟨ad, rfl, ?_⟩
  intro j u hj
  have hjl : j < l.length := by
    have := (List.getElem?_eq_some_iff.1 hj).1
    simpa [Cd.bytesV] using this
  obtain ⟨ad', h1, _, h2⟩ := h.bs.cell j hjl
  injection h1 with h1
  subst h1
  rw [h2]
  have : (Cd.bytesV l)[j]? = some (.int .u8 (l[j].toNat : Int)) := by simp [Cd.bytesV, Cd.byteV, hjl]
  rw [← this, hj]
theorem bytes_one (l : List UInt8) : ∀ u ∈ Cd.bytesV l, u.oneCell' = true := by
  intro u hu
  simp only [Cd.bytesV, List.mem_map] at hu
  obtain ⟨x, _, rfl⟩ := hu
  rfl
theorem bytesV_len (l : List UInt8) : (Cd.bytesV l).length = l.length * 1 := by simp [Cd.bytesV]
theorem uB_pos (n : Nat) : 0 < (Cd.uB n).length := by
  by_cases h : n < 128
  · rw [Cd.uB_lt h]; simp
  · rw [Cd.uB_ge (by omega)]; simp
theorem own_build (w : World) (k : UInt8) : (w.alloc (.cells #[.int .u8 (k.toNat : Int)] 5)).ownsRow w.heap.size 5 1 (.slice (some ⟨w.heap.size, 0, none⟩) 1 1) ([k] : List UInt8).length (Cd.bytesV [k]) :=
  ⟨by simp [Cd.bytesV], .inr ⟨w.heap.size, 1, _, rfl, Nat.le_refl _, heap_alloc_new w _, Nat.le_refl _, by decide, by simp [Cd.bytesV], by simp [Cd.bytesV, Cd.byteV]⟩⟩
theorem flatB_pos {xs : List Nd} (h : ValOk xs) : 0 < (flatB xs).length := by
  have h0 := h.pos
  cases xs with
  | nil => simp at h0
  | cons x xs => simp [flatB, ndB]
set_option maxRecDepth 20000 in
set_option maxHeartbeats 4000000 in
theorem evBytes_1 (id : Nat) (nm : List UInt8) (xs : List Nd) (i : Int) (hx : EvRaw ⟨1, id, nm, xs, i⟩) (hok : evOk ⟨1, id, nm, xs, i⟩ = true) (A : Option Addr) (n cap : Nat) (w : World) (hv : VIn w A n xs) :
    Calls Try.prog 14 #[evV ⟨1, id, nm, xs, i⟩ A n cap] w (MadeV w (evB ⟨1, id, nm, xs, i⟩)) := by
  obtain ⟨i0, hi, hz0, hz1, hz2⟩ := info_parts info_u8
  have HC : Hid (∀ W, Below w.heap.size w W → Calls Try.prog 16 #[.agg #[.int .u8 (1 : Int), .int .i64 (id : Int), .string ⟨nm.toArray⟩, .slice A n cap, .int .i64 i]] W fun e w' => e = .returned (.int .i64 0) ∧ Below W.heap.size W w') := fun W hW => by
    have := evCheck_any ⟨1, id, nm, xs, i⟩ hx A n cap W (hv.below hW)
    rw [hok] at this
    exact this
  have HF : Hid (∀ W, Calls Try.prog 32 #[.int .u8 (1 : Int)] W fun e w' => e = .returned (.agg #[.bool true, .bool false, .bool true, .bool true, .bool true, .bool true, .int .i64 (hLeast 1), .int .i64 (hMost 1)]) ∧ Below W.heap.size W w') := fun W => fields_any 1 (by decide) W
  have lu : (Cd.uB id).length ≤ 10 := Cd.uB_len10 (by have := hx.id_le; simp only at this; omega)
  have lt : (Cd.textB nm).length ≤ 1000010 := by have := hx.name_le; simp only at this; have h2 := Cd.uB_len10 (n := nm.length) (by omega); simp only [Cd.textB, List.length_append]; omega
  have li : (Cd.uB (Cd.zig i)).length ≤ 10 := Cd.uB_len10 (zig_lt i hx.i64.1 hx.i64.2)
  have hVO := hx.ok rfl
  simp only at hVO
  have lv : (flatB xs).length ≤ 4300000 := by
    have h1 := flatB_len xs (fun y hy => by
      obtain ⟨j, hj, rfl⟩ := List.getElem_of_mem hy
      have := hVO.1.seq.fit j
      rw [List.getElem?_eq_getElem hj] at this
      exact ⟨this.1, hVO.2 _ hy, this.2.1⟩)
    have h2 := hVO.1.seq.few
    omega
  have HV := Lib.hid hVO
  have HI := Lib.hid hx.i64
  have HN : Hid (id ≤ 500 ∧ nm.length ≤ 1000000) := ⟨hx.id_le, hx.name_le⟩
  obtain ⟨g, rfl, rfl, hgw, hR⟩ : ∃ g, A = some ⟨g, 0, none⟩ ∧ n = xs.length ∧ g < w.heap.size ∧ RowOf w g xs := by
    rcases hv with ⟨h0, _⟩ | h0
    · have := hVO.1.pos; simp [h0] at this
    · exact h0
  have HR := Lib.hid hR
  have idr : (id : Int) ≤ 500 := by have := hx.id_le; simp only at this; omega
  clear hx hok hVO hR
  unfold evV
  go_enter Try.func14, Try.ntmps14
  go_wp2_with fail
  have b0 : Below w.heap.size w (w.alloc (.cells #[.int .u8 (1 : Int), .int .i64 (id : Int), .string ⟨nm.toArray⟩, .slice (some ⟨g, 0, none⟩) xs.length cap, .int .i64 i] 27)) := (Below.refl _ _).alloc (Nat.le_refl _) _
  have k0 : Blk (w.alloc (.cells #[.int .u8 (1 : Int), .int .i64 (id : Int), .string ⟨nm.toArray⟩, .slice (some ⟨g, 0, none⟩) xs.length cap, .int .i64 i] 27)) w.heap.size 27 [.int .u8 (1 : Int), .int .i64 (id : Int), .string ⟨nm.toArray⟩, .slice (some ⟨g, 0, none⟩) xs.length cap, .int .i64 i] := heap_alloc_new w _
  have s0 : w.heap.size < (w.alloc (.cells #[.int .u8 (1 : Int), .int .i64 (id : Int), .string ⟨nm.toArray⟩, .slice (some ⟨g, 0, none⟩) xs.length cap, .int .i64 i] 27)).heap.size := by simp
  refine (HC.out _ b0).mono ?_
  rintro e w1 ⟨rfl, B1⟩
  have k1 := k0.bel B1
  have b1 := b0.trans (B1.mono (Nat.le_of_lt s0))
  have s1 := Nat.lt_of_lt_of_le s0 B1.size
  have c0 := k1.cell 0
  simp only [List.getElem?_cons_succ, List.getElem?_cons_zero] at c0
  clear b0 k0 s0 B1
  go_wp2_with fail
  refine (HF.out _).mono ?_
  rintro e w2 ⟨rfl, B2⟩
  have k2 := k1.bel B2
  have b2 := b1.trans (B2.mono b1.size)
  have s2 := Nat.lt_of_lt_of_le s1 B2.size
  clear k1 b1 s1 B2 c0
  have k3 := k2.alloc (.cells #[.bool true, .bool false, .bool true, .bool true, .bool true, .bool true, .int .i64 (hLeast 1), .int .i64 (hMost 1)] 70)
  have q3 : Blk (w2.alloc (.cells #[.bool true, .bool false, .bool true, .bool true, .bool true, .bool true, .int .i64 (hLeast 1), .int .i64 (hMost 1)] 70)) w2.heap.size 70 [.bool true, .bool false, .bool true, .bool true, .bool true, .bool true, .int .i64 (hLeast 1), .int .i64 (hMost 1)] := heap_alloc_new w2 _
  have own : ((w2.alloc (.cells #[.bool true, .bool false, .bool true, .bool true, .bool true, .bool true, .int .i64 (hLeast 1), .int .i64 (hMost 1)] 70)).alloc (.cells #[.int .u8 (1 : Int)] 5)).ownsRow (w2.alloc (.cells #[.bool true, .bool false, .bool true, .bool true, .bool true, .bool true, .int .i64 (hLeast 1), .int .i64 (hMost 1)] 70)).heap.size 5 1 (.slice (some ⟨(w2.alloc (.cells #[.bool true, .bool false, .bool true, .bool true, .bool true, .bool true, .int .i64 (hLeast 1), .int .i64 (hMost 1)] 70)).heap.size, 0, none⟩) 1 1) ([UInt8.ofNat 1] : List UInt8).length (Cd.bytesV [UInt8.ofNat 1]) := own_build _ (UInt8.ofNat 1)
  rw [show (w2.alloc (.cells #[.bool true, .bool false, .bool true, .bool true, .bool true, .bool true, .int .i64 (hLeast 1), .int .i64 (hMost 1)] 70)).heap.size = w2.heap.size + 1 from by simp] at own
  have H0 := Lib.hid (show BW w ((w2.alloc (.cells #[.bool true, .bool false, .bool true, .bool true, .bool true, .bool true, .int .i64 (hLeast 1), .int .i64 (hMost 1)] 70)).alloc (.cells #[.int .u8 (1 : Int)] 5)) w.heap.size w2.heap.size (w2.heap.size + 1) [.int .u8 (1 : Int), .int .i64 (id : Int), .string ⟨nm.toArray⟩, .slice (some ⟨g, 0, none⟩) xs.length cap, .int .i64 i] [.bool true, .bool false, .bool true, .bool true, .bool true, .bool true, .int .i64 (hLeast 1), .int .i64 (hMost 1)] (.slice (some ⟨w2.heap.size + 1, 0, none⟩) 1 1) [UInt8.ofNat 1] from
    ⟨by omega, by simp, by omega, by omega, (b2.alloc (by omega) _).alloc (by simp; omega) _, k3.alloc _, q3.alloc _, own⟩)
  have t0 := k3.cell 0
  simp only [List.getElem?_cons_succ, List.getElem?_cons_zero] at t0
  have hne : w.heap.size ≠ w2.heap.size := by omega
  clear k2 k3 q3 own b2
  have c0 := H0.out.ev.cell 0
  have c1 := H0.out.ev.cell 1
  have c2 := H0.out.ev.cell 2
  have c3 := H0.out.ev.cell 3
  have c4 := H0.out.ev.cell 4
  have f1 := H0.out.has.cell 1
  have f2 := H0.out.has.cell 2
  have f4 := H0.out.has.cell 4
  have f5 := H0.out.has.cell 5
  simp only [List.getElem?_cons_succ, List.getElem?_cons_zero] at c0 c1 c2 c3 c4 f1 f2 f4 f5
  go_wp2_with fail
  refine (putText_any _ ⟨nm.toArray⟩ (by have := HN.out.2; show nm.toArray.size + 10 ≤ _; simp; omega)).mono ?_
  rintro e x0 hm
  replace hm : Made _ (Cd.textB nm) e x0 := hm
  obtain ⟨Aq, cq, rfl, iq, Bq⟩ := hm.bs
  have G0 := Lib.hid (H0.out.step Bq)
  obtain ⟨ad, rfl, hn⟩ := in_cells iq (by simp only [Cd.textB, List.length_append]; have := uB_pos nm.length; omega)
  have hM : ([UInt8.ofNat 1]).length + (Cd.textB nm).length ≤ 6000000 := by simp only [List.length_append, List.length_cons, List.length_nil]; omega
  have hM1 : ([UInt8.ofNat 1]).length + (Cd.textB nm).length ≤ maxLen := by unfold maxLen; omega
  have hM2 : (([UInt8.ofNat 1]).length + (Cd.textB nm).length) * 1 ≤ 140737488355328 := by omega
  have HM1 := Lib.hid hM1
  have HM2 := Lib.hid hM2
  have HNW := Lib.hid hn
  clear hm iq Bq hn hM hM1 hM2 c0 c1 c2 c3 c4 f1 f2 f4 f5
  go_wp2_with (at_builtin; refine wpList_append_own_at _ rfl _ _ 22 rfl (w2.heap.size + 1) 5 i0 (.int .u8 0) 1 1 Try.underlying22 hi hz0 hz1 hz2 rfl (by decide) _ _ _ rfl G0.out.own ad _ _ (Cd.bytesV (Cd.textB nm)) rfl (bytesV_len _) HNW.out (bytes_one _) HM1.out HM2.out G0.out.size ?_; intro v0 y0 ho hg _ _; have H1 := Lib.hid (G0.out.app ho hg); have c0 := H1.out.ev.cell 0; have c1 := H1.out.ev.cell 1; have c2 := H1.out.ev.cell 2; have c3 := H1.out.ev.cell 3; have c4 := H1.out.ev.cell 4; have f1 := H1.out.has.cell 1; have f2 := H1.out.has.cell 2; have f4 := H1.out.has.cell 4; have f5 := H1.out.has.cell 5; simp only [List.getElem?_cons_succ, List.getElem?_cons_zero] at c0 c1 c2 c3 c4 f1 f2 f4 f5; clear ho hg)
  refine (putValue_ok g cap xs HV.out.1 HV.out.2 _ (Nat.lt_of_lt_of_le hgw H1.out.bel.size) (HR.out.below H1.out.bel hgw)).mono ?_
  rintro e x1 hm
  obtain ⟨Aq, cq, rfl, iq, Bq⟩ := hm.bs
  have G1 := Lib.hid (H1.out.step Bq)
  obtain ⟨ad, rfl, hn⟩ := in_cells iq (flatB_pos HV.out.1)
  have hM : ([UInt8.ofNat 1] ++ Cd.textB nm).length + (flatB xs).length ≤ 6000000 := by simp only [List.length_append, List.length_cons, List.length_nil]; omega
  have hM1 : ([UInt8.ofNat 1] ++ Cd.textB nm).length + (flatB xs).length ≤ maxLen := by unfold maxLen; omega
  have hM2 : (([UInt8.ofNat 1] ++ Cd.textB nm).length + (flatB xs).length) * 1 ≤ 140737488355328 := by omega
  have HM1 := Lib.hid hM1
  have HM2 := Lib.hid hM2
  have HNW := Lib.hid hn
  clear hm iq Bq hn hM hM1 hM2 c0 c1 c2 c3 c4 f1 f2 f4 f5
  go_wp2_with (at_builtin; refine wpList_append_own_at _ rfl _ _ 22 rfl (w2.heap.size + 1) 5 i0 (.int .u8 0) 1 1 Try.underlying22 hi hz0 hz1 hz2 rfl (by decide) _ _ _ rfl G1.out.own ad _ _ (Cd.bytesV (flatB xs)) rfl (bytesV_len _) HNW.out (bytes_one _) HM1.out HM2.out G1.out.size ?_; intro v1 y1 ho hg _ _; have H2 := Lib.hid (G1.out.app ho hg); have c0 := H2.out.ev.cell 0; have c1 := H2.out.ev.cell 1; have c2 := H2.out.ev.cell 2; have c3 := H2.out.ev.cell 3; have c4 := H2.out.ev.cell 4; have f1 := H2.out.has.cell 1; have f2 := H2.out.has.cell 2; have f4 := H2.out.has.cell 4; have f5 := H2.out.has.cell 5; simp only [List.getElem?_cons_succ, List.getElem?_cons_zero] at c0 c1 c2 c3 c4 f1 f2 f4 f5; clear ho hg)
  refine (putInt_any _ i HI.out.1 HI.out.2).mono ?_
  rintro e x2 hm
  obtain ⟨Aq, cq, rfl, iq, Bq⟩ := hm.bs
  have G2 := Lib.hid (H2.out.step Bq)
  obtain ⟨ad, rfl, hn⟩ := in_cells iq (uB_pos _)
  have hM : ([UInt8.ofNat 1] ++ Cd.textB nm ++ flatB xs).length + (Cd.uB (Cd.zig i)).length ≤ 6000000 := by simp only [List.length_append, List.length_cons, List.length_nil]; omega
  have hM1 : ([UInt8.ofNat 1] ++ Cd.textB nm ++ flatB xs).length + (Cd.uB (Cd.zig i)).length ≤ maxLen := by unfold maxLen; omega
  have hM2 : (([UInt8.ofNat 1] ++ Cd.textB nm ++ flatB xs).length + (Cd.uB (Cd.zig i)).length) * 1 ≤ 140737488355328 := by omega
  have HM1 := Lib.hid hM1
  have HM2 := Lib.hid hM2
  have HNW := Lib.hid hn
  clear hm iq Bq hn hM hM1 hM2 c0 c1 c2 c3 c4 f1 f2 f4 f5
  go_wp2_with (at_builtin; refine wpList_append_own_at _ rfl _ _ 22 rfl (w2.heap.size + 1) 5 i0 (.int .u8 0) 1 1 Try.underlying22 hi hz0 hz1 hz2 rfl (by decide) _ _ _ rfl G2.out.own ad _ _ (Cd.bytesV (Cd.uB (Cd.zig i))) rfl (bytesV_len _) HNW.out (bytes_one _) HM1.out HM2.out G2.out.size ?_; intro v2 y2 ho hg _ _; have H3 := Lib.hid (G2.out.app ho hg); have c0 := H3.out.ev.cell 0; have c1 := H3.out.ev.cell 1; have c2 := H3.out.ev.cell 2; have c3 := H3.out.ev.cell 3; have c4 := H3.out.ev.cell 4; have f1 := H3.out.has.cell 1; have f2 := H3.out.has.cell 2; have f4 := H3.out.has.cell 4; have f5 := H3.out.has.cell 5; simp only [List.getElem?_cons_succ, List.getElem?_cons_zero] at c0 c1 c2 c3 c4 f1 f2 f4 f5; clear ho hg)
  go_ret2
  have hev : evB ⟨1, id, nm, xs, i⟩ = [UInt8.ofNat 1] ++ Cd.textB nm ++ flatB xs ++ Cd.uB (Cd.zig i) := by simp [evB, hasId, hasName, hasValue, hasInt]
  unfold MadeV
  rw [hev]
  exact ⟨_, rfl, H3.out.own.mono H3.out.lo, H3.out.bel⟩
set_option maxRecDepth 20000 in
set_option maxHeartbeats 4000000 in
theorem evBytes_2 (id : Nat) (nm : List UInt8) (xs : List Nd) (i : Int) (hx : EvRaw ⟨2, id, nm, xs, i⟩) (hok : evOk ⟨2, id, nm, xs, i⟩ = true) (A : Option Addr) (n cap : Nat) (w : World) (hv : VIn w A n xs) :
    Calls Try.prog 14 #[evV ⟨2, id, nm, xs, i⟩ A n cap] w (MadeV w (evB ⟨2, id, nm, xs, i⟩)) := by
  obtain ⟨i0, hi, hz0, hz1, hz2⟩ := info_parts info_u8
  have HC : Hid (∀ W, Below w.heap.size w W → Calls Try.prog 16 #[.agg #[.int .u8 (2 : Int), .int .i64 (id : Int), .string ⟨nm.toArray⟩, .slice A n cap, .int .i64 i]] W fun e w' => e = .returned (.int .i64 0) ∧ Below W.heap.size W w') := fun W hW => by
    have := evCheck_any ⟨2, id, nm, xs, i⟩ hx A n cap W (hv.below hW)
    rw [hok] at this
    exact this
  have HF : Hid (∀ W, Calls Try.prog 32 #[.int .u8 (2 : Int)] W fun e w' => e = .returned (.agg #[.bool true, .bool false, .bool false, .bool false, .bool false, .bool true, .int .i64 (hLeast 2), .int .i64 (hMost 2)]) ∧ Below W.heap.size W w') := fun W => fields_any 2 (by decide) W
  have lu : (Cd.uB id).length ≤ 10 := Cd.uB_len10 (by have := hx.id_le; simp only at this; omega)
  have lt : (Cd.textB nm).length ≤ 1000010 := by have := hx.name_le; simp only at this; have h2 := Cd.uB_len10 (n := nm.length) (by omega); simp only [Cd.textB, List.length_append]; omega
  have li : (Cd.uB (Cd.zig i)).length ≤ 10 := Cd.uB_len10 (zig_lt i hx.i64.1 hx.i64.2)
  have HI := Lib.hid hx.i64
  have HN : Hid (id ≤ 500 ∧ nm.length ≤ 1000000) := ⟨hx.id_le, hx.name_le⟩
  have idr : (id : Int) ≤ 500 := by have := hx.id_le; simp only at this; omega
  clear hx hok hv
  unfold evV
  go_enter Try.func14, Try.ntmps14
  go_wp2_with fail
  have b0 : Below w.heap.size w (w.alloc (.cells #[.int .u8 (2 : Int), .int .i64 (id : Int), .string ⟨nm.toArray⟩, .slice A n cap, .int .i64 i] 27)) := (Below.refl _ _).alloc (Nat.le_refl _) _
  have k0 : Blk (w.alloc (.cells #[.int .u8 (2 : Int), .int .i64 (id : Int), .string ⟨nm.toArray⟩, .slice A n cap, .int .i64 i] 27)) w.heap.size 27 [.int .u8 (2 : Int), .int .i64 (id : Int), .string ⟨nm.toArray⟩, .slice A n cap, .int .i64 i] := heap_alloc_new w _
  have s0 : w.heap.size < (w.alloc (.cells #[.int .u8 (2 : Int), .int .i64 (id : Int), .string ⟨nm.toArray⟩, .slice A n cap, .int .i64 i] 27)).heap.size := by simp
  refine (HC.out _ b0).mono ?_
  rintro e w1 ⟨rfl, B1⟩
  have k1 := k0.bel B1
  have b1 := b0.trans (B1.mono (Nat.le_of_lt s0))
  have s1 := Nat.lt_of_lt_of_le s0 B1.size
  have c0 := k1.cell 0
  simp only [List.getElem?_cons_succ, List.getElem?_cons_zero] at c0
  clear b0 k0 s0 B1
  go_wp2_with fail
  refine (HF.out _).mono ?_
  rintro e w2 ⟨rfl, B2⟩
  have k2 := k1.bel B2
  have b2 := b1.trans (B2.mono b1.size)
  have s2 := Nat.lt_of_lt_of_le s1 B2.size
  clear k1 b1 s1 B2 c0
  have k3 := k2.alloc (.cells #[.bool true, .bool false, .bool false, .bool false, .bool false, .bool true, .int .i64 (hLeast 2), .int .i64 (hMost 2)] 70)
  have q3 : Blk (w2.alloc (.cells #[.bool true, .bool false, .bool false, .bool false, .bool false, .bool true, .int .i64 (hLeast 2), .int .i64 (hMost 2)] 70)) w2.heap.size 70 [.bool true, .bool false, .bool false, .bool false, .bool false, .bool true, .int .i64 (hLeast 2), .int .i64 (hMost 2)] := heap_alloc_new w2 _
  have own : ((w2.alloc (.cells #[.bool true, .bool false, .bool false, .bool false, .bool false, .bool true, .int .i64 (hLeast 2), .int .i64 (hMost 2)] 70)).alloc (.cells #[.int .u8 (2 : Int)] 5)).ownsRow (w2.alloc (.cells #[.bool true, .bool false, .bool false, .bool false, .bool false, .bool true, .int .i64 (hLeast 2), .int .i64 (hMost 2)] 70)).heap.size 5 1 (.slice (some ⟨(w2.alloc (.cells #[.bool true, .bool false, .bool false, .bool false, .bool false, .bool true, .int .i64 (hLeast 2), .int .i64 (hMost 2)] 70)).heap.size, 0, none⟩) 1 1) ([UInt8.ofNat 2] : List UInt8).length (Cd.bytesV [UInt8.ofNat 2]) := own_build _ (UInt8.ofNat 2)
  rw [show (w2.alloc (.cells #[.bool true, .bool false, .bool false, .bool false, .bool false, .bool true, .int .i64 (hLeast 2), .int .i64 (hMost 2)] 70)).heap.size = w2.heap.size + 1 from by simp] at own
  have H0 := Lib.hid (show BW w ((w2.alloc (.cells #[.bool true, .bool false, .bool false, .bool false, .bool false, .bool true, .int .i64 (hLeast 2), .int .i64 (hMost 2)] 70)).alloc (.cells #[.int .u8 (2 : Int)] 5)) w.heap.size w2.heap.size (w2.heap.size + 1) [.int .u8 (2 : Int), .int .i64 (id : Int), .string ⟨nm.toArray⟩, .slice A n cap, .int .i64 i] [.bool true, .bool false, .bool false, .bool false, .bool false, .bool true, .int .i64 (hLeast 2), .int .i64 (hMost 2)] (.slice (some ⟨w2.heap.size + 1, 0, none⟩) 1 1) [UInt8.ofNat 2] from
    ⟨by omega, by simp, by omega, by omega, (b2.alloc (by omega) _).alloc (by simp; omega) _, k3.alloc _, q3.alloc _, own⟩)
  have t0 := k3.cell 0
  simp only [List.getElem?_cons_succ, List.getElem?_cons_zero] at t0
  have hne : w.heap.size ≠ w2.heap.size := by omega
  clear k2 k3 q3 own b2
  have c0 := H0.out.ev.cell 0
  have c1 := H0.out.ev.cell 1
  have c2 := H0.out.ev.cell 2
  have c3 := H0.out.ev.cell 3
  have c4 := H0.out.ev.cell 4
  have f1 := H0.out.has.cell 1
  have f2 := H0.out.has.cell 2
  have f4 := H0.out.has.cell 4
  have f5 := H0.out.has.cell 5
  simp only [List.getElem?_cons_succ, List.getElem?_cons_zero] at c0 c1 c2 c3 c4 f1 f2 f4 f5
  go_wp2_with fail
  refine (putInt_any _ i HI.out.1 HI.out.2).mono ?_
  rintro e x0 hm
  obtain ⟨Aq, cq, rfl, iq, Bq⟩ := hm.bs
  have G0 := Lib.hid (H0.out.step Bq)
  obtain ⟨ad, rfl, hn⟩ := in_cells iq (uB_pos _)
  have hM : ([UInt8.ofNat 2]).length + (Cd.uB (Cd.zig i)).length ≤ 6000000 := by simp only [List.length_append, List.length_cons, List.length_nil]; omega
  have hM1 : ([UInt8.ofNat 2]).length + (Cd.uB (Cd.zig i)).length ≤ maxLen := by unfold maxLen; omega
  have hM2 : (([UInt8.ofNat 2]).length + (Cd.uB (Cd.zig i)).length) * 1 ≤ 140737488355328 := by omega
  have HM1 := Lib.hid hM1
  have HM2 := Lib.hid hM2
  have HNW := Lib.hid hn
  clear hm iq Bq hn hM hM1 hM2 c0 c1 c2 c3 c4 f1 f2 f4 f5
  go_wp2_with (at_builtin; refine wpList_append_own_at _ rfl _ _ 22 rfl (w2.heap.size + 1) 5 i0 (.int .u8 0) 1 1 Try.underlying22 hi hz0 hz1 hz2 rfl (by decide) _ _ _ rfl G0.out.own ad _ _ (Cd.bytesV (Cd.uB (Cd.zig i))) rfl (bytesV_len _) HNW.out (bytes_one _) HM1.out HM2.out G0.out.size ?_; intro v0 y0 ho hg _ _; have H1 := Lib.hid (G0.out.app ho hg); have c0 := H1.out.ev.cell 0; have c1 := H1.out.ev.cell 1; have c2 := H1.out.ev.cell 2; have c3 := H1.out.ev.cell 3; have c4 := H1.out.ev.cell 4; have f1 := H1.out.has.cell 1; have f2 := H1.out.has.cell 2; have f4 := H1.out.has.cell 4; have f5 := H1.out.has.cell 5; simp only [List.getElem?_cons_succ, List.getElem?_cons_zero] at c0 c1 c2 c3 c4 f1 f2 f4 f5; clear ho hg)
  go_ret2
  have hev : evB ⟨2, id, nm, xs, i⟩ = [UInt8.ofNat 2] ++ Cd.uB (Cd.zig i) := by simp [evB, hasId, hasName, hasValue, hasInt]
  unfold MadeV
  rw [hev]
  exact ⟨_, rfl, H1.out.own.mono H1.out.lo, H1.out.bel⟩
set_option maxRecDepth 20000 in
set_option maxHeartbeats 4000000 in
theorem evBytes_3 (id : Nat) (nm : List UInt8) (xs : List Nd) (i : Int) (hx : EvRaw ⟨3, id, nm, xs, i⟩) (hok : evOk ⟨3, id, nm, xs, i⟩ = true) (A : Option Addr) (n cap : Nat) (w : World) (hv : VIn w A n xs) :
    Calls Try.prog 14 #[evV ⟨3, id, nm, xs, i⟩ A n cap] w (MadeV w (evB ⟨3, id, nm, xs, i⟩)) := by
  obtain ⟨i0, hi, hz0, hz1, hz2⟩ := info_parts info_u8
  have HC : Hid (∀ W, Below w.heap.size w W → Calls Try.prog 16 #[.agg #[.int .u8 (3 : Int), .int .i64 (id : Int), .string ⟨nm.toArray⟩, .slice A n cap, .int .i64 i]] W fun e w' => e = .returned (.int .i64 0) ∧ Below W.heap.size W w') := fun W hW => by
    have := evCheck_any ⟨3, id, nm, xs, i⟩ hx A n cap W (hv.below hW)
    rw [hok] at this
    exact this
  have HF : Hid (∀ W, Calls Try.prog 32 #[.int .u8 (3 : Int)] W fun e w' => e = .returned (.agg #[.bool true, .bool true, .bool true, .bool true, .bool true, .bool false, .int .i64 (hLeast 3), .int .i64 (hMost 3)]) ∧ Below W.heap.size W w') := fun W => fields_any 3 (by decide) W
  have lu : (Cd.uB id).length ≤ 10 := Cd.uB_len10 (by have := hx.id_le; simp only at this; omega)
  have lt : (Cd.textB nm).length ≤ 1000010 := by have := hx.name_le; simp only at this; have h2 := Cd.uB_len10 (n := nm.length) (by omega); simp only [Cd.textB, List.length_append]; omega
  have li : (Cd.uB (Cd.zig i)).length ≤ 10 := Cd.uB_len10 (zig_lt i hx.i64.1 hx.i64.2)
  have hVO := hx.ok rfl
  simp only at hVO
  have lv : (flatB xs).length ≤ 4300000 := by
    have h1 := flatB_len xs (fun y hy => by
      obtain ⟨j, hj, rfl⟩ := List.getElem_of_mem hy
      have := hVO.1.seq.fit j
      rw [List.getElem?_eq_getElem hj] at this
      exact ⟨this.1, hVO.2 _ hy, this.2.1⟩)
    have h2 := hVO.1.seq.few
    omega
  have HV := Lib.hid hVO
  have HI := Lib.hid hx.i64
  have HN : Hid (id ≤ 500 ∧ nm.length ≤ 1000000) := ⟨hx.id_le, hx.name_le⟩
  obtain ⟨g, rfl, rfl, hgw, hR⟩ : ∃ g, A = some ⟨g, 0, none⟩ ∧ n = xs.length ∧ g < w.heap.size ∧ RowOf w g xs := by
    rcases hv with ⟨h0, _⟩ | h0
    · have := hVO.1.pos; simp [h0] at this
    · exact h0
  have HR := Lib.hid hR
  have idr : (id : Int) ≤ 500 := by have := hx.id_le; simp only at this; omega
  clear hx hok hVO hR
  unfold evV
  go_enter Try.func14, Try.ntmps14
  go_wp2_with fail
  have b0 : Below w.heap.size w (w.alloc (.cells #[.int .u8 (3 : Int), .int .i64 (id : Int), .string ⟨nm.toArray⟩, .slice (some ⟨g, 0, none⟩) xs.length cap, .int .i64 i] 27)) := (Below.refl _ _).alloc (Nat.le_refl _) _
  have k0 : Blk (w.alloc (.cells #[.int .u8 (3 : Int), .int .i64 (id : Int), .string ⟨nm.toArray⟩, .slice (some ⟨g, 0, none⟩) xs.length cap, .int .i64 i] 27)) w.heap.size 27 [.int .u8 (3 : Int), .int .i64 (id : Int), .string ⟨nm.toArray⟩, .slice (some ⟨g, 0, none⟩) xs.length cap, .int .i64 i] := heap_alloc_new w _
  have s0 : w.heap.size < (w.alloc (.cells #[.int .u8 (3 : Int), .int .i64 (id : Int), .string ⟨nm.toArray⟩, .slice (some ⟨g, 0, none⟩) xs.length cap, .int .i64 i] 27)).heap.size := by simp
  refine (HC.out _ b0).mono ?_
  rintro e w1 ⟨rfl, B1⟩
  have k1 := k0.bel B1
  have b1 := b0.trans (B1.mono (Nat.le_of_lt s0))
  have s1 := Nat.lt_of_lt_of_le s0 B1.size
  have c0 := k1.cell 0
  simp only [List.getElem?_cons_succ, List.getElem?_cons_zero] at c0
  clear b0 k0 s0 B1
  go_wp2_with fail
  refine (HF.out _).mono ?_
  rintro e w2 ⟨rfl, B2⟩
  have k2 := k1.bel B2
  have b2 := b1.trans (B2.mono b1.size)
  have s2 := Nat.lt_of_lt_of_le s1 B2.size
  clear k1 b1 s1 B2 c0
  have k3 := k2.alloc (.cells #[.bool true, .bool true, .bool true, .bool true, .bool true, .bool false, .int .i64 (hLeast 3), .int .i64 (hMost 3)] 70)
  have q3 : Blk (w2.alloc (.cells #[.bool true, .bool true, .bool true, .bool true, .bool true, .bool false, .int .i64 (hLeast 3), .int .i64 (hMost 3)] 70)) w2.heap.size 70 [.bool true, .bool true, .bool true, .bool true, .bool true, .bool false, .int .i64 (hLeast 3), .int .i64 (hMost 3)] := heap_alloc_new w2 _
  have own : ((w2.alloc (.cells #[.bool true, .bool true, .bool true, .bool true, .bool true, .bool false, .int .i64 (hLeast 3), .int .i64 (hMost 3)] 70)).alloc (.cells #[.int .u8 (3 : Int)] 5)).ownsRow (w2.alloc (.cells #[.bool true, .bool true, .bool true, .bool true, .bool true, .bool false, .int .i64 (hLeast 3), .int .i64 (hMost 3)] 70)).heap.size 5 1 (.slice (some ⟨(w2.alloc (.cells #[.bool true, .bool true, .bool true, .bool true, .bool true, .bool false, .int .i64 (hLeast 3), .int .i64 (hMost 3)] 70)).heap.size, 0, none⟩) 1 1) ([UInt8.ofNat 3] : List UInt8).length (Cd.bytesV [UInt8.ofNat 3]) := own_build _ (UInt8.ofNat 3)
  rw [show (w2.alloc (.cells #[.bool true, .bool true, .bool true, .bool true, .bool true, .bool false, .int .i64 (hLeast 3), .int .i64 (hMost 3)] 70)).heap.size = w2.heap.size + 1 from by simp] at own
  have H0 := Lib.hid (show BW w ((w2.alloc (.cells #[.bool true, .bool true, .bool true, .bool true, .bool true, .bool false, .int .i64 (hLeast 3), .int .i64 (hMost 3)] 70)).alloc (.cells #[.int .u8 (3 : Int)] 5)) w.heap.size w2.heap.size (w2.heap.size + 1) [.int .u8 (3 : Int), .int .i64 (id : Int), .string ⟨nm.toArray⟩, .slice (some ⟨g, 0, none⟩) xs.length cap, .int .i64 i] [.bool true, .bool true, .bool true, .bool true, .bool true, .bool false, .int .i64 (hLeast 3), .int .i64 (hMost 3)] (.slice (some ⟨w2.heap.size + 1, 0, none⟩) 1 1) [UInt8.ofNat 3] from
    ⟨by omega, by simp, by omega, by omega, (b2.alloc (by omega) _).alloc (by simp; omega) _, k3.alloc _, q3.alloc _, own⟩)
  have t0 := k3.cell 0
  simp only [List.getElem?_cons_succ, List.getElem?_cons_zero] at t0
  have hne : w.heap.size ≠ w2.heap.size := by omega
  clear k2 k3 q3 own b2
  have c0 := H0.out.ev.cell 0
  have c1 := H0.out.ev.cell 1
  have c2 := H0.out.ev.cell 2
  have c3 := H0.out.ev.cell 3
  have c4 := H0.out.ev.cell 4
  have f1 := H0.out.has.cell 1
  have f2 := H0.out.has.cell 2
  have f4 := H0.out.has.cell 4
  have f5 := H0.out.has.cell 5
  simp only [List.getElem?_cons_succ, List.getElem?_cons_zero] at c0 c1 c2 c3 c4 f1 f2 f4 f5
  go_wp2_with fail
  refine (putUint_any _ id (by omega)).mono ?_
  rintro e x0 hm
  obtain ⟨Aq, cq, rfl, iq, Bq⟩ := hm.bs
  have G0 := Lib.hid (H0.out.step Bq)
  obtain ⟨ad, rfl, hn⟩ := in_cells iq (uB_pos _)
  have hM : ([UInt8.ofNat 3]).length + (Cd.uB id).length ≤ 6000000 := by simp only [List.length_append, List.length_cons, List.length_nil]; omega
  have hM1 : ([UInt8.ofNat 3]).length + (Cd.uB id).length ≤ maxLen := by unfold maxLen; omega
  have hM2 : (([UInt8.ofNat 3]).length + (Cd.uB id).length) * 1 ≤ 140737488355328 := by omega
  have HM1 := Lib.hid hM1
  have HM2 := Lib.hid hM2
  have HNW := Lib.hid hn
  clear hm iq Bq hn hM hM1 hM2 c0 c1 c2 c3 c4 f1 f2 f4 f5
  go_wp2_with (at_builtin; refine wpList_append_own_at _ rfl _ _ 22 rfl (w2.heap.size + 1) 5 i0 (.int .u8 0) 1 1 Try.underlying22 hi hz0 hz1 hz2 rfl (by decide) _ _ _ rfl G0.out.own ad _ _ (Cd.bytesV (Cd.uB id)) rfl (bytesV_len _) HNW.out (bytes_one _) HM1.out HM2.out G0.out.size ?_; intro v0 y0 ho hg _ _; have H1 := Lib.hid (G0.out.app ho hg); have c0 := H1.out.ev.cell 0; have c1 := H1.out.ev.cell 1; have c2 := H1.out.ev.cell 2; have c3 := H1.out.ev.cell 3; have c4 := H1.out.ev.cell 4; have f1 := H1.out.has.cell 1; have f2 := H1.out.has.cell 2; have f4 := H1.out.has.cell 4; have f5 := H1.out.has.cell 5; simp only [List.getElem?_cons_succ, List.getElem?_cons_zero] at c0 c1 c2 c3 c4 f1 f2 f4 f5; clear ho hg)
  refine (putText_any _ ⟨nm.toArray⟩ (by have := HN.out.2; show nm.toArray.size + 10 ≤ _; simp; omega)).mono ?_
  rintro e x1 hm
  replace hm : Made _ (Cd.textB nm) e x1 := hm
  obtain ⟨Aq, cq, rfl, iq, Bq⟩ := hm.bs
  have G1 := Lib.hid (H1.out.step Bq)
  obtain ⟨ad, rfl, hn⟩ := in_cells iq (by simp only [Cd.textB, List.length_append]; have := uB_pos nm.length; omega)
  have hM : ([UInt8.ofNat 3] ++ Cd.uB id).length + (Cd.textB nm).length ≤ 6000000 := by simp only [List.length_append, List.length_cons, List.length_nil]; omega
  have hM1 : ([UInt8.ofNat 3] ++ Cd.uB id).length + (Cd.textB nm).length ≤ maxLen := by unfold maxLen; omega
  have hM2 : (([UInt8.ofNat 3] ++ Cd.uB id).length + (Cd.textB nm).length) * 1 ≤ 140737488355328 := by omega
  have HM1 := Lib.hid hM1
  have HM2 := Lib.hid hM2
  have HNW := Lib.hid hn
  clear hm iq Bq hn hM hM1 hM2 c0 c1 c2 c3 c4 f1 f2 f4 f5
  go_wp2_with (at_builtin; refine wpList_append_own_at _ rfl _ _ 22 rfl (w2.heap.size + 1) 5 i0 (.int .u8 0) 1 1 Try.underlying22 hi hz0 hz1 hz2 rfl (by decide) _ _ _ rfl G1.out.own ad _ _ (Cd.bytesV (Cd.textB nm)) rfl (bytesV_len _) HNW.out (bytes_one _) HM1.out HM2.out G1.out.size ?_; intro v1 y1 ho hg _ _; have H2 := Lib.hid (G1.out.app ho hg); have c0 := H2.out.ev.cell 0; have c1 := H2.out.ev.cell 1; have c2 := H2.out.ev.cell 2; have c3 := H2.out.ev.cell 3; have c4 := H2.out.ev.cell 4; have f1 := H2.out.has.cell 1; have f2 := H2.out.has.cell 2; have f4 := H2.out.has.cell 4; have f5 := H2.out.has.cell 5; simp only [List.getElem?_cons_succ, List.getElem?_cons_zero] at c0 c1 c2 c3 c4 f1 f2 f4 f5; clear ho hg)
  refine (putValue_ok g cap xs HV.out.1 HV.out.2 _ (Nat.lt_of_lt_of_le hgw H2.out.bel.size) (HR.out.below H2.out.bel hgw)).mono ?_
  rintro e x2 hm
  obtain ⟨Aq, cq, rfl, iq, Bq⟩ := hm.bs
  have G2 := Lib.hid (H2.out.step Bq)
  obtain ⟨ad, rfl, hn⟩ := in_cells iq (flatB_pos HV.out.1)
  have hM : ([UInt8.ofNat 3] ++ Cd.uB id ++ Cd.textB nm).length + (flatB xs).length ≤ 6000000 := by simp only [List.length_append, List.length_cons, List.length_nil]; omega
  have hM1 : ([UInt8.ofNat 3] ++ Cd.uB id ++ Cd.textB nm).length + (flatB xs).length ≤ maxLen := by unfold maxLen; omega
  have hM2 : (([UInt8.ofNat 3] ++ Cd.uB id ++ Cd.textB nm).length + (flatB xs).length) * 1 ≤ 140737488355328 := by omega
  have HM1 := Lib.hid hM1
  have HM2 := Lib.hid hM2
  have HNW := Lib.hid hn
  clear hm iq Bq hn hM hM1 hM2 c0 c1 c2 c3 c4 f1 f2 f4 f5
  go_wp2_with (at_builtin; refine wpList_append_own_at _ rfl _ _ 22 rfl (w2.heap.size + 1) 5 i0 (.int .u8 0) 1 1 Try.underlying22 hi hz0 hz1 hz2 rfl (by decide) _ _ _ rfl G2.out.own ad _ _ (Cd.bytesV (flatB xs)) rfl (bytesV_len _) HNW.out (bytes_one _) HM1.out HM2.out G2.out.size ?_; intro v2 y2 ho hg _ _; have H3 := Lib.hid (G2.out.app ho hg); have c0 := H3.out.ev.cell 0; have c1 := H3.out.ev.cell 1; have c2 := H3.out.ev.cell 2; have c3 := H3.out.ev.cell 3; have c4 := H3.out.ev.cell 4; have f1 := H3.out.has.cell 1; have f2 := H3.out.has.cell 2; have f4 := H3.out.has.cell 4; have f5 := H3.out.has.cell 5; simp only [List.getElem?_cons_succ, List.getElem?_cons_zero] at c0 c1 c2 c3 c4 f1 f2 f4 f5; clear ho hg)
  go_ret2
  have hev : evB ⟨3, id, nm, xs, i⟩ = [UInt8.ofNat 3] ++ Cd.uB id ++ Cd.textB nm ++ flatB xs := by simp [evB, hasId, hasName, hasValue, hasInt]
  unfold MadeV
  rw [hev]
  exact ⟨_, rfl, H3.out.own.mono H3.out.lo, H3.out.bel⟩
set_option maxRecDepth 20000 in
set_option maxHeartbeats 4000000 in
theorem evBytes_4 (id : Nat) (nm : List UInt8) (xs : List Nd) (i : Int) (hx : EvRaw ⟨4, id, nm, xs, i⟩) (hok : evOk ⟨4, id, nm, xs, i⟩ = true) (A : Option Addr) (n cap : Nat) (w : World) (hv : VIn w A n xs) :
    Calls Try.prog 14 #[evV ⟨4, id, nm, xs, i⟩ A n cap] w (MadeV w (evB ⟨4, id, nm, xs, i⟩)) := by
  obtain ⟨i0, hi, hz0, hz1, hz2⟩ := info_parts info_u8
  have HC : Hid (∀ W, Below w.heap.size w W → Calls Try.prog 16 #[.agg #[.int .u8 (4 : Int), .int .i64 (id : Int), .string ⟨nm.toArray⟩, .slice A n cap, .int .i64 i]] W fun e w' => e = .returned (.int .i64 0) ∧ Below W.heap.size W w') := fun W hW => by
    have := evCheck_any ⟨4, id, nm, xs, i⟩ hx A n cap W (hv.below hW)
    rw [hok] at this
    exact this
  have HF : Hid (∀ W, Calls Try.prog 32 #[.int .u8 (4 : Int)] W fun e w' => e = .returned (.agg #[.bool true, .bool true, .bool false, .bool false, .bool false, .bool true, .int .i64 (hLeast 4), .int .i64 (hMost 4)]) ∧ Below W.heap.size W w') := fun W => fields_any 4 (by decide) W
  have lu : (Cd.uB id).length ≤ 10 := Cd.uB_len10 (by have := hx.id_le; simp only at this; omega)
  have lt : (Cd.textB nm).length ≤ 1000010 := by have := hx.name_le; simp only at this; have h2 := Cd.uB_len10 (n := nm.length) (by omega); simp only [Cd.textB, List.length_append]; omega
  have li : (Cd.uB (Cd.zig i)).length ≤ 10 := Cd.uB_len10 (zig_lt i hx.i64.1 hx.i64.2)
  have HI := Lib.hid hx.i64
  have HN : Hid (id ≤ 500 ∧ nm.length ≤ 1000000) := ⟨hx.id_le, hx.name_le⟩
  have idr : (id : Int) ≤ 500 := by have := hx.id_le; simp only at this; omega
  clear hx hok hv
  unfold evV
  go_enter Try.func14, Try.ntmps14
  go_wp2_with fail
  have b0 : Below w.heap.size w (w.alloc (.cells #[.int .u8 (4 : Int), .int .i64 (id : Int), .string ⟨nm.toArray⟩, .slice A n cap, .int .i64 i] 27)) := (Below.refl _ _).alloc (Nat.le_refl _) _
  have k0 : Blk (w.alloc (.cells #[.int .u8 (4 : Int), .int .i64 (id : Int), .string ⟨nm.toArray⟩, .slice A n cap, .int .i64 i] 27)) w.heap.size 27 [.int .u8 (4 : Int), .int .i64 (id : Int), .string ⟨nm.toArray⟩, .slice A n cap, .int .i64 i] := heap_alloc_new w _
  have s0 : w.heap.size < (w.alloc (.cells #[.int .u8 (4 : Int), .int .i64 (id : Int), .string ⟨nm.toArray⟩, .slice A n cap, .int .i64 i] 27)).heap.size := by simp
  refine (HC.out _ b0).mono ?_
  rintro e w1 ⟨rfl, B1⟩
  have k1 := k0.bel B1
  have b1 := b0.trans (B1.mono (Nat.le_of_lt s0))
  have s1 := Nat.lt_of_lt_of_le s0 B1.size
  have c0 := k1.cell 0
  simp only [List.getElem?_cons_succ, List.getElem?_cons_zero] at c0
  clear b0 k0 s0 B1
  go_wp2_with fail
  refine (HF.out _).mono ?_
  rintro e w2 ⟨rfl, B2⟩
  have k2 := k1.bel B2
  have b2 := b1.trans (B2.mono b1.size)
  have s2 := Nat.lt_of_lt_of_le s1 B2.size
  clear k1 b1 s1 B2 c0
  have k3 := k2.alloc (.cells #[.bool true, .bool true, .bool false, .bool false, .bool false, .bool true, .int .i64 (hLeast 4), .int .i64 (hMost 4)] 70)
  have q3 : Blk (w2.alloc (.cells #[.bool true, .bool true, .bool false, .bool false, .bool false, .bool true, .int .i64 (hLeast 4), .int .i64 (hMost 4)] 70)) w2.heap.size 70 [.bool true, .bool true, .bool false, .bool false, .bool false, .bool true, .int .i64 (hLeast 4), .int .i64 (hMost 4)] := heap_alloc_new w2 _
  have own : ((w2.alloc (.cells #[.bool true, .bool true, .bool false, .bool false, .bool false, .bool true, .int .i64 (hLeast 4), .int .i64 (hMost 4)] 70)).alloc (.cells #[.int .u8 (4 : Int)] 5)).ownsRow (w2.alloc (.cells #[.bool true, .bool true, .bool false, .bool false, .bool false, .bool true, .int .i64 (hLeast 4), .int .i64 (hMost 4)] 70)).heap.size 5 1 (.slice (some ⟨(w2.alloc (.cells #[.bool true, .bool true, .bool false, .bool false, .bool false, .bool true, .int .i64 (hLeast 4), .int .i64 (hMost 4)] 70)).heap.size, 0, none⟩) 1 1) ([UInt8.ofNat 4] : List UInt8).length (Cd.bytesV [UInt8.ofNat 4]) := own_build _ (UInt8.ofNat 4)
  rw [show (w2.alloc (.cells #[.bool true, .bool true, .bool false, .bool false, .bool false, .bool true, .int .i64 (hLeast 4), .int .i64 (hMost 4)] 70)).heap.size = w2.heap.size + 1 from by simp] at own
  have H0 := Lib.hid (show BW w ((w2.alloc (.cells #[.bool true, .bool true, .bool false, .bool false, .bool false, .bool true, .int .i64 (hLeast 4), .int .i64 (hMost 4)] 70)).alloc (.cells #[.int .u8 (4 : Int)] 5)) w.heap.size w2.heap.size (w2.heap.size + 1) [.int .u8 (4 : Int), .int .i64 (id : Int), .string ⟨nm.toArray⟩, .slice A n cap, .int .i64 i] [.bool true, .bool true, .bool false, .bool false, .bool false, .bool true, .int .i64 (hLeast 4), .int .i64 (hMost 4)] (.slice (some ⟨w2.heap.size + 1, 0, none⟩) 1 1) [UInt8.ofNat 4] from
    ⟨by omega, by simp, by omega, by omega, (b2.alloc (by omega) _).alloc (by simp; omega) _, k3.alloc _, q3.alloc _, own⟩)
  have t0 := k3.cell 0
  simp only [List.getElem?_cons_succ, List.getElem?_cons_zero] at t0
  have hne : w.heap.size ≠ w2.heap.size := by omega
  clear k2 k3 q3 own b2
  have c0 := H0.out.ev.cell 0
  have c1 := H0.out.ev.cell 1
  have c2 := H0.out.ev.cell 2
  have c3 := H0.out.ev.cell 3
  have c4 := H0.out.ev.cell 4
  have f1 := H0.out.has.cell 1
  have f2 := H0.out.has.cell 2
  have f4 := H0.out.has.cell 4
  have f5 := H0.out.has.cell 5
  simp only [List.getElem?_cons_succ, List.getElem?_cons_zero] at c0 c1 c2 c3 c4 f1 f2 f4 f5
  go_wp2_with fail
  refine (putUint_any _ id (by omega)).mono ?_
  rintro e x0 hm
  obtain ⟨Aq, cq, rfl, iq, Bq⟩ := hm.bs
  have G0 := Lib.hid (H0.out.step Bq)
  obtain ⟨ad, rfl, hn⟩ := in_cells iq (uB_pos _)
  have hM : ([UInt8.ofNat 4]).length + (Cd.uB id).length ≤ 6000000 := by simp only [List.length_append, List.length_cons, List.length_nil]; omega
  have hM1 : ([UInt8.ofNat 4]).length + (Cd.uB id).length ≤ maxLen := by unfold maxLen; omega
  have hM2 : (([UInt8.ofNat 4]).length + (Cd.uB id).length) * 1 ≤ 140737488355328 := by omega
  have HM1 := Lib.hid hM1
  have HM2 := Lib.hid hM2
  have HNW := Lib.hid hn
  clear hm iq Bq hn hM hM1 hM2 c0 c1 c2 c3 c4 f1 f2 f4 f5
  go_wp2_with (at_builtin; refine wpList_append_own_at _ rfl _ _ 22 rfl (w2.heap.size + 1) 5 i0 (.int .u8 0) 1 1 Try.underlying22 hi hz0 hz1 hz2 rfl (by decide) _ _ _ rfl G0.out.own ad _ _ (Cd.bytesV (Cd.uB id)) rfl (bytesV_len _) HNW.out (bytes_one _) HM1.out HM2.out G0.out.size ?_; intro v0 y0 ho hg _ _; have H1 := Lib.hid (G0.out.app ho hg); have c0 := H1.out.ev.cell 0; have c1 := H1.out.ev.cell 1; have c2 := H1.out.ev.cell 2; have c3 := H1.out.ev.cell 3; have c4 := H1.out.ev.cell 4; have f1 := H1.out.has.cell 1; have f2 := H1.out.has.cell 2; have f4 := H1.out.has.cell 4; have f5 := H1.out.has.cell 5; simp only [List.getElem?_cons_succ, List.getElem?_cons_zero] at c0 c1 c2 c3 c4 f1 f2 f4 f5; clear ho hg)
  refine (putInt_any _ i HI.out.1 HI.out.2).mono ?_
  rintro e x1 hm
  obtain ⟨Aq, cq, rfl, iq, Bq⟩ := hm.bs
  have G1 := Lib.hid (H1.out.step Bq)
  obtain ⟨ad, rfl, hn⟩ := in_cells iq (uB_pos _)
  have hM : ([UInt8.ofNat 4] ++ Cd.uB id).length + (Cd.uB (Cd.zig i)).length ≤ 6000000 := by simp only [List.length_append, List.length_cons, List.length_nil]; omega
  have hM1 : ([UInt8.ofNat 4] ++ Cd.uB id).length + (Cd.uB (Cd.zig i)).length ≤ maxLen := by unfold maxLen; omega
  have hM2 : (([UInt8.ofNat 4] ++ Cd.uB id).length + (Cd.uB (Cd.zig i)).length) * 1 ≤ 140737488355328 := by omega
  have HM1 := Lib.hid hM1
  have HM2 := Lib.hid hM2
  have HNW := Lib.hid hn
  clear hm iq Bq hn hM hM1 hM2 c0 c1 c2 c3 c4 f1 f2 f4 f5
  go_wp2_with (at_builtin; refine wpList_append_own_at _ rfl _ _ 22 rfl (w2.heap.size + 1) 5 i0 (.int .u8 0) 1 1 Try.underlying22 hi hz0 hz1 hz2 rfl (by decide) _ _ _ rfl G1.out.own ad _ _ (Cd.bytesV (Cd.uB (Cd.zig i))) rfl (bytesV_len _) HNW.out (bytes_one _) HM1.out HM2.out G1.out.size ?_; intro v1 y1 ho hg _ _; have H2 := Lib.hid (G1.out.app ho hg); have c0 := H2.out.ev.cell 0; have c1 := H2.out.ev.cell 1; have c2 := H2.out.ev.cell 2; have c3 := H2.out.ev.cell 3; have c4 := H2.out.ev.cell 4; have f1 := H2.out.has.cell 1; have f2 := H2.out.has.cell 2; have f4 := H2.out.has.cell 4; have f5 := H2.out.has.cell 5; simp only [List.getElem?_cons_succ, List.getElem?_cons_zero] at c0 c1 c2 c3 c4 f1 f2 f4 f5; clear ho hg)
  go_ret2
  have hev : evB ⟨4, id, nm, xs, i⟩ = [UInt8.ofNat 4] ++ Cd.uB id ++ Cd.uB (Cd.zig i) := by simp [evB, hasId, hasName, hasValue, hasInt]
  unfold MadeV
  rw [hev]
  exact ⟨_, rfl, H2.out.own.mono H2.out.lo, H2.out.bel⟩
set_option maxRecDepth 20000 in
set_option maxHeartbeats 4000000 in
theorem evBytes_5 (id : Nat) (nm : List UInt8) (xs : List Nd) (i : Int) (hx : EvRaw ⟨5, id, nm, xs, i⟩) (hok : evOk ⟨5, id, nm, xs, i⟩ = true) (A : Option Addr) (n cap : Nat) (w : World) (hv : VIn w A n xs) :
    Calls Try.prog 14 #[evV ⟨5, id, nm, xs, i⟩ A n cap] w (MadeV w (evB ⟨5, id, nm, xs, i⟩)) := by
  obtain ⟨i0, hi, hz0, hz1, hz2⟩ := info_parts info_u8
  have HC : Hid (∀ W, Below w.heap.size w W → Calls Try.prog 16 #[.agg #[.int .u8 (5 : Int), .int .i64 (id : Int), .string ⟨nm.toArray⟩, .slice A n cap, .int .i64 i]] W fun e w' => e = .returned (.int .i64 0) ∧ Below W.heap.size W w') := fun W hW => by
    have := evCheck_any ⟨5, id, nm, xs, i⟩ hx A n cap W (hv.below hW)
    rw [hok] at this
    exact this
  have HF : Hid (∀ W, Calls Try.prog 32 #[.int .u8 (5 : Int)] W fun e w' => e = .returned (.agg #[.bool true, .bool true, .bool true, .bool true, .bool true, .bool false, .int .i64 (hLeast 5), .int .i64 (hMost 5)]) ∧ Below W.heap.size W w') := fun W => fields_any 5 (by decide) W
  have lu : (Cd.uB id).length ≤ 10 := Cd.uB_len10 (by have := hx.id_le; simp only at this; omega)
  have lt : (Cd.textB nm).length ≤ 1000010 := by have := hx.name_le; simp only at this; have h2 := Cd.uB_len10 (n := nm.length) (by omega); simp only [Cd.textB, List.length_append]; omega
  have li : (Cd.uB (Cd.zig i)).length ≤ 10 := Cd.uB_len10 (zig_lt i hx.i64.1 hx.i64.2)
  have hVO := hx.ok rfl
  simp only at hVO
  have lv : (flatB xs).length ≤ 4300000 := by
    have h1 := flatB_len xs (fun y hy => by
      obtain ⟨j, hj, rfl⟩ := List.getElem_of_mem hy
      have := hVO.1.seq.fit j
      rw [List.getElem?_eq_getElem hj] at this
      exact ⟨this.1, hVO.2 _ hy, this.2.1⟩)
    have h2 := hVO.1.seq.few
    omega
  have HV := Lib.hid hVO
  have HI := Lib.hid hx.i64
  have HN : Hid (id ≤ 500 ∧ nm.length ≤ 1000000) := ⟨hx.id_le, hx.name_le⟩
  obtain ⟨g, rfl, rfl, hgw, hR⟩ : ∃ g, A = some ⟨g, 0, none⟩ ∧ n = xs.length ∧ g < w.heap.size ∧ RowOf w g xs := by
    rcases hv with ⟨h0, _⟩ | h0
    · have := hVO.1.pos; simp [h0] at this
    · exact h0
  have HR := Lib.hid hR
  have idr : (id : Int) ≤ 500 := by have := hx.id_le; simp only at this; omega
  clear hx hok hVO hR
  unfold evV
  go_enter Try.func14, Try.ntmps14
  go_wp2_with fail
  have b0 : Below w.heap.size w (w.alloc (.cells #[.int .u8 (5 : Int), .int .i64 (id : Int), .string ⟨nm.toArray⟩, .slice (some ⟨g, 0, none⟩) xs.length cap, .int .i64 i] 27)) := (Below.refl _ _).alloc (Nat.le_refl _) _
  have k0 : Blk (w.alloc (.cells #[.int .u8 (5 : Int), .int .i64 (id : Int), .string ⟨nm.toArray⟩, .slice (some ⟨g, 0, none⟩) xs.length cap, .int .i64 i] 27)) w.heap.size 27 [.int .u8 (5 : Int), .int .i64 (id : Int), .string ⟨nm.toArray⟩, .slice (some ⟨g, 0, none⟩) xs.length cap, .int .i64 i] := heap_alloc_new w _
  have s0 : w.heap.size < (w.alloc (.cells #[.int .u8 (5 : Int), .int .i64 (id : Int), .string ⟨nm.toArray⟩, .slice (some ⟨g, 0, none⟩) xs.length cap, .int .i64 i] 27)).heap.size := by simp
  refine (HC.out _ b0).mono ?_
  rintro e w1 ⟨rfl, B1⟩
  have k1 := k0.bel B1
  have b1 := b0.trans (B1.mono (Nat.le_of_lt s0))
  have s1 := Nat.lt_of_lt_of_le s0 B1.size
  have c0 := k1.cell 0
  simp only [List.getElem?_cons_succ, List.getElem?_cons_zero] at c0
  clear b0 k0 s0 B1
  go_wp2_with fail
  refine (HF.out _).mono ?_
  rintro e w2 ⟨rfl, B2⟩
  have k2 := k1.bel B2
  have b2 := b1.trans (B2.mono b1.size)
  have s2 := Nat.lt_of_lt_of_le s1 B2.size
  clear k1 b1 s1 B2 c0
  have k3 := k2.alloc (.cells #[.bool true, .bool true, .bool true, .bool true, .bool true, .bool false, .int .i64 (hLeast 5), .int .i64 (hMost 5)] 70)
  have q3 : Blk (w2.alloc (.cells #[.bool true, .bool true, .bool true, .bool true, .bool true, .bool false, .int .i64 (hLeast 5), .int .i64 (hMost 5)] 70)) w2.heap.size 70 [.bool true, .bool true, .bool true, .bool true, .bool true, .bool false, .int .i64 (hLeast 5), .int .i64 (hMost 5)] := heap_alloc_new w2 _
  have own : ((w2.alloc (.cells #[.bool true, .bool true, .bool true, .bool true, .bool true, .bool false, .int .i64 (hLeast 5), .int .i64 (hMost 5)] 70)).alloc (.cells #[.int .u8 (5 : Int)] 5)).ownsRow (w2.alloc (.cells #[.bool true, .bool true, .bool true, .bool true, .bool true, .bool false, .int .i64 (hLeast 5), .int .i64 (hMost 5)] 70)).heap.size 5 1 (.slice (some ⟨(w2.alloc (.cells #[.bool true, .bool true, .bool true, .bool true, .bool true, .bool false, .int .i64 (hLeast 5), .int .i64 (hMost 5)] 70)).heap.size, 0, none⟩) 1 1) ([UInt8.ofNat 5] : List UInt8).length (Cd.bytesV [UInt8.ofNat 5]) := own_build _ (UInt8.ofNat 5)
  rw [show (w2.alloc (.cells #[.bool true, .bool true, .bool true, .bool true, .bool true, .bool false, .int .i64 (hLeast 5), .int .i64 (hMost 5)] 70)).heap.size = w2.heap.size + 1 from by simp] at own
  have H0 := Lib.hid (show BW w ((w2.alloc (.cells #[.bool true, .bool true, .bool true, .bool true, .bool true, .bool false, .int .i64 (hLeast 5), .int .i64 (hMost 5)] 70)).alloc (.cells #[.int .u8 (5 : Int)] 5)) w.heap.size w2.heap.size (w2.heap.size + 1) [.int .u8 (5 : Int), .int .i64 (id : Int), .string ⟨nm.toArray⟩, .slice (some ⟨g, 0, none⟩) xs.length cap, .int .i64 i] [.bool true, .bool true, .bool true, .bool true, .bool true, .bool false, .int .i64 (hLeast 5), .int .i64 (hMost 5)] (.slice (some ⟨w2.heap.size + 1, 0, none⟩) 1 1) [UInt8.ofNat 5] from
    ⟨by omega, by simp, by omega, by omega, (b2.alloc (by omega) _).alloc (by simp; omega) _, k3.alloc _, q3.alloc _, own⟩)
  have t0 := k3.cell 0
  simp only [List.getElem?_cons_succ, List.getElem?_cons_zero] at t0
  have hne : w.heap.size ≠ w2.heap.size := by omega
  clear k2 k3 q3 own b2
  have c0 := H0.out.ev.cell 0
  have c1 := H0.out.ev.cell 1
  have c2 := H0.out.ev.cell 2
  have c3 := H0.out.ev.cell 3
  have c4 := H0.out.ev.cell 4
  have f1 := H0.out.has.cell 1
  have f2 := H0.out.has.cell 2
  have f4 := H0.out.has.cell 4
  have f5 := H0.out.has.cell 5
  simp only [List.getElem?_cons_succ, List.getElem?_cons_zero] at c0 c1 c2 c3 c4 f1 f2 f4 f5
  go_wp2_with fail
  refine (putUint_any _ id (by omega)).mono ?_
  rintro e x0 hm
  obtain ⟨Aq, cq, rfl, iq, Bq⟩ := hm.bs
  have G0 := Lib.hid (H0.out.step Bq)
  obtain ⟨ad, rfl, hn⟩ := in_cells iq (uB_pos _)
  have hM : ([UInt8.ofNat 5]).length + (Cd.uB id).length ≤ 6000000 := by simp only [List.length_append, List.length_cons, List.length_nil]; omega
  have hM1 : ([UInt8.ofNat 5]).length + (Cd.uB id).length ≤ maxLen := by unfold maxLen; omega
  have hM2 : (([UInt8.ofNat 5]).length + (Cd.uB id).length) * 1 ≤ 140737488355328 := by omega
  have HM1 := Lib.hid hM1
  have HM2 := Lib.hid hM2
  have HNW := Lib.hid hn
  clear hm iq Bq hn hM hM1 hM2 c0 c1 c2 c3 c4 f1 f2 f4 f5
  go_wp2_with (at_builtin; refine wpList_append_own_at _ rfl _ _ 22 rfl (w2.heap.size + 1) 5 i0 (.int .u8 0) 1 1 Try.underlying22 hi hz0 hz1 hz2 rfl (by decide) _ _ _ rfl G0.out.own ad _ _ (Cd.bytesV (Cd.uB id)) rfl (bytesV_len _) HNW.out (bytes_one _) HM1.out HM2.out G0.out.size ?_; intro v0 y0 ho hg _ _; have H1 := Lib.hid (G0.out.app ho hg); have c0 := H1.out.ev.cell 0; have c1 := H1.out.ev.cell 1; have c2 := H1.out.ev.cell 2; have c3 := H1.out.ev.cell 3; have c4 := H1.out.ev.cell 4; have f1 := H1.out.has.cell 1; have f2 := H1.out.has.cell 2; have f4 := H1.out.has.cell 4; have f5 := H1.out.has.cell 5; simp only [List.getElem?_cons_succ, List.getElem?_cons_zero] at c0 c1 c2 c3 c4 f1 f2 f4 f5; clear ho hg)
  refine (putText_any _ ⟨nm.toArray⟩ (by have := HN.out.2; show nm.toArray.size + 10 ≤ _; simp; omega)).mono ?_
  rintro e x1 hm
  replace hm : Made _ (Cd.textB nm) e x1 := hm
  obtain ⟨Aq, cq, rfl, iq, Bq⟩ := hm.bs
  have G1 := Lib.hid (H1.out.step Bq)
  obtain ⟨ad, rfl, hn⟩ := in_cells iq (by simp only [Cd.textB, List.length_append]; have := uB_pos nm.length; omega)
  have hM : ([UInt8.ofNat 5] ++ Cd.uB id).length + (Cd.textB nm).length ≤ 6000000 := by simp only [List.length_append, List.length_cons, List.length_nil]; omega
  have hM1 : ([UInt8.ofNat 5] ++ Cd.uB id).length + (Cd.textB nm).length ≤ maxLen := by unfold maxLen; omega
  have hM2 : (([UInt8.ofNat 5] ++ Cd.uB id).length + (Cd.textB nm).length) * 1 ≤ 140737488355328 := by omega
  have HM1 := Lib.hid hM1
  have HM2 := Lib.hid hM2
  have HNW := Lib.hid hn
  clear hm iq Bq hn hM hM1 hM2 c0 c1 c2 c3 c4 f1 f2 f4 f5
  go_wp2_with (at_builtin; refine wpList_append_own_at _ rfl _ _ 22 rfl (w2.heap.size + 1) 5 i0 (.int .u8 0) 1 1 Try.underlying22 hi hz0 hz1 hz2 rfl (by decide) _ _ _ rfl G1.out.own ad _ _ (Cd.bytesV (Cd.textB nm)) rfl (bytesV_len _) HNW.out (bytes_one _) HM1.out HM2.out G1.out.size ?_; intro v1 y1 ho hg _ _; have H2 := Lib.hid (G1.out.app ho hg); have c0 := H2.out.ev.cell 0; have c1 := H2.out.ev.cell 1; have c2 := H2.out.ev.cell 2; have c3 := H2.out.ev.cell 3; have c4 := H2.out.ev.cell 4; have f1 := H2.out.has.cell 1; have f2 := H2.out.has.cell 2; have f4 := H2.out.has.cell 4; have f5 := H2.out.has.cell 5; simp only [List.getElem?_cons_succ, List.getElem?_cons_zero] at c0 c1 c2 c3 c4 f1 f2 f4 f5; clear ho hg)
  refine (putValue_ok g cap xs HV.out.1 HV.out.2 _ (Nat.lt_of_lt_of_le hgw H2.out.bel.size) (HR.out.below H2.out.bel hgw)).mono ?_
  rintro e x2 hm
  obtain ⟨Aq, cq, rfl, iq, Bq⟩ := hm.bs
  have G2 := Lib.hid (H2.out.step Bq)
  obtain ⟨ad, rfl, hn⟩ := in_cells iq (flatB_pos HV.out.1)
  have hM : ([UInt8.ofNat 5] ++ Cd.uB id ++ Cd.textB nm).length + (flatB xs).length ≤ 6000000 := by simp only [List.length_append, List.length_cons, List.length_nil]; omega
  have hM1 : ([UInt8.ofNat 5] ++ Cd.uB id ++ Cd.textB nm).length + (flatB xs).length ≤ maxLen := by unfold maxLen; omega
  have hM2 : (([UInt8.ofNat 5] ++ Cd.uB id ++ Cd.textB nm).length + (flatB xs).length) * 1 ≤ 140737488355328 := by omega
  have HM1 := Lib.hid hM1
  have HM2 := Lib.hid hM2
  have HNW := Lib.hid hn
  clear hm iq Bq hn hM hM1 hM2 c0 c1 c2 c3 c4 f1 f2 f4 f5
  go_wp2_with (at_builtin; refine wpList_append_own_at _ rfl _ _ 22 rfl (w2.heap.size + 1) 5 i0 (.int .u8 0) 1 1 Try.underlying22 hi hz0 hz1 hz2 rfl (by decide) _ _ _ rfl G2.out.own ad _ _ (Cd.bytesV (flatB xs)) rfl (bytesV_len _) HNW.out (bytes_one _) HM1.out HM2.out G2.out.size ?_; intro v2 y2 ho hg _ _; have H3 := Lib.hid (G2.out.app ho hg); have c0 := H3.out.ev.cell 0; have c1 := H3.out.ev.cell 1; have c2 := H3.out.ev.cell 2; have c3 := H3.out.ev.cell 3; have c4 := H3.out.ev.cell 4; have f1 := H3.out.has.cell 1; have f2 := H3.out.has.cell 2; have f4 := H3.out.has.cell 4; have f5 := H3.out.has.cell 5; simp only [List.getElem?_cons_succ, List.getElem?_cons_zero] at c0 c1 c2 c3 c4 f1 f2 f4 f5; clear ho hg)
  go_ret2
  have hev : evB ⟨5, id, nm, xs, i⟩ = [UInt8.ofNat 5] ++ Cd.uB id ++ Cd.textB nm ++ flatB xs := by simp [evB, hasId, hasName, hasValue, hasInt]
  unfold MadeV
  rw [hev]
  exact ⟨_, rfl, H3.out.own.mono H3.out.lo, H3.out.bel⟩
set_option maxRecDepth 20000 in
set_option maxHeartbeats 4000000 in
theorem evBytes_6 (id : Nat) (nm : List UInt8) (xs : List Nd) (i : Int) (hx : EvRaw ⟨6, id, nm, xs, i⟩) (hok : evOk ⟨6, id, nm, xs, i⟩ = true) (A : Option Addr) (n cap : Nat) (w : World) (hv : VIn w A n xs) :
    Calls Try.prog 14 #[evV ⟨6, id, nm, xs, i⟩ A n cap] w (MadeV w (evB ⟨6, id, nm, xs, i⟩)) := by
  obtain ⟨i0, hi, hz0, hz1, hz2⟩ := info_parts info_u8
  have HC : Hid (∀ W, Below w.heap.size w W → Calls Try.prog 16 #[.agg #[.int .u8 (6 : Int), .int .i64 (id : Int), .string ⟨nm.toArray⟩, .slice A n cap, .int .i64 i]] W fun e w' => e = .returned (.int .i64 0) ∧ Below W.heap.size W w') := fun W hW => by
    have := evCheck_any ⟨6, id, nm, xs, i⟩ hx A n cap W (hv.below hW)
    rw [hok] at this
    exact this
  have HF : Hid (∀ W, Calls Try.prog 32 #[.int .u8 (6 : Int)] W fun e w' => e = .returned (.agg #[.bool true, .bool false, .bool false, .bool false, .bool true, .bool false, .int .i64 (hLeast 6), .int .i64 (hMost 6)]) ∧ Below W.heap.size W w') := fun W => fields_any 6 (by decide) W
  have lu : (Cd.uB id).length ≤ 10 := Cd.uB_len10 (by have := hx.id_le; simp only at this; omega)
  have lt : (Cd.textB nm).length ≤ 1000010 := by have := hx.name_le; simp only at this; have h2 := Cd.uB_len10 (n := nm.length) (by omega); simp only [Cd.textB, List.length_append]; omega
  have li : (Cd.uB (Cd.zig i)).length ≤ 10 := Cd.uB_len10 (zig_lt i hx.i64.1 hx.i64.2)
  have hVO := hx.ok rfl
  simp only at hVO
  have lv : (flatB xs).length ≤ 4300000 := by
    have h1 := flatB_len xs (fun y hy => by
      obtain ⟨j, hj, rfl⟩ := List.getElem_of_mem hy
      have := hVO.1.seq.fit j
      rw [List.getElem?_eq_getElem hj] at this
      exact ⟨this.1, hVO.2 _ hy, this.2.1⟩)
    have h2 := hVO.1.seq.few
    omega
  have HV := Lib.hid hVO
  have HI := Lib.hid hx.i64
  have HN : Hid (id ≤ 500 ∧ nm.length ≤ 1000000) := ⟨hx.id_le, hx.name_le⟩
  obtain ⟨g, rfl, rfl, hgw, hR⟩ : ∃ g, A = some ⟨g, 0, none⟩ ∧ n = xs.length ∧ g < w.heap.size ∧ RowOf w g xs := by
    rcases hv with ⟨h0, _⟩ | h0
    · have := hVO.1.pos; simp [h0] at this
    · exact h0
  have HR := Lib.hid hR
  have idr : (id : Int) ≤ 500 := by have := hx.id_le; simp only at this; omega
  clear hx hok hVO hR
  unfold evV
  go_enter Try.func14, Try.ntmps14
  go_wp2_with fail
  have b0 : Below w.heap.size w (w.alloc (.cells #[.int .u8 (6 : Int), .int .i64 (id : Int), .string ⟨nm.toArray⟩, .slice (some ⟨g, 0, none⟩) xs.length cap, .int .i64 i] 27)) := (Below.refl _ _).alloc (Nat.le_refl _) _
  have k0 : Blk (w.alloc (.cells #[.int .u8 (6 : Int), .int .i64 (id : Int), .string ⟨nm.toArray⟩, .slice (some ⟨g, 0, none⟩) xs.length cap, .int .i64 i] 27)) w.heap.size 27 [.int .u8 (6 : Int), .int .i64 (id : Int), .string ⟨nm.toArray⟩, .slice (some ⟨g, 0, none⟩) xs.length cap, .int .i64 i] := heap_alloc_new w _
  have s0 : w.heap.size < (w.alloc (.cells #[.int .u8 (6 : Int), .int .i64 (id : Int), .string ⟨nm.toArray⟩, .slice (some ⟨g, 0, none⟩) xs.length cap, .int .i64 i] 27)).heap.size := by simp
  refine (HC.out _ b0).mono ?_
  rintro e w1 ⟨rfl, B1⟩
  have k1 := k0.bel B1
  have b1 := b0.trans (B1.mono (Nat.le_of_lt s0))
  have s1 := Nat.lt_of_lt_of_le s0 B1.size
  have c0 := k1.cell 0
  simp only [List.getElem?_cons_succ, List.getElem?_cons_zero] at c0
  clear b0 k0 s0 B1
  go_wp2_with fail
  refine (HF.out _).mono ?_
  rintro e w2 ⟨rfl, B2⟩
  have k2 := k1.bel B2
  have b2 := b1.trans (B2.mono b1.size)
  have s2 := Nat.lt_of_lt_of_le s1 B2.size
  clear k1 b1 s1 B2 c0
  have k3 := k2.alloc (.cells #[.bool true, .bool false, .bool false, .bool false, .bool true, .bool false, .int .i64 (hLeast 6), .int .i64 (hMost 6)] 70)
  have q3 : Blk (w2.alloc (.cells #[.bool true, .bool false, .bool false, .bool false, .bool true, .bool false, .int .i64 (hLeast 6), .int .i64 (hMost 6)] 70)) w2.heap.size 70 [.bool true, .bool false, .bool false, .bool false, .bool true, .bool false, .int .i64 (hLeast 6), .int .i64 (hMost 6)] := heap_alloc_new w2 _
  have own : ((w2.alloc (.cells #[.bool true, .bool false, .bool false, .bool false, .bool true, .bool false, .int .i64 (hLeast 6), .int .i64 (hMost 6)] 70)).alloc (.cells #[.int .u8 (6 : Int)] 5)).ownsRow (w2.alloc (.cells #[.bool true, .bool false, .bool false, .bool false, .bool true, .bool false, .int .i64 (hLeast 6), .int .i64 (hMost 6)] 70)).heap.size 5 1 (.slice (some ⟨(w2.alloc (.cells #[.bool true, .bool false, .bool false, .bool false, .bool true, .bool false, .int .i64 (hLeast 6), .int .i64 (hMost 6)] 70)).heap.size, 0, none⟩) 1 1) ([UInt8.ofNat 6] : List UInt8).length (Cd.bytesV [UInt8.ofNat 6]) := own_build _ (UInt8.ofNat 6)
  rw [show (w2.alloc (.cells #[.bool true, .bool false, .bool false, .bool false, .bool true, .bool false, .int .i64 (hLeast 6), .int .i64 (hMost 6)] 70)).heap.size = w2.heap.size + 1 from by simp] at own
  have H0 := Lib.hid (show BW w ((w2.alloc (.cells #[.bool true, .bool false, .bool false, .bool false, .bool true, .bool false, .int .i64 (hLeast 6), .int .i64 (hMost 6)] 70)).alloc (.cells #[.int .u8 (6 : Int)] 5)) w.heap.size w2.heap.size (w2.heap.size + 1) [.int .u8 (6 : Int), .int .i64 (id : Int), .string ⟨nm.toArray⟩, .slice (some ⟨g, 0, none⟩) xs.length cap, .int .i64 i] [.bool true, .bool false, .bool false, .bool false, .bool true, .bool false, .int .i64 (hLeast 6), .int .i64 (hMost 6)] (.slice (some ⟨w2.heap.size + 1, 0, none⟩) 1 1) [UInt8.ofNat 6] from
    ⟨by omega, by simp, by omega, by omega, (b2.alloc (by omega) _).alloc (by simp; omega) _, k3.alloc _, q3.alloc _, own⟩)
  have t0 := k3.cell 0
  simp only [List.getElem?_cons_succ, List.getElem?_cons_zero] at t0
  have hne : w.heap.size ≠ w2.heap.size := by omega
  clear k2 k3 q3 own b2
  have c0 := H0.out.ev.cell 0
  have c1 := H0.out.ev.cell 1
  have c2 := H0.out.ev.cell 2
  have c3 := H0.out.ev.cell 3
  have c4 := H0.out.ev.cell 4
  have f1 := H0.out.has.cell 1
  have f2 := H0.out.has.cell 2
  have f4 := H0.out.has.cell 4
  have f5 := H0.out.has.cell 5
  simp only [List.getElem?_cons_succ, List.getElem?_cons_zero] at c0 c1 c2 c3 c4 f1 f2 f4 f5
  go_wp2_with fail
  refine (putValue_ok g cap xs HV.out.1 HV.out.2 _ (Nat.lt_of_lt_of_le hgw H0.out.bel.size) (HR.out.below H0.out.bel hgw)).mono ?_
  rintro e x0 hm
  obtain ⟨Aq, cq, rfl, iq, Bq⟩ := hm.bs
  have G0 := Lib.hid (H0.out.step Bq)
  obtain ⟨ad, rfl, hn⟩ := in_cells iq (flatB_pos HV.out.1)
  have hM : ([UInt8.ofNat 6]).length + (flatB xs).length ≤ 6000000 := by simp only [List.length_append, List.length_cons, List.length_nil]; omega
  have hM1 : ([UInt8.ofNat 6]).length + (flatB xs).length ≤ maxLen := by unfold maxLen; omega
  have hM2 : (([UInt8.ofNat 6]).length + (flatB xs).length) * 1 ≤ 140737488355328 := by omega
  have HM1 := Lib.hid hM1
  have HM2 := Lib.hid hM2
  have HNW := Lib.hid hn
  clear hm iq Bq hn hM hM1 hM2 c0 c1 c2 c3 c4 f1 f2 f4 f5
  go_wp2_with (at_builtin; refine wpList_append_own_at _ rfl _ _ 22 rfl (w2.heap.size + 1) 5 i0 (.int .u8 0) 1 1 Try.underlying22 hi hz0 hz1 hz2 rfl (by decide) _ _ _ rfl G0.out.own ad _ _ (Cd.bytesV (flatB xs)) rfl (bytesV_len _) HNW.out (bytes_one _) HM1.out HM2.out G0.out.size ?_; intro v0 y0 ho hg _ _; have H1 := Lib.hid (G0.out.app ho hg); have c0 := H1.out.ev.cell 0; have c1 := H1.out.ev.cell 1; have c2 := H1.out.ev.cell 2; have c3 := H1.out.ev.cell 3; have c4 := H1.out.ev.cell 4; have f1 := H1.out.has.cell 1; have f2 := H1.out.has.cell 2; have f4 := H1.out.has.cell 4; have f5 := H1.out.has.cell 5; simp only [List.getElem?_cons_succ, List.getElem?_cons_zero] at c0 c1 c2 c3 c4 f1 f2 f4 f5; clear ho hg)
  go_ret2
  have hev : evB ⟨6, id, nm, xs, i⟩ = [UInt8.ofNat 6] ++ flatB xs := by simp [evB, hasId, hasName, hasValue, hasInt]
  unfold MadeV
  rw [hev]
  exact ⟨_, rfl, H1.out.own.mono H1.out.lo, H1.out.bel⟩
set_option maxRecDepth 20000 in
set_option maxHeartbeats 4000000 in
theorem evBytes_7 (id : Nat) (nm : List UInt8) (xs : List Nd) (i : Int) (hx : EvRaw ⟨7, id, nm, xs, i⟩) (hok : evOk ⟨7, id, nm, xs, i⟩ = true) (A : Option Addr) (n cap : Nat) (w : World) (hv : VIn w A n xs) :
    Calls Try.prog 14 #[evV ⟨7, id, nm, xs, i⟩ A n cap] w (MadeV w (evB ⟨7, id, nm, xs, i⟩)) := by
  obtain ⟨i0, hi, hz0, hz1, hz2⟩ := info_parts info_u8
  have HC : Hid (∀ W, Below w.heap.size w W → Calls Try.prog 16 #[.agg #[.int .u8 (7 : Int), .int .i64 (id : Int), .string ⟨nm.toArray⟩, .slice A n cap, .int .i64 i]] W fun e w' => e = .returned (.int .i64 0) ∧ Below W.heap.size W w') := fun W hW => by
    have := evCheck_any ⟨7, id, nm, xs, i⟩ hx A n cap W (hv.below hW)
    rw [hok] at this
    exact this
  have HF : Hid (∀ W, Calls Try.prog 32 #[.int .u8 (7 : Int)] W fun e w' => e = .returned (.agg #[.bool true, .bool false, .bool false, .bool false, .bool true, .bool false, .int .i64 (hLeast 7), .int .i64 (hMost 7)]) ∧ Below W.heap.size W w') := fun W => fields_any 7 (by decide) W
  have lu : (Cd.uB id).length ≤ 10 := Cd.uB_len10 (by have := hx.id_le; simp only at this; omega)
  have lt : (Cd.textB nm).length ≤ 1000010 := by have := hx.name_le; simp only at this; have h2 := Cd.uB_len10 (n := nm.length) (by omega); simp only [Cd.textB, List.length_append]; omega
  have li : (Cd.uB (Cd.zig i)).length ≤ 10 := Cd.uB_len10 (zig_lt i hx.i64.1 hx.i64.2)
  have hVO := hx.ok rfl
  simp only at hVO
  have lv : (flatB xs).length ≤ 4300000 := by
    have h1 := flatB_len xs (fun y hy => by
      obtain ⟨j, hj, rfl⟩ := List.getElem_of_mem hy
      have := hVO.1.seq.fit j
      rw [List.getElem?_eq_getElem hj] at this
      exact ⟨this.1, hVO.2 _ hy, this.2.1⟩)
    have h2 := hVO.1.seq.few
    omega
  have HV := Lib.hid hVO
  have HI := Lib.hid hx.i64
  have HN : Hid (id ≤ 500 ∧ nm.length ≤ 1000000) := ⟨hx.id_le, hx.name_le⟩
  obtain ⟨g, rfl, rfl, hgw, hR⟩ : ∃ g, A = some ⟨g, 0, none⟩ ∧ n = xs.length ∧ g < w.heap.size ∧ RowOf w g xs := by
    rcases hv with ⟨h0, _⟩ | h0
    · have := hVO.1.pos; simp [h0] at this
    · exact h0
  have HR := Lib.hid hR
  have idr : (id : Int) ≤ 500 := by have := hx.id_le; simp only at this; omega
  clear hx hok hVO hR
  unfold evV
  go_enter Try.func14, Try.ntmps14
  go_wp2_with fail
  have b0 : Below w.heap.size w (w.alloc (.cells #[.int .u8 (7 : Int), .int .i64 (id : Int), .string ⟨nm.toArray⟩, .slice (some ⟨g, 0, none⟩) xs.length cap, .int .i64 i] 27)) := (Below.refl _ _).alloc (Nat.le_refl _) _
  have k0 : Blk (w.alloc (.cells #[.int .u8 (7 : Int), .int .i64 (id : Int), .string ⟨nm.toArray⟩, .slice (some ⟨g, 0, none⟩) xs.length cap, .int .i64 i] 27)) w.heap.size 27 [.int .u8 (7 : Int), .int .i64 (id : Int), .string ⟨nm.toArray⟩, .slice (some ⟨g, 0, none⟩) xs.length cap, .int .i64 i] := heap_alloc_new w _
  have s0 : w.heap.size < (w.alloc (.cells #[.int .u8 (7 : Int), .int .i64 (id : Int), .string ⟨nm.toArray⟩, .slice (some ⟨g, 0, none⟩) xs.length cap, .int .i64 i] 27)).heap.size := by simp
  refine (HC.out _ b0).mono ?_
  rintro e w1 ⟨rfl, B1⟩
  have k1 := k0.bel B1
  have b1 := b0.trans (B1.mono (Nat.le_of_lt s0))
  have s1 := Nat.lt_of_lt_of_le s0 B1.size
  have c0 := k1.cell 0
  simp only [List.getElem?_cons_succ, List.getElem?_cons_zero] at c0
  clear b0 k0 s0 B1
  go_wp2_with fail
  refine (HF.out _).mono ?_
  rintro e w2 ⟨rfl, B2⟩
  have k2 := k1.bel B2
  have b2 := b1.trans (B2.mono b1.size)
  have s2 := Nat.lt_of_lt_of_le s1 B2.size
  clear k1 b1 s1 B2 c0
  have k3 := k2.alloc (.cells #[.bool true, .bool false, .bool false, .bool false, .bool true, .bool false, .int .i64 (hLeast 7), .int .i64 (hMost 7)] 70)
  have q3 : Blk (w2.alloc (.cells #[.bool true, .bool false, .bool false, .bool false, .bool true, .bool false, .int .i64 (hLeast 7), .int .i64 (hMost 7)] 70)) w2.heap.size 70 [.bool true, .bool false, .bool false, .bool false, .bool true, .bool false, .int .i64 (hLeast 7), .int .i64 (hMost 7)] := heap_alloc_new w2 _
  have own : ((w2.alloc (.cells #[.bool true, .bool false, .bool false, .bool false, .bool true, .bool false, .int .i64 (hLeast 7), .int .i64 (hMost 7)] 70)).alloc (.cells #[.int .u8 (7 : Int)] 5)).ownsRow (w2.alloc (.cells #[.bool true, .bool false, .bool false, .bool false, .bool true, .bool false, .int .i64 (hLeast 7), .int .i64 (hMost 7)] 70)).heap.size 5 1 (.slice (some ⟨(w2.alloc (.cells #[.bool true, .bool false, .bool false, .bool false, .bool true, .bool false, .int .i64 (hLeast 7), .int .i64 (hMost 7)] 70)).heap.size, 0, none⟩) 1 1) ([UInt8.ofNat 7] : List UInt8).length (Cd.bytesV [UInt8.ofNat 7]) := own_build _ (UInt8.ofNat 7)
  rw [show (w2.alloc (.cells #[.bool true, .bool false, .bool false, .bool false, .bool true, .bool false, .int .i64 (hLeast 7), .int .i64 (hMost 7)] 70)).heap.size = w2.heap.size + 1 from by simp] at own
  have H0 := Lib.hid (show BW w ((w2.alloc (.cells #[.bool true, .bool false, .bool false, .bool false, .bool true, .bool false, .int .i64 (hLeast 7), .int .i64 (hMost 7)] 70)).alloc (.cells #[.int .u8 (7 : Int)] 5)) w.heap.size w2.heap.size (w2.heap.size + 1) [.int .u8 (7 : Int), .int .i64 (id : Int), .string ⟨nm.toArray⟩, .slice (some ⟨g, 0, none⟩) xs.length cap, .int .i64 i] [.bool true, .bool false, .bool false, .bool false, .bool true, .bool false, .int .i64 (hLeast 7), .int .i64 (hMost 7)] (.slice (some ⟨w2.heap.size + 1, 0, none⟩) 1 1) [UInt8.ofNat 7] from
    ⟨by omega, by simp, by omega, by omega, (b2.alloc (by omega) _).alloc (by simp; omega) _, k3.alloc _, q3.alloc _, own⟩)
  have t0 := k3.cell 0
  simp only [List.getElem?_cons_succ, List.getElem?_cons_zero] at t0
  have hne : w.heap.size ≠ w2.heap.size := by omega
  clear k2 k3 q3 own b2
  have c0 := H0.out.ev.cell 0
  have c1 := H0.out.ev.cell 1
  have c2 := H0.out.ev.cell 2
  have c3 := H0.out.ev.cell 3
  have c4 := H0.out.ev.cell 4
  have f1 := H0.out.has.cell 1
  have f2 := H0.out.has.cell 2
  have f4 := H0.out.has.cell 4
  have f5 := H0.out.has.cell 5
  simp only [List.getElem?_cons_succ, List.getElem?_cons_zero] at c0 c1 c2 c3 c4 f1 f2 f4 f5
  go_wp2_with fail
  refine (putValue_ok g cap xs HV.out.1 HV.out.2 _ (Nat.lt_of_lt_of_le hgw H0.out.bel.size) (HR.out.below H0.out.bel hgw)).mono ?_
  rintro e x0 hm
  obtain ⟨Aq, cq, rfl, iq, Bq⟩ := hm.bs
  have G0 := Lib.hid (H0.out.step Bq)
  obtain ⟨ad, rfl, hn⟩ := in_cells iq (flatB_pos HV.out.1)
  have hM : ([UInt8.ofNat 7]).length + (flatB xs).length ≤ 6000000 := by simp only [List.length_append, List.length_cons, List.length_nil]; omega
  have hM1 : ([UInt8.ofNat 7]).length + (flatB xs).length ≤ maxLen := by unfold maxLen; omega
  have hM2 : (([UInt8.ofNat 7]).length + (flatB xs).length) * 1 ≤ 140737488355328 := by omega
  have HM1 := Lib.hid hM1
  have HM2 := Lib.hid hM2
  have HNW := Lib.hid hn
  clear hm iq Bq hn hM hM1 hM2 c0 c1 c2 c3 c4 f1 f2 f4 f5
  go_wp2_with (at_builtin; refine wpList_append_own_at _ rfl _ _ 22 rfl (w2.heap.size + 1) 5 i0 (.int .u8 0) 1 1 Try.underlying22 hi hz0 hz1 hz2 rfl (by decide) _ _ _ rfl G0.out.own ad _ _ (Cd.bytesV (flatB xs)) rfl (bytesV_len _) HNW.out (bytes_one _) HM1.out HM2.out G0.out.size ?_; intro v0 y0 ho hg _ _; have H1 := Lib.hid (G0.out.app ho hg); have c0 := H1.out.ev.cell 0; have c1 := H1.out.ev.cell 1; have c2 := H1.out.ev.cell 2; have c3 := H1.out.ev.cell 3; have c4 := H1.out.ev.cell 4; have f1 := H1.out.has.cell 1; have f2 := H1.out.has.cell 2; have f4 := H1.out.has.cell 4; have f5 := H1.out.has.cell 5; simp only [List.getElem?_cons_succ, List.getElem?_cons_zero] at c0 c1 c2 c3 c4 f1 f2 f4 f5; clear ho hg)
  go_ret2
  have hev : evB ⟨7, id, nm, xs, i⟩ = [UInt8.ofNat 7] ++ flatB xs := by simp [evB, hasId, hasName, hasValue, hasInt]
  unfold MadeV
  rw [hev]
  exact ⟨_, rfl, H1.out.own.mono H1.out.lo, H1.out.bel⟩
set_option maxRecDepth 20000 in
set_option maxHeartbeats 4000000 in
theorem evBytes_8 (id : Nat) (nm : List UInt8) (xs : List Nd) (i : Int) (hx : EvRaw ⟨8, id, nm, xs, i⟩) (hok : evOk ⟨8, id, nm, xs, i⟩ = true) (A : Option Addr) (n cap : Nat) (w : World) (hv : VIn w A n xs) :
    Calls Try.prog 14 #[evV ⟨8, id, nm, xs, i⟩ A n cap] w (MadeV w (evB ⟨8, id, nm, xs, i⟩)) := by
  obtain ⟨i0, hi, hz0, hz1, hz2⟩ := info_parts info_u8
  have HC : Hid (∀ W, Below w.heap.size w W → Calls Try.prog 16 #[.agg #[.int .u8 (8 : Int), .int .i64 (id : Int), .string ⟨nm.toArray⟩, .slice A n cap, .int .i64 i]] W fun e w' => e = .returned (.int .i64 0) ∧ Below W.heap.size W w') := fun W hW => by
    have := evCheck_any ⟨8, id, nm, xs, i⟩ hx A n cap W (hv.below hW)
    rw [hok] at this
    exact this
  have HF : Hid (∀ W, Calls Try.prog 32 #[.int .u8 (8 : Int)] W fun e w' => e = .returned (.agg #[.bool true, .bool false, .bool false, .bool false, .bool false, .bool true, .int .i64 (hLeast 8), .int .i64 (hMost 8)]) ∧ Below W.heap.size W w') := fun W => fields_any 8 (by decide) W
  have lu : (Cd.uB id).length ≤ 10 := Cd.uB_len10 (by have := hx.id_le; simp only at this; omega)
  have lt : (Cd.textB nm).length ≤ 1000010 := by have := hx.name_le; simp only at this; have h2 := Cd.uB_len10 (n := nm.length) (by omega); simp only [Cd.textB, List.length_append]; omega
  have li : (Cd.uB (Cd.zig i)).length ≤ 10 := Cd.uB_len10 (zig_lt i hx.i64.1 hx.i64.2)
  have HI := Lib.hid hx.i64
  have HN : Hid (id ≤ 500 ∧ nm.length ≤ 1000000) := ⟨hx.id_le, hx.name_le⟩
  have idr : (id : Int) ≤ 500 := by have := hx.id_le; simp only at this; omega
  clear hx hok hv
  unfold evV
  go_enter Try.func14, Try.ntmps14
  go_wp2_with fail
  have b0 : Below w.heap.size w (w.alloc (.cells #[.int .u8 (8 : Int), .int .i64 (id : Int), .string ⟨nm.toArray⟩, .slice A n cap, .int .i64 i] 27)) := (Below.refl _ _).alloc (Nat.le_refl _) _
  have k0 : Blk (w.alloc (.cells #[.int .u8 (8 : Int), .int .i64 (id : Int), .string ⟨nm.toArray⟩, .slice A n cap, .int .i64 i] 27)) w.heap.size 27 [.int .u8 (8 : Int), .int .i64 (id : Int), .string ⟨nm.toArray⟩, .slice A n cap, .int .i64 i] := heap_alloc_new w _
  have s0 : w.heap.size < (w.alloc (.cells #[.int .u8 (8 : Int), .int .i64 (id : Int), .string ⟨nm.toArray⟩, .slice A n cap, .int .i64 i] 27)).heap.size := by simp
  refine (HC.out _ b0).mono ?_
  rintro e w1 ⟨rfl, B1⟩
  have k1 := k0.bel B1
  have b1 := b0.trans (B1.mono (Nat.le_of_lt s0))
  have s1 := Nat.lt_of_lt_of_le s0 B1.size
  have c0 := k1.cell 0
  simp only [List.getElem?_cons_succ, List.getElem?_cons_zero] at c0
  clear b0 k0 s0 B1
  go_wp2_with fail
  refine (HF.out _).mono ?_
  rintro e w2 ⟨rfl, B2⟩
  have k2 := k1.bel B2
  have b2 := b1.trans (B2.mono b1.size)
  have s2 := Nat.lt_of_lt_of_le s1 B2.size
  clear k1 b1 s1 B2 c0
  have k3 := k2.alloc (.cells #[.bool true, .bool false, .bool false, .bool false, .bool false, .bool true, .int .i64 (hLeast 8), .int .i64 (hMost 8)] 70)
  have q3 : Blk (w2.alloc (.cells #[.bool true, .bool false, .bool false, .bool false, .bool false, .bool true, .int .i64 (hLeast 8), .int .i64 (hMost 8)] 70)) w2.heap.size 70 [.bool true, .bool false, .bool false, .bool false, .bool false, .bool true, .int .i64 (hLeast 8), .int .i64 (hMost 8)] := heap_alloc_new w2 _
  have own : ((w2.alloc (.cells #[.bool true, .bool false, .bool false, .bool false, .bool false, .bool true, .int .i64 (hLeast 8), .int .i64 (hMost 8)] 70)).alloc (.cells #[.int .u8 (8 : Int)] 5)).ownsRow (w2.alloc (.cells #[.bool true, .bool false, .bool false, .bool false, .bool false, .bool true, .int .i64 (hLeast 8), .int .i64 (hMost 8)] 70)).heap.size 5 1 (.slice (some ⟨(w2.alloc (.cells #[.bool true, .bool false, .bool false, .bool false, .bool false, .bool true, .int .i64 (hLeast 8), .int .i64 (hMost 8)] 70)).heap.size, 0, none⟩) 1 1) ([UInt8.ofNat 8] : List UInt8).length (Cd.bytesV [UInt8.ofNat 8]) := own_build _ (UInt8.ofNat 8)
  rw [show (w2.alloc (.cells #[.bool true, .bool false, .bool false, .bool false, .bool false, .bool true, .int .i64 (hLeast 8), .int .i64 (hMost 8)] 70)).heap.size = w2.heap.size + 1 from by simp] at own
  have H0 := Lib.hid (show BW w ((w2.alloc (.cells #[.bool true, .bool false, .bool false, .bool false, .bool false, .bool true, .int .i64 (hLeast 8), .int .i64 (hMost 8)] 70)).alloc (.cells #[.int .u8 (8 : Int)] 5)) w.heap.size w2.heap.size (w2.heap.size + 1) [.int .u8 (8 : Int), .int .i64 (id : Int), .string ⟨nm.toArray⟩, .slice A n cap, .int .i64 i] [.bool true, .bool false, .bool false, .bool false, .bool false, .bool true, .int .i64 (hLeast 8), .int .i64 (hMost 8)] (.slice (some ⟨w2.heap.size + 1, 0, none⟩) 1 1) [UInt8.ofNat 8] from
    ⟨by omega, by simp, by omega, by omega, (b2.alloc (by omega) _).alloc (by simp; omega) _, k3.alloc _, q3.alloc _, own⟩)
  have t0 := k3.cell 0
  simp only [List.getElem?_cons_succ, List.getElem?_cons_zero] at t0
  have hne : w.heap.size ≠ w2.heap.size := by omega
  clear k2 k3 q3 own b2
  have c0 := H0.out.ev.cell 0
  have c1 := H0.out.ev.cell 1
  have c2 := H0.out.ev.cell 2
  have c3 := H0.out.ev.cell 3
  have c4 := H0.out.ev.cell 4
  have f1 := H0.out.has.cell 1
  have f2 := H0.out.has.cell 2
  have f4 := H0.out.has.cell 4
  have f5 := H0.out.has.cell 5
  simp only [List.getElem?_cons_succ, List.getElem?_cons_zero] at c0 c1 c2 c3 c4 f1 f2 f4 f5
  go_wp2_with fail
  refine (putInt_any _ i HI.out.1 HI.out.2).mono ?_
  rintro e x0 hm
  obtain ⟨Aq, cq, rfl, iq, Bq⟩ := hm.bs
  have G0 := Lib.hid (H0.out.step Bq)
  obtain ⟨ad, rfl, hn⟩ := in_cells iq (uB_pos _)
  have hM : ([UInt8.ofNat 8]).length + (Cd.uB (Cd.zig i)).length ≤ 6000000 := by simp only [List.length_append, List.length_cons, List.length_nil]; omega
  have hM1 : ([UInt8.ofNat 8]).length + (Cd.uB (Cd.zig i)).length ≤ maxLen := by unfold maxLen; omega
  have hM2 : (([UInt8.ofNat 8]).length + (Cd.uB (Cd.zig i)).length) * 1 ≤ 140737488355328 := by omega
  have HM1 := Lib.hid hM1
  have HM2 := Lib.hid hM2
  have HNW := Lib.hid hn
  clear hm iq Bq hn hM hM1 hM2 c0 c1 c2 c3 c4 f1 f2 f4 f5
  go_wp2_with (at_builtin; refine wpList_append_own_at _ rfl _ _ 22 rfl (w2.heap.size + 1) 5 i0 (.int .u8 0) 1 1 Try.underlying22 hi hz0 hz1 hz2 rfl (by decide) _ _ _ rfl G0.out.own ad _ _ (Cd.bytesV (Cd.uB (Cd.zig i))) rfl (bytesV_len _) HNW.out (bytes_one _) HM1.out HM2.out G0.out.size ?_; intro v0 y0 ho hg _ _; have H1 := Lib.hid (G0.out.app ho hg); have c0 := H1.out.ev.cell 0; have c1 := H1.out.ev.cell 1; have c2 := H1.out.ev.cell 2; have c3 := H1.out.ev.cell 3; have c4 := H1.out.ev.cell 4; have f1 := H1.out.has.cell 1; have f2 := H1.out.has.cell 2; have f4 := H1.out.has.cell 4; have f5 := H1.out.has.cell 5; simp only [List.getElem?_cons_succ, List.getElem?_cons_zero] at c0 c1 c2 c3 c4 f1 f2 f4 f5; clear ho hg)
  go_ret2
  have hev : evB ⟨8, id, nm, xs, i⟩ = [UInt8.ofNat 8] ++ Cd.uB (Cd.zig i) := by simp [evB, hasId, hasName, hasValue, hasInt]
  unfold MadeV
  rw [hev]
  exact ⟨_, rfl, H1.out.own.mono H1.out.lo, H1.out.bel⟩
set_option maxRecDepth 20000 in
set_option maxHeartbeats 4000000 in
theorem evBytes_9 (id : Nat) (nm : List UInt8) (xs : List Nd) (i : Int) (hx : EvRaw ⟨9, id, nm, xs, i⟩) (hok : evOk ⟨9, id, nm, xs, i⟩ = true) (A : Option Addr) (n cap : Nat) (w : World) (hv : VIn w A n xs) :
    Calls Try.prog 14 #[evV ⟨9, id, nm, xs, i⟩ A n cap] w (MadeV w (evB ⟨9, id, nm, xs, i⟩)) := by
  obtain ⟨i0, hi, hz0, hz1, hz2⟩ := info_parts info_u8
  have HC : Hid (∀ W, Below w.heap.size w W → Calls Try.prog 16 #[.agg #[.int .u8 (9 : Int), .int .i64 (id : Int), .string ⟨nm.toArray⟩, .slice A n cap, .int .i64 i]] W fun e w' => e = .returned (.int .i64 0) ∧ Below W.heap.size W w') := fun W hW => by
    have := evCheck_any ⟨9, id, nm, xs, i⟩ hx A n cap W (hv.below hW)
    rw [hok] at this
    exact this
  have HF : Hid (∀ W, Calls Try.prog 32 #[.int .u8 (9 : Int)] W fun e w' => e = .returned (.agg #[.bool true, .bool true, .bool false, .bool false, .bool true, .bool false, .int .i64 (hLeast 9), .int .i64 (hMost 9)]) ∧ Below W.heap.size W w') := fun W => fields_any 9 (by decide) W
  have lu : (Cd.uB id).length ≤ 10 := Cd.uB_len10 (by have := hx.id_le; simp only at this; omega)
  have lt : (Cd.textB nm).length ≤ 1000010 := by have := hx.name_le; simp only at this; have h2 := Cd.uB_len10 (n := nm.length) (by omega); simp only [Cd.textB, List.length_append]; omega
  have li : (Cd.uB (Cd.zig i)).length ≤ 10 := Cd.uB_len10 (zig_lt i hx.i64.1 hx.i64.2)
  have hVO := hx.ok rfl
  simp only at hVO
  have lv : (flatB xs).length ≤ 4300000 := by
    have h1 := flatB_len xs (fun y hy => by
      obtain ⟨j, hj, rfl⟩ := List.getElem_of_mem hy
      have := hVO.1.seq.fit j
      rw [List.getElem?_eq_getElem hj] at this
      exact ⟨this.1, hVO.2 _ hy, this.2.1⟩)
    have h2 := hVO.1.seq.few
    omega
  have HV := Lib.hid hVO
  have HI := Lib.hid hx.i64
  have HN : Hid (id ≤ 500 ∧ nm.length ≤ 1000000) := ⟨hx.id_le, hx.name_le⟩
  obtain ⟨g, rfl, rfl, hgw, hR⟩ : ∃ g, A = some ⟨g, 0, none⟩ ∧ n = xs.length ∧ g < w.heap.size ∧ RowOf w g xs := by
    rcases hv with ⟨h0, _⟩ | h0
    · have := hVO.1.pos; simp [h0] at this
    · exact h0
  have HR := Lib.hid hR
  have idr : (id : Int) ≤ 500 := by have := hx.id_le; simp only at this; omega
  clear hx hok hVO hR
  unfold evV
  go_enter Try.func14, Try.ntmps14
  go_wp2_with fail
  have b0 : Below w.heap.size w (w.alloc (.cells #[.int .u8 (9 : Int), .int .i64 (id : Int), .string ⟨nm.toArray⟩, .slice (some ⟨g, 0, none⟩) xs.length cap, .int .i64 i] 27)) := (Below.refl _ _).alloc (Nat.le_refl _) _
  have k0 : Blk (w.alloc (.cells #[.int .u8 (9 : Int), .int .i64 (id : Int), .string ⟨nm.toArray⟩, .slice (some ⟨g, 0, none⟩) xs.length cap, .int .i64 i] 27)) w.heap.size 27 [.int .u8 (9 : Int), .int .i64 (id : Int), .string ⟨nm.toArray⟩, .slice (some ⟨g, 0, none⟩) xs.length cap, .int .i64 i] := heap_alloc_new w _
  have s0 : w.heap.size < (w.alloc (.cells #[.int .u8 (9 : Int), .int .i64 (id : Int), .string ⟨nm.toArray⟩, .slice (some ⟨g, 0, none⟩) xs.length cap, .int .i64 i] 27)).heap.size := by simp
  refine (HC.out _ b0).mono ?_
  rintro e w1 ⟨rfl, B1⟩
  have k1 := k0.bel B1
  have b1 := b0.trans (B1.mono (Nat.le_of_lt s0))
  have s1 := Nat.lt_of_lt_of_le s0 B1.size
  have c0 := k1.cell 0
  simp only [List.getElem?_cons_succ, List.getElem?_cons_zero] at c0
  clear b0 k0 s0 B1
  go_wp2_with fail
  refine (HF.out _).mono ?_
  rintro e w2 ⟨rfl, B2⟩
  have k2 := k1.bel B2
  have b2 := b1.trans (B2.mono b1.size)
  have s2 := Nat.lt_of_lt_of_le s1 B2.size
  clear k1 b1 s1 B2 c0
  have k3 := k2.alloc (.cells #[.bool true, .bool true, .bool false, .bool false, .bool true, .bool false, .int .i64 (hLeast 9), .int .i64 (hMost 9)] 70)
  have q3 : Blk (w2.alloc (.cells #[.bool true, .bool true, .bool false, .bool false, .bool true, .bool false, .int .i64 (hLeast 9), .int .i64 (hMost 9)] 70)) w2.heap.size 70 [.bool true, .bool true, .bool false, .bool false, .bool true, .bool false, .int .i64 (hLeast 9), .int .i64 (hMost 9)] := heap_alloc_new w2 _
  have own : ((w2.alloc (.cells #[.bool true, .bool true, .bool false, .bool false, .bool true, .bool false, .int .i64 (hLeast 9), .int .i64 (hMost 9)] 70)).alloc (.cells #[.int .u8 (9 : Int)] 5)).ownsRow (w2.alloc (.cells #[.bool true, .bool true, .bool false, .bool false, .bool true, .bool false, .int .i64 (hLeast 9), .int .i64 (hMost 9)] 70)).heap.size 5 1 (.slice (some ⟨(w2.alloc (.cells #[.bool true, .bool true, .bool false, .bool false, .bool true, .bool false, .int .i64 (hLeast 9), .int .i64 (hMost 9)] 70)).heap.size, 0, none⟩) 1 1) ([UInt8.ofNat 9] : List UInt8).length (Cd.bytesV [UInt8.ofNat 9]) := own_build _ (UInt8.ofNat 9)
  rw [show (w2.alloc (.cells #[.bool true, .bool true, .bool false, .bool false, .bool true, .bool false, .int .i64 (hLeast 9), .int .i64 (hMost 9)] 70)).heap.size = w2.heap.size + 1 from by simp] at own
  have H0 := Lib.hid (show BW w ((w2.alloc (.cells #[.bool true, .bool true, .bool false, .bool false, .bool true, .bool false, .int .i64 (hLeast 9), .int .i64 (hMost 9)] 70)).alloc (.cells #[.int .u8 (9 : Int)] 5)) w.heap.size w2.heap.size (w2.heap.size + 1) [.int .u8 (9 : Int), .int .i64 (id : Int), .string ⟨nm.toArray⟩, .slice (some ⟨g, 0, none⟩) xs.length cap, .int .i64 i] [.bool true, .bool true, .bool false, .bool false, .bool true, .bool false, .int .i64 (hLeast 9), .int .i64 (hMost 9)] (.slice (some ⟨w2.heap.size + 1, 0, none⟩) 1 1) [UInt8.ofNat 9] from
    ⟨by omega, by simp, by omega, by omega, (b2.alloc (by omega) _).alloc (by simp; omega) _, k3.alloc _, q3.alloc _, own⟩)
  have t0 := k3.cell 0
  simp only [List.getElem?_cons_succ, List.getElem?_cons_zero] at t0
  have hne : w.heap.size ≠ w2.heap.size := by omega
  clear k2 k3 q3 own b2
  have c0 := H0.out.ev.cell 0
  have c1 := H0.out.ev.cell 1
  have c2 := H0.out.ev.cell 2
  have c3 := H0.out.ev.cell 3
  have c4 := H0.out.ev.cell 4
  have f1 := H0.out.has.cell 1
  have f2 := H0.out.has.cell 2
  have f4 := H0.out.has.cell 4
  have f5 := H0.out.has.cell 5
  simp only [List.getElem?_cons_succ, List.getElem?_cons_zero] at c0 c1 c2 c3 c4 f1 f2 f4 f5
  go_wp2_with fail
  refine (putUint_any _ id (by omega)).mono ?_
  rintro e x0 hm
  obtain ⟨Aq, cq, rfl, iq, Bq⟩ := hm.bs
  have G0 := Lib.hid (H0.out.step Bq)
  obtain ⟨ad, rfl, hn⟩ := in_cells iq (uB_pos _)
  have hM : ([UInt8.ofNat 9]).length + (Cd.uB id).length ≤ 6000000 := by simp only [List.length_append, List.length_cons, List.length_nil]; omega
  have hM1 : ([UInt8.ofNat 9]).length + (Cd.uB id).length ≤ maxLen := by unfold maxLen; omega
  have hM2 : (([UInt8.ofNat 9]).length + (Cd.uB id).length) * 1 ≤ 140737488355328 := by omega
  have HM1 := Lib.hid hM1
  have HM2 := Lib.hid hM2
  have HNW := Lib.hid hn
  clear hm iq Bq hn hM hM1 hM2 c0 c1 c2 c3 c4 f1 f2 f4 f5
  go_wp2_with (at_builtin; refine wpList_append_own_at _ rfl _ _ 22 rfl (w2.heap.size + 1) 5 i0 (.int .u8 0) 1 1 Try.underlying22 hi hz0 hz1 hz2 rfl (by decide) _ _ _ rfl G0.out.own ad _ _ (Cd.bytesV (Cd.uB id)) rfl (bytesV_len _) HNW.out (bytes_one _) HM1.out HM2.out G0.out.size ?_; intro v0 y0 ho hg _ _; have H1 := Lib.hid (G0.out.app ho hg); have c0 := H1.out.ev.cell 0; have c1 := H1.out.ev.cell 1; have c2 := H1.out.ev.cell 2; have c3 := H1.out.ev.cell 3; have c4 := H1.out.ev.cell 4; have f1 := H1.out.has.cell 1; have f2 := H1.out.has.cell 2; have f4 := H1.out.has.cell 4; have f5 := H1.out.has.cell 5; simp only [List.getElem?_cons_succ, List.getElem?_cons_zero] at c0 c1 c2 c3 c4 f1 f2 f4 f5; clear ho hg)
  refine (putValue_ok g cap xs HV.out.1 HV.out.2 _ (Nat.lt_of_lt_of_le hgw H1.out.bel.size) (HR.out.below H1.out.bel hgw)).mono ?_
  rintro e x1 hm
  obtain ⟨Aq, cq, rfl, iq, Bq⟩ := hm.bs
  have G1 := Lib.hid (H1.out.step Bq)
  obtain ⟨ad, rfl, hn⟩ := in_cells iq (flatB_pos HV.out.1)
  have hM : ([UInt8.ofNat 9] ++ Cd.uB id).length + (flatB xs).length ≤ 6000000 := by simp only [List.length_append, List.length_cons, List.length_nil]; omega
  have hM1 : ([UInt8.ofNat 9] ++ Cd.uB id).length + (flatB xs).length ≤ maxLen := by unfold maxLen; omega
  have hM2 : (([UInt8.ofNat 9] ++ Cd.uB id).length + (flatB xs).length) * 1 ≤ 140737488355328 := by omega
  have HM1 := Lib.hid hM1
  have HM2 := Lib.hid hM2
  have HNW := Lib.hid hn
  clear hm iq Bq hn hM hM1 hM2 c0 c1 c2 c3 c4 f1 f2 f4 f5
  go_wp2_with (at_builtin; refine wpList_append_own_at _ rfl _ _ 22 rfl (w2.heap.size + 1) 5 i0 (.int .u8 0) 1 1 Try.underlying22 hi hz0 hz1 hz2 rfl (by decide) _ _ _ rfl G1.out.own ad _ _ (Cd.bytesV (flatB xs)) rfl (bytesV_len _) HNW.out (bytes_one _) HM1.out HM2.out G1.out.size ?_; intro v1 y1 ho hg _ _; have H2 := Lib.hid (G1.out.app ho hg); have c0 := H2.out.ev.cell 0; have c1 := H2.out.ev.cell 1; have c2 := H2.out.ev.cell 2; have c3 := H2.out.ev.cell 3; have c4 := H2.out.ev.cell 4; have f1 := H2.out.has.cell 1; have f2 := H2.out.has.cell 2; have f4 := H2.out.has.cell 4; have f5 := H2.out.has.cell 5; simp only [List.getElem?_cons_succ, List.getElem?_cons_zero] at c0 c1 c2 c3 c4 f1 f2 f4 f5; clear ho hg)
  go_ret2
  have hev : evB ⟨9, id, nm, xs, i⟩ = [UInt8.ofNat 9] ++ Cd.uB id ++ flatB xs := by simp [evB, hasId, hasName, hasValue, hasInt]
  unfold MadeV
  rw [hev]
  exact ⟨_, rfl, H2.out.own.mono H2.out.lo, H2.out.bel⟩
set_option maxRecDepth 20000 in
set_option maxHeartbeats 4000000 in
theorem evBytes_10 (id : Nat) (nm : List UInt8) (xs : List Nd) (i : Int) (hx : EvRaw ⟨10, id, nm, xs, i⟩) (hok : evOk ⟨10, id, nm, xs, i⟩ = true) (A : Option Addr) (n cap : Nat) (w : World) (hv : VIn w A n xs) :
    Calls Try.prog 14 #[evV ⟨10, id, nm, xs, i⟩ A n cap] w (MadeV w (evB ⟨10, id, nm, xs, i⟩)) := by
  obtain ⟨i0, hi, hz0, hz1, hz2⟩ := info_parts info_u8
  have HC : Hid (∀ W, Below w.heap.size w W → Calls Try.prog 16 #[.agg #[.int .u8 (10 : Int), .int .i64 (id : Int), .string ⟨nm.toArray⟩, .slice A n cap, .int .i64 i]] W fun e w' => e = .returned (.int .i64 0) ∧ Below W.heap.size W w') := fun W hW => by
    have := evCheck_any ⟨10, id, nm, xs, i⟩ hx A n cap W (hv.below hW)
    rw [hok] at this
    exact this
  have HF : Hid (∀ W, Calls Try.prog 32 #[.int .u8 (10 : Int)] W fun e w' => e = .returned (.agg #[.bool true, .bool true, .bool false, .bool false, .bool false, .bool true, .int .i64 (hLeast 10), .int .i64 (hMost 10)]) ∧ Below W.heap.size W w') := fun W => fields_any 10 (by decide) W
  have lu : (Cd.uB id).length ≤ 10 := Cd.uB_len10 (by have := hx.id_le; simp only at this; omega)
  have lt : (Cd.textB nm).length ≤ 1000010 := by have := hx.name_le; simp only at this; have h2 := Cd.uB_len10 (n := nm.length) (by omega); simp only [Cd.textB, List.length_append]; omega
  have li : (Cd.uB (Cd.zig i)).length ≤ 10 := Cd.uB_len10 (zig_lt i hx.i64.1 hx.i64.2)
  have HI := Lib.hid hx.i64
  have HN : Hid (id ≤ 500 ∧ nm.length ≤ 1000000) := ⟨hx.id_le, hx.name_le⟩
  have idr : (id : Int) ≤ 500 := by have := hx.id_le; simp only at this; omega
  clear hx hok hv
  unfold evV
  go_enter Try.func14, Try.ntmps14
  go_wp2_with fail
  have b0 : Below w.heap.size w (w.alloc (.cells #[.int .u8 (10 : Int), .int .i64 (id : Int), .string ⟨nm.toArray⟩, .slice A n cap, .int .i64 i] 27)) := (Below.refl _ _).alloc (Nat.le_refl _) _
  have k0 : Blk (w.alloc (.cells #[.int .u8 (10 : Int), .int .i64 (id : Int), .string ⟨nm.toArray⟩, .slice A n cap, .int .i64 i] 27)) w.heap.size 27 [.int .u8 (10 : Int), .int .i64 (id : Int), .string ⟨nm.toArray⟩, .slice A n cap, .int .i64 i] := heap_alloc_new w _
  have s0 : w.heap.size < (w.alloc (.cells #[.int .u8 (10 : Int), .int .i64 (id : Int), .string ⟨nm.toArray⟩, .slice A n cap, .int .i64 i] 27)).heap.size := by simp
  refine (HC.out _ b0).mono ?_
  rintro e w1 ⟨rfl, B1⟩
  have k1 := k0.bel B1
  have b1 := b0.trans (B1.mono (Nat.le_of_lt s0))
  have s1 := Nat.lt_of_lt_of_le s0 B1.size
  have c0 := k1.cell 0
  simp only [List.getElem?_cons_succ, List.getElem?_cons_zero] at c0
  clear b0 k0 s0 B1
  go_wp2_with fail
  refine (HF.out _).mono ?_
  rintro e w2 ⟨rfl, B2⟩
  have k2 := k1.bel B2
  have b2 := b1.trans (B2.mono b1.size)
  have s2 := Nat.lt_of_lt_of_le s1 B2.size
  clear k1 b1 s1 B2 c0
  have k3 := k2.alloc (.cells #[.bool true, .bool true, .bool false, .bool false, .bool false, .bool true, .int .i64 (hLeast 10), .int .i64 (hMost 10)] 70)
  have q3 : Blk (w2.alloc (.cells #[.bool true, .bool true, .bool false, .bool false, .bool false, .bool true, .int .i64 (hLeast 10), .int .i64 (hMost 10)] 70)) w2.heap.size 70 [.bool true, .bool true, .bool false, .bool false, .bool false, .bool true, .int .i64 (hLeast 10), .int .i64 (hMost 10)] := heap_alloc_new w2 _
  have own : ((w2.alloc (.cells #[.bool true, .bool true, .bool false, .bool false, .bool false, .bool true, .int .i64 (hLeast 10), .int .i64 (hMost 10)] 70)).alloc (.cells #[.int .u8 (10 : Int)] 5)).ownsRow (w2.alloc (.cells #[.bool true, .bool true, .bool false, .bool false, .bool false, .bool true, .int .i64 (hLeast 10), .int .i64 (hMost 10)] 70)).heap.size 5 1 (.slice (some ⟨(w2.alloc (.cells #[.bool true, .bool true, .bool false, .bool false, .bool false, .bool true, .int .i64 (hLeast 10), .int .i64 (hMost 10)] 70)).heap.size, 0, none⟩) 1 1) ([UInt8.ofNat 10] : List UInt8).length (Cd.bytesV [UInt8.ofNat 10]) := own_build _ (UInt8.ofNat 10)
  rw [show (w2.alloc (.cells #[.bool true, .bool true, .bool false, .bool false, .bool false, .bool true, .int .i64 (hLeast 10), .int .i64 (hMost 10)] 70)).heap.size = w2.heap.size + 1 from by simp] at own
  have H0 := Lib.hid (show BW w ((w2.alloc (.cells #[.bool true, .bool true, .bool false, .bool false, .bool false, .bool true, .int .i64 (hLeast 10), .int .i64 (hMost 10)] 70)).alloc (.cells #[.int .u8 (10 : Int)] 5)) w.heap.size w2.heap.size (w2.heap.size + 1) [.int .u8 (10 : Int), .int .i64 (id : Int), .string ⟨nm.toArray⟩, .slice A n cap, .int .i64 i] [.bool true, .bool true, .bool false, .bool false, .bool false, .bool true, .int .i64 (hLeast 10), .int .i64 (hMost 10)] (.slice (some ⟨w2.heap.size + 1, 0, none⟩) 1 1) [UInt8.ofNat 10] from
    ⟨by omega, by simp, by omega, by omega, (b2.alloc (by omega) _).alloc (by simp; omega) _, k3.alloc _, q3.alloc _, own⟩)
  have t0 := k3.cell 0
  simp only [List.getElem?_cons_succ, List.getElem?_cons_zero] at t0
  have hne : w.heap.size ≠ w2.heap.size := by omega
  clear k2 k3 q3 own b2
  have c0 := H0.out.ev.cell 0
  have c1 := H0.out.ev.cell 1
  have c2 := H0.out.ev.cell 2
  have c3 := H0.out.ev.cell 3
  have c4 := H0.out.ev.cell 4
  have f1 := H0.out.has.cell 1
  have f2 := H0.out.has.cell 2
  have f4 := H0.out.has.cell 4
  have f5 := H0.out.has.cell 5
  simp only [List.getElem?_cons_succ, List.getElem?_cons_zero] at c0 c1 c2 c3 c4 f1 f2 f4 f5
  go_wp2_with fail
  refine (putUint_any _ id (by omega)).mono ?_
  rintro e x0 hm
  obtain ⟨Aq, cq, rfl, iq, Bq⟩ := hm.bs
  have G0 := Lib.hid (H0.out.step Bq)
  obtain ⟨ad, rfl, hn⟩ := in_cells iq (uB_pos _)
  have hM : ([UInt8.ofNat 10]).length + (Cd.uB id).length ≤ 6000000 := by simp only [List.length_append, List.length_cons, List.length_nil]; omega
  have hM1 : ([UInt8.ofNat 10]).length + (Cd.uB id).length ≤ maxLen := by unfold maxLen; omega
  have hM2 : (([UInt8.ofNat 10]).length + (Cd.uB id).length) * 1 ≤ 140737488355328 := by omega
  have HM1 := Lib.hid hM1
  have HM2 := Lib.hid hM2
  have HNW := Lib.hid hn
  clear hm iq Bq hn hM hM1 hM2 c0 c1 c2 c3 c4 f1 f2 f4 f5
  go_wp2_with (at_builtin; refine wpList_append_own_at _ rfl _ _ 22 rfl (w2.heap.size + 1) 5 i0 (.int .u8 0) 1 1 Try.underlying22 hi hz0 hz1 hz2 rfl (by decide) _ _ _ rfl G0.out.own ad _ _ (Cd.bytesV (Cd.uB id)) rfl (bytesV_len _) HNW.out (bytes_one _) HM1.out HM2.out G0.out.size ?_; intro v0 y0 ho hg _ _; have H1 := Lib.hid (G0.out.app ho hg); have c0 := H1.out.ev.cell 0; have c1 := H1.out.ev.cell 1; have c2 := H1.out.ev.cell 2; have c3 := H1.out.ev.cell 3; have c4 := H1.out.ev.cell 4; have f1 := H1.out.has.cell 1; have f2 := H1.out.has.cell 2; have f4 := H1.out.has.cell 4; have f5 := H1.out.has.cell 5; simp only [List.getElem?_cons_succ, List.getElem?_cons_zero] at c0 c1 c2 c3 c4 f1 f2 f4 f5; clear ho hg)
  refine (putInt_any _ i HI.out.1 HI.out.2).mono ?_
  rintro e x1 hm
  obtain ⟨Aq, cq, rfl, iq, Bq⟩ := hm.bs
  have G1 := Lib.hid (H1.out.step Bq)
  obtain ⟨ad, rfl, hn⟩ := in_cells iq (uB_pos _)
  have hM : ([UInt8.ofNat 10] ++ Cd.uB id).length + (Cd.uB (Cd.zig i)).length ≤ 6000000 := by simp only [List.length_append, List.length_cons, List.length_nil]; omega
  have hM1 : ([UInt8.ofNat 10] ++ Cd.uB id).length + (Cd.uB (Cd.zig i)).length ≤ maxLen := by unfold maxLen; omega
  have hM2 : (([UInt8.ofNat 10] ++ Cd.uB id).length + (Cd.uB (Cd.zig i)).length) * 1 ≤ 140737488355328 := by omega
  have HM1 := Lib.hid hM1
  have HM2 := Lib.hid hM2
  have HNW := Lib.hid hn
  clear hm iq Bq hn hM hM1 hM2 c0 c1 c2 c3 c4 f1 f2 f4 f5
  go_wp2_with (at_builtin; refine wpList_append_own_at _ rfl _ _ 22 rfl (w2.heap.size + 1) 5 i0 (.int .u8 0) 1 1 Try.underlying22 hi hz0 hz1 hz2 rfl (by decide) _ _ _ rfl G1.out.own ad _ _ (Cd.bytesV (Cd.uB (Cd.zig i))) rfl (bytesV_len _) HNW.out (bytes_one _) HM1.out HM2.out G1.out.size ?_; intro v1 y1 ho hg _ _; have H2 := Lib.hid (G1.out.app ho hg); have c0 := H2.out.ev.cell 0; have c1 := H2.out.ev.cell 1; have c2 := H2.out.ev.cell 2; have c3 := H2.out.ev.cell 3; have c4 := H2.out.ev.cell 4; have f1 := H2.out.has.cell 1; have f2 := H2.out.has.cell 2; have f4 := H2.out.has.cell 4; have f5 := H2.out.has.cell 5; simp only [List.getElem?_cons_succ, List.getElem?_cons_zero] at c0 c1 c2 c3 c4 f1 f2 f4 f5; clear ho hg)
  go_ret2
  have hev : evB ⟨10, id, nm, xs, i⟩ = [UInt8.ofNat 10] ++ Cd.uB id ++ Cd.uB (Cd.zig i) := by simp [evB, hasId, hasName, hasValue, hasInt]
  unfold MadeV
  rw [hev]
  exact ⟨_, rfl, H2.out.own.mono H2.out.lo, H2.out.bel⟩
set_option maxRecDepth 20000 in
set_option maxHeartbeats 4000000 in
theorem evBytes_11 (id : Nat) (nm : List UInt8) (xs : List Nd) (i : Int) (hx : EvRaw ⟨11, id, nm, xs, i⟩) (hok : evOk ⟨11, id, nm, xs, i⟩ = true) (A : Option Addr) (n cap : Nat) (w : World) (hv : VIn w A n xs) :
    Calls Try.prog 14 #[evV ⟨11, id, nm, xs, i⟩ A n cap] w (MadeV w (evB ⟨11, id, nm, xs, i⟩)) := by
  obtain ⟨i0, hi, hz0, hz1, hz2⟩ := info_parts info_u8
  have HC : Hid (∀ W, Below w.heap.size w W → Calls Try.prog 16 #[.agg #[.int .u8 (11 : Int), .int .i64 (id : Int), .string ⟨nm.toArray⟩, .slice A n cap, .int .i64 i]] W fun e w' => e = .returned (.int .i64 0) ∧ Below W.heap.size W w') := fun W hW => by
    have := evCheck_any ⟨11, id, nm, xs, i⟩ hx A n cap W (hv.below hW)
    rw [hok] at this
    exact this
  have HF : Hid (∀ W, Calls Try.prog 32 #[.int .u8 (11 : Int)] W fun e w' => e = .returned (.agg #[.bool true, .bool true, .bool false, .bool false, .bool false, .bool false, .int .i64 (hLeast 11), .int .i64 (hMost 11)]) ∧ Below W.heap.size W w') := fun W => fields_any 11 (by decide) W
  have lu : (Cd.uB id).length ≤ 10 := Cd.uB_len10 (by have := hx.id_le; simp only at this; omega)
  have lt : (Cd.textB nm).length ≤ 1000010 := by have := hx.name_le; simp only at this; have h2 := Cd.uB_len10 (n := nm.length) (by omega); simp only [Cd.textB, List.length_append]; omega
  have li : (Cd.uB (Cd.zig i)).length ≤ 10 := Cd.uB_len10 (zig_lt i hx.i64.1 hx.i64.2)
  have HI := Lib.hid hx.i64
  have HN : Hid (id ≤ 500 ∧ nm.length ≤ 1000000) := ⟨hx.id_le, hx.name_le⟩
  have idr : (id : Int) ≤ 500 := by have := hx.id_le; simp only at this; omega
  clear hx hok hv
  unfold evV
  go_enter Try.func14, Try.ntmps14
  go_wp2_with fail
  have b0 : Below w.heap.size w (w.alloc (.cells #[.int .u8 (11 : Int), .int .i64 (id : Int), .string ⟨nm.toArray⟩, .slice A n cap, .int .i64 i] 27)) := (Below.refl _ _).alloc (Nat.le_refl _) _
  have k0 : Blk (w.alloc (.cells #[.int .u8 (11 : Int), .int .i64 (id : Int), .string ⟨nm.toArray⟩, .slice A n cap, .int .i64 i] 27)) w.heap.size 27 [.int .u8 (11 : Int), .int .i64 (id : Int), .string ⟨nm.toArray⟩, .slice A n cap, .int .i64 i] := heap_alloc_new w _
  have s0 : w.heap.size < (w.alloc (.cells #[.int .u8 (11 : Int), .int .i64 (id : Int), .string ⟨nm.toArray⟩, .slice A n cap, .int .i64 i] 27)).heap.size := by simp
  refine (HC.out _ b0).mono ?_
  rintro e w1 ⟨rfl, B1⟩
  have k1 := k0.bel B1
  have b1 := b0.trans (B1.mono (Nat.le_of_lt s0))
  have s1 := Nat.lt_of_lt_of_le s0 B1.size
  have c0 := k1.cell 0
  simp only [List.getElem?_cons_succ, List.getElem?_cons_zero] at c0
  clear b0 k0 s0 B1
  go_wp2_with fail
  refine (HF.out _).mono ?_
  rintro e w2 ⟨rfl, B2⟩
  have k2 := k1.bel B2
  have b2 := b1.trans (B2.mono b1.size)
  have s2 := Nat.lt_of_lt_of_le s1 B2.size
  clear k1 b1 s1 B2 c0
  have k3 := k2.alloc (.cells #[.bool true, .bool true, .bool false, .bool false, .bool false, .bool false, .int .i64 (hLeast 11), .int .i64 (hMost 11)] 70)
  have q3 : Blk (w2.alloc (.cells #[.bool true, .bool true, .bool false, .bool false, .bool false, .bool false, .int .i64 (hLeast 11), .int .i64 (hMost 11)] 70)) w2.heap.size 70 [.bool true, .bool true, .bool false, .bool false, .bool false, .bool false, .int .i64 (hLeast 11), .int .i64 (hMost 11)] := heap_alloc_new w2 _
  have own : ((w2.alloc (.cells #[.bool true, .bool true, .bool false, .bool false, .bool false, .bool false, .int .i64 (hLeast 11), .int .i64 (hMost 11)] 70)).alloc (.cells #[.int .u8 (11 : Int)] 5)).ownsRow (w2.alloc (.cells #[.bool true, .bool true, .bool false, .bool false, .bool false, .bool false, .int .i64 (hLeast 11), .int .i64 (hMost 11)] 70)).heap.size 5 1 (.slice (some ⟨(w2.alloc (.cells #[.bool true, .bool true, .bool false, .bool false, .bool false, .bool false, .int .i64 (hLeast 11), .int .i64 (hMost 11)] 70)).heap.size, 0, none⟩) 1 1) ([UInt8.ofNat 11] : List UInt8).length (Cd.bytesV [UInt8.ofNat 11]) := own_build _ (UInt8.ofNat 11)
  rw [show (w2.alloc (.cells #[.bool true, .bool true, .bool false, .bool false, .bool false, .bool false, .int .i64 (hLeast 11), .int .i64 (hMost 11)] 70)).heap.size = w2.heap.size + 1 from by simp] at own
  have H0 := Lib.hid (show BW w ((w2.alloc (.cells #[.bool true, .bool true, .bool false, .bool false, .bool false, .bool false, .int .i64 (hLeast 11), .int .i64 (hMost 11)] 70)).alloc (.cells #[.int .u8 (11 : Int)] 5)) w.heap.size w2.heap.size (w2.heap.size + 1) [.int .u8 (11 : Int), .int .i64 (id : Int), .string ⟨nm.toArray⟩, .slice A n cap, .int .i64 i] [.bool true, .bool true, .bool false, .bool false, .bool false, .bool false, .int .i64 (hLeast 11), .int .i64 (hMost 11)] (.slice (some ⟨w2.heap.size + 1, 0, none⟩) 1 1) [UInt8.ofNat 11] from
    ⟨by omega, by simp, by omega, by omega, (b2.alloc (by omega) _).alloc (by simp; omega) _, k3.alloc _, q3.alloc _, own⟩)
  have t0 := k3.cell 0
  simp only [List.getElem?_cons_succ, List.getElem?_cons_zero] at t0
  have hne : w.heap.size ≠ w2.heap.size := by omega
  clear k2 k3 q3 own b2
  have c0 := H0.out.ev.cell 0
  have c1 := H0.out.ev.cell 1
  have c2 := H0.out.ev.cell 2
  have c3 := H0.out.ev.cell 3
  have c4 := H0.out.ev.cell 4
  have f1 := H0.out.has.cell 1
  have f2 := H0.out.has.cell 2
  have f4 := H0.out.has.cell 4
  have f5 := H0.out.has.cell 5
  simp only [List.getElem?_cons_succ, List.getElem?_cons_zero] at c0 c1 c2 c3 c4 f1 f2 f4 f5
  go_wp2_with fail
  refine (putUint_any _ id (by omega)).mono ?_
  rintro e x0 hm
  obtain ⟨Aq, cq, rfl, iq, Bq⟩ := hm.bs
  have G0 := Lib.hid (H0.out.step Bq)
  obtain ⟨ad, rfl, hn⟩ := in_cells iq (uB_pos _)
  have hM : ([UInt8.ofNat 11]).length + (Cd.uB id).length ≤ 6000000 := by simp only [List.length_append, List.length_cons, List.length_nil]; omega
  have hM1 : ([UInt8.ofNat 11]).length + (Cd.uB id).length ≤ maxLen := by unfold maxLen; omega
  have hM2 : (([UInt8.ofNat 11]).length + (Cd.uB id).length) * 1 ≤ 140737488355328 := by omega
  have HM1 := Lib.hid hM1
  have HM2 := Lib.hid hM2
  have HNW := Lib.hid hn
  clear hm iq Bq hn hM hM1 hM2 c0 c1 c2 c3 c4 f1 f2 f4 f5
  go_wp2_with (at_builtin; refine wpList_append_own_at _ rfl _ _ 22 rfl (w2.heap.size + 1) 5 i0 (.int .u8 0) 1 1 Try.underlying22 hi hz0 hz1 hz2 rfl (by decide) _ _ _ rfl G0.out.own ad _ _ (Cd.bytesV (Cd.uB id)) rfl (bytesV_len _) HNW.out (bytes_one _) HM1.out HM2.out G0.out.size ?_; intro v0 y0 ho hg _ _; have H1 := Lib.hid (G0.out.app ho hg); have c0 := H1.out.ev.cell 0; have c1 := H1.out.ev.cell 1; have c2 := H1.out.ev.cell 2; have c3 := H1.out.ev.cell 3; have c4 := H1.out.ev.cell 4; have f1 := H1.out.has.cell 1; have f2 := H1.out.has.cell 2; have f4 := H1.out.has.cell 4; have f5 := H1.out.has.cell 5; simp only [List.getElem?_cons_succ, List.getElem?_cons_zero] at c0 c1 c2 c3 c4 f1 f2 f4 f5; clear ho hg)
  go_ret2
  have hev : evB ⟨11, id, nm, xs, i⟩ = [UInt8.ofNat 11] ++ Cd.uB id := by simp [evB, hasId, hasName, hasValue, hasInt]
  unfold MadeV
  rw [hev]
  exact ⟨_, rfl, H1.out.own.mono H1.out.lo, H1.out.bel⟩
set_option maxRecDepth 20000 in
set_option maxHeartbeats 4000000 in
theorem evBytes_12 (id : Nat) (nm : List UInt8) (xs : List Nd) (i : Int) (hx : EvRaw ⟨12, id, nm, xs, i⟩) (hok : evOk ⟨12, id, nm, xs, i⟩ = true) (A : Option Addr) (n cap : Nat) (w : World) (hv : VIn w A n xs) :
    Calls Try.prog 14 #[evV ⟨12, id, nm, xs, i⟩ A n cap] w (MadeV w (evB ⟨12, id, nm, xs, i⟩)) := by
  obtain ⟨i0, hi, hz0, hz1, hz2⟩ := info_parts info_u8
  have HC : Hid (∀ W, Below w.heap.size w W → Calls Try.prog 16 #[.agg #[.int .u8 (12 : Int), .int .i64 (id : Int), .string ⟨nm.toArray⟩, .slice A n cap, .int .i64 i]] W fun e w' => e = .returned (.int .i64 0) ∧ Below W.heap.size W w') := fun W hW => by
    have := evCheck_any ⟨12, id, nm, xs, i⟩ hx A n cap W (hv.below hW)
    rw [hok] at this
    exact this
  have HF : Hid (∀ W, Calls Try.prog 32 #[.int .u8 (12 : Int)] W fun e w' => e = .returned (.agg #[.bool true, .bool false, .bool true, .bool false, .bool true, .bool false, .int .i64 (hLeast 12), .int .i64 (hMost 12)]) ∧ Below W.heap.size W w') := fun W => fields_any 12 (by decide) W
  have lu : (Cd.uB id).length ≤ 10 := Cd.uB_len10 (by have := hx.id_le; simp only at this; omega)
  have lt : (Cd.textB nm).length ≤ 1000010 := by have := hx.name_le; simp only at this; have h2 := Cd.uB_len10 (n := nm.length) (by omega); simp only [Cd.textB, List.length_append]; omega
  have li : (Cd.uB (Cd.zig i)).length ≤ 10 := Cd.uB_len10 (zig_lt i hx.i64.1 hx.i64.2)
  have hVO := hx.ok rfl
  simp only at hVO
  have lv : (flatB xs).length ≤ 4300000 := by
    have h1 := flatB_len xs (fun y hy => by
      obtain ⟨j, hj, rfl⟩ := List.getElem_of_mem hy
      have := hVO.1.seq.fit j
      rw [List.getElem?_eq_getElem hj] at this
      exact ⟨this.1, hVO.2 _ hy, this.2.1⟩)
    have h2 := hVO.1.seq.few
    omega
  have HV := Lib.hid hVO
  have HI := Lib.hid hx.i64
  have HN : Hid (id ≤ 500 ∧ nm.length ≤ 1000000) := ⟨hx.id_le, hx.name_le⟩
  obtain ⟨g, rfl, rfl, hgw, hR⟩ : ∃ g, A = some ⟨g, 0, none⟩ ∧ n = xs.length ∧ g < w.heap.size ∧ RowOf w g xs := by
    rcases hv with ⟨h0, _⟩ | h0
    · have := hVO.1.pos; simp [h0] at this
    · exact h0
  have HR := Lib.hid hR
  have idr : (id : Int) ≤ 500 := by have := hx.id_le; simp only at this; omega
  clear hx hok hVO hR
  unfold evV
  go_enter Try.func14, Try.ntmps14
  go_wp2_with fail
  have b0 : Below w.heap.size w (w.alloc (.cells #[.int .u8 (12 : Int), .int .i64 (id : Int), .string ⟨nm.toArray⟩, .slice (some ⟨g, 0, none⟩) xs.length cap, .int .i64 i] 27)) := (Below.refl _ _).alloc (Nat.le_refl _) _
  have k0 : Blk (w.alloc (.cells #[.int .u8 (12 : Int), .int .i64 (id : Int), .string ⟨nm.toArray⟩, .slice (some ⟨g, 0, none⟩) xs.length cap, .int .i64 i] 27)) w.heap.size 27 [.int .u8 (12 : Int), .int .i64 (id : Int), .string ⟨nm.toArray⟩, .slice (some ⟨g, 0, none⟩) xs.length cap, .int .i64 i] := heap_alloc_new w _
  have s0 : w.heap.size < (w.alloc (.cells #[.int .u8 (12 : Int), .int .i64 (id : Int), .string ⟨nm.toArray⟩, .slice (some ⟨g, 0, none⟩) xs.length cap, .int .i64 i] 27)).heap.size := by simp
  refine (HC.out _ b0).mono ?_
  rintro e w1 ⟨rfl, B1⟩
  have k1 := k0.bel B1
  have b1 := b0.trans (B1.mono (Nat.le_of_lt s0))
  have s1 := Nat.lt_of_lt_of_le s0 B1.size
  have c0 := k1.cell 0
  simp only [List.getElem?_cons_succ, List.getElem?_cons_zero] at c0
  clear b0 k0 s0 B1
  go_wp2_with fail
  refine (HF.out _).mono ?_
  rintro e w2 ⟨rfl, B2⟩
  have k2 := k1.bel B2
  have b2 := b1.trans (B2.mono b1.size)
  have s2 := Nat.lt_of_lt_of_le s1 B2.size
  clear k1 b1 s1 B2 c0
  have k3 := k2.alloc (.cells #[.bool true, .bool false, .bool true, .bool false, .bool true, .bool false, .int .i64 (hLeast 12), .int .i64 (hMost 12)] 70)
  have q3 : Blk (w2.alloc (.cells #[.bool true, .bool false, .bool true, .bool false, .bool true, .bool false, .int .i64 (hLeast 12), .int .i64 (hMost 12)] 70)) w2.heap.size 70 [.bool true, .bool false, .bool true, .bool false, .bool true, .bool false, .int .i64 (hLeast 12), .int .i64 (hMost 12)] := heap_alloc_new w2 _
  have own : ((w2.alloc (.cells #[.bool true, .bool false, .bool true, .bool false, .bool true, .bool false, .int .i64 (hLeast 12), .int .i64 (hMost 12)] 70)).alloc (.cells #[.int .u8 (12 : Int)] 5)).ownsRow (w2.alloc (.cells #[.bool true, .bool false, .bool true, .bool false, .bool true, .bool false, .int .i64 (hLeast 12), .int .i64 (hMost 12)] 70)).heap.size 5 1 (.slice (some ⟨(w2.alloc (.cells #[.bool true, .bool false, .bool true, .bool false, .bool true, .bool false, .int .i64 (hLeast 12), .int .i64 (hMost 12)] 70)).heap.size, 0, none⟩) 1 1) ([UInt8.ofNat 12] : List UInt8).length (Cd.bytesV [UInt8.ofNat 12]) := own_build _ (UInt8.ofNat 12)
  rw [show (w2.alloc (.cells #[.bool true, .bool false, .bool true, .bool false, .bool true, .bool false, .int .i64 (hLeast 12), .int .i64 (hMost 12)] 70)).heap.size = w2.heap.size + 1 from by simp] at own
  have H0 := Lib.hid (show BW w ((w2.alloc (.cells #[.bool true, .bool false, .bool true, .bool false, .bool true, .bool false, .int .i64 (hLeast 12), .int .i64 (hMost 12)] 70)).alloc (.cells #[.int .u8 (12 : Int)] 5)) w.heap.size w2.heap.size (w2.heap.size + 1) [.int .u8 (12 : Int), .int .i64 (id : Int), .string ⟨nm.toArray⟩, .slice (some ⟨g, 0, none⟩) xs.length cap, .int .i64 i] [.bool true, .bool false, .bool true, .bool false, .bool true, .bool false, .int .i64 (hLeast 12), .int .i64 (hMost 12)] (.slice (some ⟨w2.heap.size + 1, 0, none⟩) 1 1) [UInt8.ofNat 12] from
    ⟨by omega, by simp, by omega, by omega, (b2.alloc (by omega) _).alloc (by simp; omega) _, k3.alloc _, q3.alloc _, own⟩)
  have t0 := k3.cell 0
  simp only [List.getElem?_cons_succ, List.getElem?_cons_zero] at t0
  have hne : w.heap.size ≠ w2.heap.size := by omega
  clear k2 k3 q3 own b2
  have c0 := H0.out.ev.cell 0
  have c1 := H0.out.ev.cell 1
  have c2 := H0.out.ev.cell 2
  have c3 := H0.out.ev.cell 3
  have c4 := H0.out.ev.cell 4
  have f1 := H0.out.has.cell 1
  have f2 := H0.out.has.cell 2
  have f4 := H0.out.has.cell 4
  have f5 := H0.out.has.cell 5
  simp only [List.getElem?_cons_succ, List.getElem?_cons_zero] at c0 c1 c2 c3 c4 f1 f2 f4 f5
  go_wp2_with fail
  refine (putText_any _ ⟨nm.toArray⟩ (by have := HN.out.2; show nm.toArray.size + 10 ≤ _; simp; omega)).mono ?_
  rintro e x0 hm
  replace hm : Made _ (Cd.textB nm) e x0 := hm
  obtain ⟨Aq, cq, rfl, iq, Bq⟩ := hm.bs
  have G0 := Lib.hid (H0.out.step Bq)
  obtain ⟨ad, rfl, hn⟩ := in_cells iq (by simp only [Cd.textB, List.length_append]; have := uB_pos nm.length; omega)
  have hM : ([UInt8.ofNat 12]).length + (Cd.textB nm).length ≤ 6000000 := by simp only [List.length_append, List.length_cons, List.length_nil]; omega
  have hM1 : ([UInt8.ofNat 12]).length + (Cd.textB nm).length ≤ maxLen := by unfold maxLen; omega
  have hM2 : (([UInt8.ofNat 12]).length + (Cd.textB nm).length) * 1 ≤ 140737488355328 := by omega
  have HM1 := Lib.hid hM1
  have HM2 := Lib.hid hM2
  have HNW := Lib.hid hn
  clear hm iq Bq hn hM hM1 hM2 c0 c1 c2 c3 c4 f1 f2 f4 f5
  go_wp2_with (at_builtin; refine wpList_append_own_at _ rfl _ _ 22 rfl (w2.heap.size + 1) 5 i0 (.int .u8 0) 1 1 Try.underlying22 hi hz0 hz1 hz2 rfl (by decide) _ _ _ rfl G0.out.own ad _ _ (Cd.bytesV (Cd.textB nm)) rfl (bytesV_len _) HNW.out (bytes_one _) HM1.out HM2.out G0.out.size ?_; intro v0 y0 ho hg _ _; have H1 := Lib.hid (G0.out.app ho hg); have c0 := H1.out.ev.cell 0; have c1 := H1.out.ev.cell 1; have c2 := H1.out.ev.cell 2; have c3 := H1.out.ev.cell 3; have c4 := H1.out.ev.cell 4; have f1 := H1.out.has.cell 1; have f2 := H1.out.has.cell 2; have f4 := H1.out.has.cell 4; have f5 := H1.out.has.cell 5; simp only [List.getElem?_cons_succ, List.getElem?_cons_zero] at c0 c1 c2 c3 c4 f1 f2 f4 f5; clear ho hg)
  refine (putValue_ok g cap xs HV.out.1 HV.out.2 _ (Nat.lt_of_lt_of_le hgw H1.out.bel.size) (HR.out.below H1.out.bel hgw)).mono ?_
  rintro e x1 hm
  obtain ⟨Aq, cq, rfl, iq, Bq⟩ := hm.bs
  have G1 := Lib.hid (H1.out.step Bq)
  obtain ⟨ad, rfl, hn⟩ := in_cells iq (flatB_pos HV.out.1)
  have hM : ([UInt8.ofNat 12] ++ Cd.textB nm).length + (flatB xs).length ≤ 6000000 := by simp only [List.length_append, List.length_cons, List.length_nil]; omega
  have hM1 : ([UInt8.ofNat 12] ++ Cd.textB nm).length + (flatB xs).length ≤ maxLen := by unfold maxLen; omega
  have hM2 : (([UInt8.ofNat 12] ++ Cd.textB nm).length + (flatB xs).length) * 1 ≤ 140737488355328 := by omega
  have HM1 := Lib.hid hM1
  have HM2 := Lib.hid hM2
  have HNW := Lib.hid hn
  clear hm iq Bq hn hM hM1 hM2 c0 c1 c2 c3 c4 f1 f2 f4 f5
  go_wp2_with (at_builtin; refine wpList_append_own_at _ rfl _ _ 22 rfl (w2.heap.size + 1) 5 i0 (.int .u8 0) 1 1 Try.underlying22 hi hz0 hz1 hz2 rfl (by decide) _ _ _ rfl G1.out.own ad _ _ (Cd.bytesV (flatB xs)) rfl (bytesV_len _) HNW.out (bytes_one _) HM1.out HM2.out G1.out.size ?_; intro v1 y1 ho hg _ _; have H2 := Lib.hid (G1.out.app ho hg); have c0 := H2.out.ev.cell 0; have c1 := H2.out.ev.cell 1; have c2 := H2.out.ev.cell 2; have c3 := H2.out.ev.cell 3; have c4 := H2.out.ev.cell 4; have f1 := H2.out.has.cell 1; have f2 := H2.out.has.cell 2; have f4 := H2.out.has.cell 4; have f5 := H2.out.has.cell 5; simp only [List.getElem?_cons_succ, List.getElem?_cons_zero] at c0 c1 c2 c3 c4 f1 f2 f4 f5; clear ho hg)
  go_ret2
  have hev : evB ⟨12, id, nm, xs, i⟩ = [UInt8.ofNat 12] ++ Cd.textB nm ++ flatB xs := by simp [evB, hasId, hasName, hasValue, hasInt]
  unfold MadeV
  rw [hev]
  exact ⟨_, rfl, H2.out.own.mono H2.out.lo, H2.out.bel⟩
theorem evBytes_any (x : Ev) (hx : EvRaw x) (hok : evOk x = true) (A : Option Addr) (n cap : Nat) (w : World) (hv : VIn w A n x.val) :
    Calls Try.prog 14 #[evV x A n cap] w (MadeV w (evB x)) := by
  obtain ⟨k, id, nm, xs, i⟩ := x
  have hk := hx.kind
  simp only at hk
  have h : k = 1 ∨ k = 2 ∨ k = 3 ∨ k = 4 ∨ k = 5 ∨ k = 6 ∨ k = 7 ∨ k = 8 ∨ k = 9 ∨ k = 10 ∨ k = 11 ∨ k = 12 := by omega
  rcases h with rfl | rfl | rfl | rfl | rfl | rfl | rfl | rfl | rfl | rfl | rfl | rfl
  · exact evBytes_1 id nm xs i hx hok A n cap w hv
  · exact evBytes_2 id nm xs i hx hok A n cap w hv
  · exact evBytes_3 id nm xs i hx hok A n cap w hv
  · exact evBytes_4 id nm xs i hx hok A n cap w hv
  · exact evBytes_5 id nm xs i hx hok A n cap w hv
  · exact evBytes_6 id nm xs i hx hok A n cap w hv
  · exact evBytes_7 id nm xs i hx hok A n cap w hv
  · exact evBytes_8 id nm xs i hx hok A n cap w hv
  · exact evBytes_9 id nm xs i hx hok A n cap w hv
  · exact evBytes_10 id nm xs i hx hok A n cap w hv
  · exact evBytes_11 id nm xs i hx hok A n cap w hv
  · exact evBytes_12 id nm xs i hx hok A n cap w hv
end Go.Proofs.Yticipdjfkpakpaa
