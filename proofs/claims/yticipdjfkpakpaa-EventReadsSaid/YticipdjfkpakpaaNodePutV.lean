/- code.PutValue: the bytes of a value. -/
import Derived.Test.YticipdjfkpakpaaNodePut
namespace Go.Proofs.Yticipdjfkpakpaa
open Go.RowKit
attribute [local go_sem] run_store_cx'

/-- the bytes of a node behind its kind -/
def tailB (x : Nd) : List UInt8 :=
  if x.kind = 1 then [UInt8.ofNat x.int.toNat] else if x.kind = 2 then Cd.uB (Cd.zig x.int) else if x.kind = 3 then Cd.textB x.text else if x.kind = 4 then numB x.re x.im else if x.kind = 5 then Cd.uB x.kids else []
def ndB (x : Nd) : List UInt8 := UInt8.ofNat x.kind :: tailB x
def flatB (xs : List Nd) : List UInt8 := xs.flatMap ndB
theorem flatB_snoc (xs : List Nd) (x : Nd) : flatB (xs ++ [x]) = flatB xs ++ ndB x := by simp [flatB]

/-- a whole number that fits -/
def I64 (n : Int) : Prop := -9223372036854775808 ≤ n ∧ n ≤ 9223372036854775807
theorem tailB_len {x : Nd} (h : x.ok) (hi : I64 x.int) (ht : x.text.length ≤ 4096) : (tailB x).length ≤ 4110 := by
  unfold tailB
  have z := Cd.uB_len10 (zig_lt x.int hi.1 hi.2)
  have k := Cd.uB_len10 (n := x.kids) (by have := h.kids_le; omega)
  have u := Cd.uB_len10 (n := x.text.length) (by omega)
  split
  · simp
  · split
    · omega
    · split
      · simp [Cd.textB]; omega
      · split
        · simp [numB, be8_length]
        · split
          · omega
          · simp
theorem flatB_len (xs : List Nd) (h : ∀ x ∈ xs, x.ok ∧ I64 x.int ∧ x.text.length ≤ 4096) : (flatB xs).length ≤ 4111 * xs.length := by
  induction xs with
  | nil => simp [flatB]
  | cons x xs ih =>
    have h1 := tailB_len (h x (by simp)).1 (h x (by simp)).2.1 (h x (by simp)).2.2
    have h2 := ih (fun y hy => h y (by simp [hy]))
    have e : flatB (x :: xs) = ndB x ++ flatB xs := by simp [flatB]
    rw [e, List.length_append, List.length_cons]
    simp only [ndB, List.length_cons]
    omega

def nodeObj (x : Nd) : Obj := .cells #[.int .u8 x.kind, .int .i64 x.kids, .int .i64 x.int, .string ⟨x.text.toArray⟩, .complex .f64 x.re x.im] 40
theorem box_kept {wr w1 : World} {base n : Nat} {v : Value} {xs : List Value} {x : Nd} {o : Obj} (ho : wr.ownsRow base 5 1 v n xs)
    (hg : ((wr.alloc (nodeObj x)).alloc o).grownBy w1 v.ownBlock) : NodeAt w1 wr.heap.size x := by
  have h1 : ((wr.alloc (nodeObj x)).alloc o).heap[wr.heap.size]? = some (nodeObj x) := (Below.heap_alloc (wr.alloc (nodeObj x)) o wr.heap.size (by simp)).trans (heap_alloc_new wr _)
  refine (hg.block wr.heap.size (by simp; omega) (fun e => ?_)).trans h1
  have := (ho.lt _ e.symm).2
  omega
theorem node_cell {w : World} {B : Nat} {x : Nd} (h : NodeAt w B x) (j : Nat) : w.cell? ⟨B, j, none⟩ = x.cells[j]? := by
  rw [cell_of_row w B j _ _ _ h, List.getElem?_toArray]; rfl

theorem own_step {w2 : World} {base : Nat} {v : Value} {acc l : List UInt8} {x : Nd} (h : w2.ownsRow base 5 1 v (acc.length + 1 + l.length) ((Cd.bytesV acc ++ [.int .u8 (x.kind : Int)]) ++ Cd.bytesV l)) (hx : tailB x = l) (hk : x.kind < 256) :
    w2.ownsRow base 5 1 v (acc ++ ndB x).length (Cd.bytesV (acc ++ ndB x)) := by
  subst hx
  have e1 : (acc ++ ndB x).length = acc.length + 1 + (tailB x).length := by simp [ndB]; omega
  have e2 : Cd.bytesV (acc ++ ndB x) = (Cd.bytesV acc ++ [.int .u8 (x.kind : Int)]) ++ Cd.bytesV (tailB x) := by
    have e3 : ndB x = [UInt8.ofNat x.kind] ++ tailB x := rfl
    rw [e3, Cd.bytesV_append, Cd.bytesV_append, ← List.append_assoc]
    congr 2
    simp only [Cd.bytesV, List.map_cons, List.map_nil, Cd.byteV]
    rw [u8lit _ hk]
  rw [e1, e2]; exact h

theorem cell_new2 (w : World) (o : Obj) (x : Value) (t : TypeId) : ∀ j u, [x][j]? = some u → ((w.alloc o).alloc (.cells #[x] t)).cell? ((⟨w.heap.size + 1, 0, none⟩ : Addr).add j) = some u := by
  have := cell_one_new (w.alloc o) x t
  rwa [World.size_alloc] at this

/-- what PutValue hands back -/
def MadeV (w : World) (l : List UInt8) (e : Ending) (w' : World) : Prop :=
  ∃ v', e = .returned (.tuple #[v', .int .i64 0]) ∧ w'.ownsRow w.heap.size 5 1 v' l.length (Cd.bytesV l) ∧ Below w.heap.size w w'

set_option maxRecDepth 20000 in
set_option maxHeartbeats 4000000 in
theorem putValue_ok (g cap : Nat) (xs : List Nd) (hV : ValOk xs) (hI64 : ∀ x ∈ xs, I64 x.int) (w : World) (hg : g < w.heap.size) (hI : RowOf w g xs) :
    Calls Try.prog 35 #[.slice (some ⟨g, 0, none⟩) xs.length cap] w (MadeV w (flatB xs)) := by
  obtain ⟨i0, hi, hz0, hz1, hz2⟩ := info_parts info_u8
  have HC := Lib.hid (fun W hgW hIW => check_ok g cap xs hV W hgW hIW)
  have hok : ∀ k (h : k < xs.length), (xs[k]).ok ∧ (xs[k]).text.length ≤ 4096 := fun k h => by
    have := hV.seq.fit k
    rw [List.getElem?_eq_getElem h] at this
    exact ⟨this.1, this.2.1⟩
  have HO := Lib.hid hok
  have HI := Lib.hid hI64
  have hall : ∀ x ∈ xs, x.ok ∧ I64 x.int ∧ x.text.length ≤ 4096 := fun x hx => by
    obtain ⟨k, hk, rfl⟩ := List.getElem_of_mem hx
    exact ⟨(hok k hk).1, hI64 _ hx, (hok k hk).2⟩
  have HA := Lib.hid hall
  have HF := Lib.hid hV.seq.few
  have HR := Lib.hid hI
  clear hok hI64 hall hI
  go_enter Try.func35, Try.ntmps35
  go_wp2_with fail
  refine (HC.out w hg HR.out).mono ?_
  rintro e W0 ⟨rfl, hB0⟩
  clear hV HC
  go_wp2_with fail
  go_loopw [5, 15] (fun b i wr => ∃ (k : Nat), k ≤ xs.length ∧ i = .int .i64 (k : Int) ∧ wr.ownsRow w.heap.size 5 1 b (flatB (xs.take k)).length (Cd.bytesV (flatB (xs.take k))) ∧ Below w.heap.size w wr) (fun _ i _ => xs.length - (intOf i).toNat)
  case atStart => exact ⟨0, by omega, rfl, by simpa [flatB, Cd.bytesV] using World.ownsRow_nil _ _ _ _, hB0⟩
  case round =>
    obtain ⟨k, hk, rfl, ho, hB⟩ := hrel
    by_cases hlt : k < xs.length
    · have hlt1 : (k : Int) < (xs.length : Int) := by omega
      obtain ⟨hx, htx⟩ := HO.out k hlt
      have hxi := HI.out _ (List.getElem_mem hlt)
      have hsn : flatB (xs.take (k + 1)) = flatB (xs.take k) ++ ndB xs[k] := by rw [← flatB_snoc, ← List.take_succ_eq_append_getElem hlt]
      have HS := Lib.hid hsn
      have hl := flatB_len (xs.take k) (fun y hy => HA.out y (List.mem_of_mem_take hy))
      have hl2 : (flatB (xs.take k)).length ≤ 4300000 := by have h1 := HF.out; have h2 : (xs.take k).length ≤ k := List.length_take_le _ _; omega
      have hcx : ∀ j, j < 5 → wr.cell? ⟨g, k * 5 + j, none⟩ = (xs[k]).cells[j]? := fun j hj => (hB.cell (p := ⟨g, k * 5 + j, none⟩) hg).trans (HR.out k hlt j hj)
      have c0 := hcx 0 (by omega)
      have c1 := hcx 1 (by omega)
      have c2 := hcx 2 (by omega)
      have c3 := hcx 3 (by omega)
      have c4 := hcx 4 (by omega)
      rw [Nat.add_zero] at c0
      simp only [Nd.cells, List.getElem?_cons_succ, List.getElem?_cons_zero] at c0 c1 c2 c3 c4
      unfold strV at c3
      have hgw : g < wr.heap.size := Nat.lt_of_lt_of_le hg hB.size
      have hbw := hB.size
      clear hcx hsn hl hk
      generalize xs[k] = x at *
      generalize flatB (xs.take k) = acc at *
      have HO' := Lib.hid ho
      have HX := Lib.hid hx
      have HXI := Lib.hid hxi
      have HT := Lib.hid htx
      have HL := Lib.hid hl2
      have hkd := hx.kind
      have hk1 : (k : Int) ≤ 1024 := by have := HF.out; omega
      clear hx hxi htx hl2
      have B1 : Hid (acc.length + 1 ≤ maxLen) := by have := HL.out; unfold Hid maxLen; omega
      have B2 : Hid ((acc.length + 1) * 1 ≤ 140737488355328) := by have := HL.out; unfold Hid; omega
      have B3 : Hid (∀ o o2 : Obj, w.heap.size ≤ ((wr.alloc o).alloc o2).heap.size) := by unfold Hid; simp; omega
      obtain ⟨kd, ki, nn, tt, pp, qq⟩ := x
      have hk6 : kd = 0 ∨ kd = 1 ∨ kd = 2 ∨ kd = 3 ∨ kd = 4 ∨ kd = 5 := by simp only at hkd; omega
      clear hkd
      simp only at c0 c1 c2 c3 c4
      rcases hk6 with rfl | rfl | rfl | rfl | rfl | rfl
      · go_wp2_with (at_builtin; refine wpList_append_own_at _ rfl (.tmp 19) (.tmp 22) 22 rfl w.heap.size 5 i0 (.int .u8 0) 1 1 Try.underlying22 hi hz0 hz1 hz2 rfl (by decide) _ _ _ rfl ((HO'.out.alloc _).alloc _) ⟨wr.heap.size + 1, 0, none⟩ 1 1 [.int .u8 0] rfl rfl (cell_new2 _ _ _ _) (by simp [Value.oneCell']) B1.out B2.out (B3.out _ _) ?_; intro v1 w1 hown1 hg1 _ hat1; have bx := box_kept (x := ⟨0, ki, nn, tt, pp, qq⟩) HO'.out hg1; have e0 := node_cell bx 0; have e1 := node_cell bx 1; have e2 := node_cell bx 2; have e3 := node_cell bx 3; have e4 := node_cell bx 4; simp only [Nd.cells, List.getElem?_cons_succ, List.getElem?_cons_zero, strV] at e0 e1 e2 e3 e4; have hs1 := hg1.size; simp only [World.size_alloc] at hs1; clear c0 c1 c2 c3 c4)
        go_roundw
        case rel => exact ⟨k + 1, by omega, by go_num, by rw [HS.out]; exact own_step (x := ⟨0, ki, nn, tt, pp, qq⟩) (acc := acc) (l := []) (by simpa [Cd.bytesV] using hown1) (rfl) (by simp only; omega), ((hB.alloc hbw _).alloc (by simp; omega) _).trans (below_grown ((HO'.out.alloc _).alloc _) (B3.out _ _) hg1)⟩
        case measure => simp [intOf]; omega
      · rcases HX.out.bool rfl with h01 | h01
        · simp only at h01
          subst h01
          have C1 : Hid (acc.length + 1 + 1 ≤ maxLen) := by have := HL.out; unfold Hid maxLen; omega
          have C2 : Hid ((acc.length + 1 + 1) * 1 ≤ 140737488355328) := by have := HL.out; unfold Hid; omega
          have tok : True := trivial
          go_wp2_with (first | (at_builtin; have _t := tok; refine wpList_append_own_at _ rfl (.tmp 19) (.tmp 22) 22 rfl w.heap.size 5 i0 (.int .u8 0) 1 1 Try.underlying22 hi hz0 hz1 hz2 rfl (by decide) _ _ _ rfl ((HO'.out.alloc _).alloc _) ⟨wr.heap.size + 1, 0, none⟩ 1 1 [.int .u8 1] rfl rfl (cell_new2 _ _ _ _) (by simp [Value.oneCell']) B1.out B2.out (B3.out _ _) ?_; intro v1 w1 hown1 hg1 _ hat1; have bx := box_kept (x := ⟨1, ki, 0, tt, pp, qq⟩) HO'.out hg1; have e0 := node_cell bx 0; have e1 := node_cell bx 1; have e2 := node_cell bx 2; have e3 := node_cell bx 3; have e4 := node_cell bx 4; simp only [Nd.cells, List.getElem?_cons_succ, List.getElem?_cons_zero, strV] at e0 e1 e2 e3 e4; have hs1 := hg1.size; simp only [World.size_alloc] at hs1; clear c0 c1 c2 c3 c4; have hbw1 := Nat.le_trans (B3.out _ _) hg1.size; clear tok; have tok2 : True := trivial) | (at_builtin; have _t := tok2; refine wpList_append_own_at _ rfl (.tmp 28) (.tmp 32) 22 rfl w.heap.size 5 i0 (.int .u8 0) 1 1 Try.underlying22 hi hz0 hz1 hz2 rfl (by decide) _ _ _ rfl (hown1.alloc _) ⟨w1.heap.size, 0, none⟩ 1 1 [.int .u8 0] rfl rfl (cell_one_new _ _ _) (by simp [Value.oneCell']) C1.out C2.out (by simp; omega) ?_; intro v2 w2 hown2 hg2 _ hat2; clear tok2))
          go_roundw
          case rel => exact ⟨k + 1, by omega, by go_num, by rw [HS.out]; exact own_step (x := ⟨1, ki, 0, tt, pp, qq⟩) (acc := acc) (l := [UInt8.ofNat (0 : Int).toNat]) (by simpa [Cd.bytesV, Cd.byteV] using hown2) (rfl) (by simp only; omega), (((hB.alloc hbw _).alloc (by simp; omega) _).trans (below_grown ((HO'.out.alloc _).alloc _) (B3.out _ _) hg1) |>.alloc hbw1 _).trans (below_grown (hown1.alloc _) (by simp; omega) hg2)⟩
          case measure => simp [intOf]; omega
        · simp only at h01
          subst h01
          have C1 : Hid (acc.length + 1 + 1 ≤ maxLen) := by have := HL.out; unfold Hid maxLen; omega
          have C2 : Hid ((acc.length + 1 + 1) * 1 ≤ 140737488355328) := by have := HL.out; unfold Hid; omega
          have tok : True := trivial
          go_wp2_with (first | (at_builtin; have _t := tok; refine wpList_append_own_at _ rfl (.tmp 19) (.tmp 22) 22 rfl w.heap.size 5 i0 (.int .u8 0) 1 1 Try.underlying22 hi hz0 hz1 hz2 rfl (by decide) _ _ _ rfl ((HO'.out.alloc _).alloc _) ⟨wr.heap.size + 1, 0, none⟩ 1 1 [.int .u8 1] rfl rfl (cell_new2 _ _ _ _) (by simp [Value.oneCell']) B1.out B2.out (B3.out _ _) ?_; intro v1 w1 hown1 hg1 _ hat1; have bx := box_kept (x := ⟨1, ki, 1, tt, pp, qq⟩) HO'.out hg1; have e0 := node_cell bx 0; have e1 := node_cell bx 1; have e2 := node_cell bx 2; have e3 := node_cell bx 3; have e4 := node_cell bx 4; simp only [Nd.cells, List.getElem?_cons_succ, List.getElem?_cons_zero, strV] at e0 e1 e2 e3 e4; have hs1 := hg1.size; simp only [World.size_alloc] at hs1; clear c0 c1 c2 c3 c4; have hbw1 := Nat.le_trans (B3.out _ _) hg1.size; clear tok; have tok2 : True := trivial) | (at_builtin; have _t := tok2; refine wpList_append_own_at _ rfl (.tmp 28) (.tmp 32) 22 rfl w.heap.size 5 i0 (.int .u8 0) 1 1 Try.underlying22 hi hz0 hz1 hz2 rfl (by decide) _ _ _ rfl (hown1.alloc _) ⟨w1.heap.size, 0, none⟩ 1 1 [.int .u8 1] rfl rfl (cell_one_new _ _ _) (by simp [Value.oneCell']) C1.out C2.out (by simp; omega) ?_; intro v2 w2 hown2 hg2 _ hat2; clear tok2))
          go_roundw
          case rel => exact ⟨k + 1, by omega, by go_num, by rw [HS.out]; exact own_step (x := ⟨1, ki, 1, tt, pp, qq⟩) (acc := acc) (l := [UInt8.ofNat (1 : Int).toNat]) (by simpa [Cd.bytesV, Cd.byteV] using hown2) (rfl) (by simp only; omega), (((hB.alloc hbw _).alloc (by simp; omega) _).trans (below_grown ((HO'.out.alloc _).alloc _) (B3.out _ _) hg1) |>.alloc hbw1 _).trans (below_grown (hown1.alloc _) (by simp; omega) hg2)⟩
          case measure => simp [intOf]; omega
      · have hz := HXI.out
        simp only at hz
        have HZ := Lib.hid hz
        clear hz
        go_wp2_with (first | (at_builtin; refine wpList_append_own_at _ rfl (.tmp 19) (.tmp 22) 22 rfl w.heap.size 5 i0 (.int .u8 0) 1 1 Try.underlying22 hi hz0 hz1 hz2 rfl (by decide) _ _ _ rfl ((HO'.out.alloc _).alloc _) ⟨wr.heap.size + 1, 0, none⟩ 1 1 [.int .u8 2] rfl rfl (cell_new2 _ _ _ _) (by simp [Value.oneCell']) B1.out B2.out (B3.out _ _) ?_; intro v1 w1 hown1 hg1 _ hat1; have bx := box_kept (x := ⟨2, ki, nn, tt, pp, qq⟩) HO'.out hg1; have e0 := node_cell bx 0; have e1 := node_cell bx 1; have e2 := node_cell bx 2; have e3 := node_cell bx 3; have e4 := node_cell bx 4; simp only [Nd.cells, List.getElem?_cons_succ, List.getElem?_cons_zero, strV] at e0 e1 e2 e3 e4; have hs1 := hg1.size; simp only [World.size_alloc] at hs1; clear c0 c1 c2 c3 c4; have hbw1 := Nat.le_trans (B3.out _ _) hg1.size) | (go_at_call 56; refine (zig_any _ nn HZ.out.1 HZ.out.2).mono ?_; rintro e w2 ⟨rfl, rfl⟩) | (go_at_call 54; refine (appendUint_b _ w.heap.size _ (acc.length + 1) _ (Cd.zig nn) (zig_lt nn HZ.out.1 HZ.out.2) hown1 hbw1 (by have := HL.out; omega)).mono ?_; rintro e w2 ⟨v2, rfl, hown2, hb2⟩))
        go_roundw
        case rel => exact ⟨k + 1, by omega, by go_num, by rw [HS.out]; exact own_step (x := ⟨2, ki, nn, tt, pp, qq⟩) (acc := acc) (l := Cd.uB (Cd.zig nn)) (hown2) (rfl) (by simp only; omega), (((hB.alloc hbw _).alloc (by simp; omega) _).trans (below_grown ((HO'.out.alloc _).alloc _) (B3.out _ _) hg1)).trans hb2⟩
        case measure => simp [intOf]; omega
      · have hz := HT.out
        simp only at hz
        have HZ := Lib.hid hz
        clear hz
        have HSZ := Lib.hid (show acc.length + 1 + (⟨tt.toArray⟩ : ByteArray).size + 10 ≤ 140737488355328 by have h1 := HL.out; have h2 := HZ.out; have h3 : (⟨tt.toArray⟩ : ByteArray).size = tt.length := (by simp [ByteArray.size]); omega)
        go_wp2_with (first | (at_builtin; refine wpList_append_own_at _ rfl (.tmp 19) (.tmp 22) 22 rfl w.heap.size 5 i0 (.int .u8 0) 1 1 Try.underlying22 hi hz0 hz1 hz2 rfl (by decide) _ _ _ rfl ((HO'.out.alloc _).alloc _) ⟨wr.heap.size + 1, 0, none⟩ 1 1 [.int .u8 3] rfl rfl (cell_new2 _ _ _ _) (by simp [Value.oneCell']) B1.out B2.out (B3.out _ _) ?_; intro v1 w1 hown1 hg1 _ hat1; have bx := box_kept (x := ⟨3, ki, nn, tt, pp, qq⟩) HO'.out hg1; have e0 := node_cell bx 0; have e1 := node_cell bx 1; have e2 := node_cell bx 2; have e3 := node_cell bx 3; have e4 := node_cell bx 4; simp only [Nd.cells, List.getElem?_cons_succ, List.getElem?_cons_zero, strV] at e0 e1 e2 e3 e4; have hs1 := hg1.size; simp only [World.size_alloc] at hs1; clear c0 c1 c2 c3 c4; have hbw1 := Nat.le_trans (B3.out _ _) hg1.size) | (go_at_call 55; refine (appendText_any _ w.heap.size _ (acc.length + 1) _ ⟨tt.toArray⟩ HSZ.out hown1 hbw1).mono ?_; rintro e w2 ⟨v2, rfl, hown2, hb2⟩))
        go_roundw
        case rel => exact ⟨k + 1, by omega, by go_num, by rw [HS.out]; exact own_step (x := ⟨3, ki, nn, tt, pp, qq⟩) (acc := acc) (l := Cd.textB tt) (hown2) (rfl) (by simp only; omega), (((hB.alloc hbw _).alloc (by simp; omega) _).trans (below_grown ((HO'.out.alloc _).alloc _) (B3.out _ _) hg1)).trans hb2⟩
        case measure => simp [intOf]; omega
      · have hp := HX.out.re_lt
        have hq := HX.out.im_lt
        simp only at hp hq
        have HP := Lib.hid hp
        have HQ := Lib.hid hq
        clear hp hq
        go_wp2_with (first | (at_builtin; refine wpList_append_own_at _ rfl (.tmp 19) (.tmp 22) 22 rfl w.heap.size 5 i0 (.int .u8 0) 1 1 Try.underlying22 hi hz0 hz1 hz2 rfl (by decide) _ _ _ rfl ((HO'.out.alloc _).alloc _) ⟨wr.heap.size + 1, 0, none⟩ 1 1 [.int .u8 4] rfl rfl (cell_new2 _ _ _ _) (by simp [Value.oneCell']) B1.out B2.out (B3.out _ _) ?_; intro v1 w1 hown1 hg1 _ hat1; have bx := box_kept (x := ⟨4, ki, nn, tt, pp, qq⟩) HO'.out hg1; have e0 := node_cell bx 0; have e1 := node_cell bx 1; have e2 := node_cell bx 2; have e3 := node_cell bx 3; have e4 := node_cell bx 4; simp only [Nd.cells, List.getElem?_cons_succ, List.getElem?_cons_zero, strV] at e0 e1 e2 e3 e4; have hs1 := hg1.size; simp only [World.size_alloc] at hs1; clear c0 c1 c2 c3 c4; have hbw1 := Nat.le_trans (B3.out _ _) hg1.size) | (go_at_call 57; refine (appendNum_any _ w.heap.size _ (acc.length + 1) _ pp qq HP.out HQ.out hown1 hbw1 (by have := HL.out; omega)).mono ?_; rintro e w2 ⟨v2, rfl, hown2, hb2⟩))
        go_roundw
        case rel => exact ⟨k + 1, by omega, by go_num, by rw [HS.out]; exact own_step (x := ⟨4, ki, nn, tt, pp, qq⟩) (acc := acc) (l := numB pp qq) (hown2) (rfl) (by simp only; omega), (((hB.alloc hbw _).alloc (by simp; omega) _).trans (below_grown ((HO'.out.alloc _).alloc _) (B3.out _ _) hg1)).trans hb2⟩
        case measure => simp [intOf]; omega
      · have hz := HX.out.kids_le
        simp only at hz
        have hw : IntKind.u64.wrap (ki : Int) = (ki : Int) := by rw [wrap_u64']; omega
        have HZ := Lib.hid (show ki < 18446744073709551616 by omega)
        clear hz
        go_wp2_with (first | (at_builtin; refine wpList_append_own_at _ rfl (.tmp 19) (.tmp 22) 22 rfl w.heap.size 5 i0 (.int .u8 0) 1 1 Try.underlying22 hi hz0 hz1 hz2 rfl (by decide) _ _ _ rfl ((HO'.out.alloc _).alloc _) ⟨wr.heap.size + 1, 0, none⟩ 1 1 [.int .u8 5] rfl rfl (cell_new2 _ _ _ _) (by simp [Value.oneCell']) B1.out B2.out (B3.out _ _) ?_; intro v1 w1 hown1 hg1 _ hat1; have bx := box_kept (x := ⟨5, ki, nn, tt, pp, qq⟩) HO'.out hg1; have e0 := node_cell bx 0; have e1 := node_cell bx 1; have e2 := node_cell bx 2; have e3 := node_cell bx 3; have e4 := node_cell bx 4; simp only [Nd.cells, List.getElem?_cons_succ, List.getElem?_cons_zero, strV] at e0 e1 e2 e3 e4; have hs1 := hg1.size; simp only [World.size_alloc] at hs1; clear c0 c1 c2 c3 c4; have hbw1 := Nat.le_trans (B3.out _ _) hg1.size) | (go_at_call 54; refine (appendUint_b _ w.heap.size _ (acc.length + 1) _ ki HZ.out hown1 hbw1 (by have := HL.out; omega)).mono ?_; rintro e w2 ⟨v2, rfl, hown2, hb2⟩))
        go_roundw
        case rel => exact ⟨k + 1, by omega, by go_num, by rw [HS.out]; exact own_step (x := ⟨5, ki, nn, tt, pp, qq⟩) (acc := acc) (l := Cd.uB ki) (hown2) (rfl) (by simp only; omega), (((hB.alloc hbw _).alloc (by simp; omega) _).trans (below_grown ((HO'.out.alloc _).alloc _) (B3.out _ _) hg1)).trans hb2⟩
        case measure => simp [intOf]; omega
    · obtain rfl : k = xs.length := by omega
      rw [List.take_length] at ho
      have hB' := hB
      clear hlt hk
      go_wp2_with fail
      go_ret2
      exact ⟨_, rfl, ho, hB'⟩
end Go.Proofs.Yticipdjfkpakpaa
