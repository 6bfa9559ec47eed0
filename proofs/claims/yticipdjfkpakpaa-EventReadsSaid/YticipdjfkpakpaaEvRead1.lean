/- event.Read. -/
import Derived.Test.YticipdjfkpakpaaEvReads
import Derived.RegionTactic
import Derived.ChangeAlike
import Derived.StillTailTactics
namespace Go.Proofs.Yticipdjfkpakpaa
open Go.RowKit
attribute [local go_sem] run_store_cx'

theorem results_cell_row3 {P : Program} {fn : Func} {p u v : Tmp} {ty : TypeId} (h : fn.results = #[.cell p ty, .tmp u, .tmp v]) (tmps : Array Value) (w : World) (g : Nat) (t : TypeId) (cs : Array Value) (fr : Nat × Nat) (d : TypeDesc)
    (hp : tmps.getD p undef = .pointer (some ⟨g, 0, none⟩)) (hg : w.heap[g]? = some (.cells cs t fr))
    (hu : P.underlying ty = some d) (hd : (match d with | .struct _ | .array _ _ => true | _ => false) = true) (hi : (P.info? ty).map (·.size) = some cs.size) :
    (results fn tmps).run P w = .ok (.tuple #[.agg cs, tmps.getD u undef, tmps.getD v undef]) w := by
  have hp' : tmps[p]?.getD undef = .pointer (some ⟨g, 0, none⟩) := by simpa using hp
  simp [results, h, hp', asAddr, run_loadVar_row w g t ty cs fr d hg hu hd hi]
theorem below5 {w W : World} (h : Below w.heap.size w W) (v0 v1 v2 v3 v4 : Value) : Below w.heap.size w (((((W.setCell ⟨w.heap.size, 0, none⟩ v0).setCell ⟨w.heap.size, 1, none⟩ v1).setCell ⟨w.heap.size, 2, none⟩ v2).setCell ⟨w.heap.size, 3, none⟩ v3).setCell ⟨w.heap.size, 4, none⟩ v4).drew :=
  below_drewN (((((h.setCell (p := ⟨w.heap.size, 0, none⟩) (Nat.le_refl _) v0).setCell (p := ⟨w.heap.size, 1, none⟩) (Nat.le_refl _) v1).setCell (p := ⟨w.heap.size, 2, none⟩) (Nat.le_refl _) v2).setCell (p := ⟨w.heap.size, 3, none⟩) (Nat.le_refl _) v3).setCell (p := ⟨w.heap.size, 4, none⟩) (Nat.le_refl _) v4) 1
theorem blk5 {w W : World} {t : TypeId} {u0 u1 u2 u3 u4 : Value} (h : Blk W w.heap.size t [u0, u1, u2, u3, u4]) (v0 v1 v2 v3 v4 : Value) : Blk (((((W.setCell ⟨w.heap.size, 0, none⟩ v0).setCell ⟨w.heap.size, 1, none⟩ v1).setCell ⟨w.heap.size, 2, none⟩ v2).setCell ⟨w.heap.size, 3, none⟩ v3).setCell ⟨w.heap.size, 4, none⟩ v4).drew w.heap.size t [v0, v1, v2, v3, v4] := by
  have k := ((((h.set 0 v0).set 1 v1).set 2 v2).set 3 v3).set 4 v4
  unfold Blk at k ⊢
  rw [heap_drew]
  exact k

/-- what event.Read and the document's Read give -/
def EvGets (w : World) (res : Except (Nat × Nat) (Ev × Nat)) (e : Ending) (w' : World) : Prop :=
  (match res with
  | .ok (x, n) => ∃ A2 c2, e = .returned (.tuple #[evV x A2 x.val.length c2, .int .i64 (n : Int), .int .i64 0]) ∧ w'.ownsRow w.heap.size 40 5 (.slice A2 x.val.length c2) x.val.length (ndsV x.val)
  | .error (p, en) => e = .returned (.tuple #[evV ev0 none 0 0, .int .i64 (p : Int), .int .i64 (en : Int)])) ∧ Below w.heap.size w w'

set_option maxRecDepth 20000 in
set_option maxHeartbeats 4000000 in
theorem evRead_any (w : World) (A : Option Addr) (len cap : Nat) (l : List UInt8) (h : In w A len cap l) (hsz : l.length ≤ 1000000) :
    Calls Try.prog 7 #[.slice A len cap] w (EvGets w (rdEv l 0)) := by
  have H := Lib.hid h
  clear h
  go_enter Try.func7, Try.ntmps7
  go_wp2_with fail
  have hB : Below w.heap.size w ((w.alloc (.cells #[.int .u8 0, .int .i64 0, .string ⟨#[]⟩, .slice none 0 0, .int .i64 0] 27)).alloc (.cells #[.slice A len cap, .int .i64 0, .int .i64 0] 49)) := ((Below.refl _ _).alloc (Nat.le_refl _) _).alloc (by simp) _
  have hE : ER ((w.alloc (.cells #[.int .u8 0, .int .i64 0, .string ⟨#[]⟩, .slice none 0 0, .int .i64 0] 27)).alloc (.cells #[.slice A len cap, .int .i64 0, .int .i64 0] 49)) (w.heap.size + 1) 49 [] A len cap l 0 0 :=
    ⟨heap_alloc2_new w _ _, H.out.below hB, fun ad e h0 => by have := H.out.lt ad e h0; omega, Nat.zero_le _⟩
  have kR : Blk ((w.alloc (.cells #[.int .u8 0, .int .i64 0, .string ⟨#[]⟩, .slice none 0 0, .int .i64 0] 27)).alloc (.cells #[.slice A len cap, .int .i64 0, .int .i64 0] 49)) w.heap.size 27 [.int .u8 0, .int .i64 0, .string ⟨#[]⟩, .slice none 0 0, .int .i64 0] := heap_alloc2_old w _ _
  have hs2 : w.heap.size ≤ ((w.alloc (.cells #[.int .u8 0, .int .i64 0, .string ⟨#[]⟩, .slice none 0 0, .int .i64 0] 27)).alloc (.cells #[.slice A len cap, .int .i64 0, .int .i64 0] 49)).heap.size := by simp; omega
  have hs3 : w.heap.size + 1 < ((w.alloc (.cells #[.int .u8 0, .int .i64 0, .string ⟨#[]⟩, .slice none 0 0, .int .i64 0] 27)).alloc (.cells #[.slice A len cap, .int .i64 0, .int .i64 0] 49)).heap.size := by simp
  generalize ((w.alloc (.cells #[.int .u8 0, .int .i64 0, .string ⟨#[]⟩, .slice none 0 0, .int .i64 0] 27)).alloc (.cells #[.slice A len cap, .int .i64 0, .int .i64 0] 49)) = W at hB hE kR hs2 hs3 ⊢
  refine (event_any W (w.heap.size + 1) 49 [] A len cap l 0 hE hsz).mono ?_
  rintro e W2 hev
  have kR2 : ∀ (g : W.grownBy W2 (some (w.heap.size + 1))), Blk W2 w.heap.size 27 [.int .u8 0, .int .i64 0, .string ⟨#[]⟩, .slice none 0 0, .int .i64 0] := fun g => kR.grown g (by omega)
  have HBel : Hid (∀ (g : W.grownBy W2 (some (w.heap.size + 1))), Below w.heap.size w W2) := fun g => hB.grown g hs2 (fun k hk => by injection hk with hk; omega)
  rcases hr : rdEv l 0 with ⟨p, en⟩ | ⟨x, n⟩
  · rw [hr] at hev
    obtain ⟨⟨rfl, h2⟩, g⟩ := hev
    have HR := Lib.hid hr
    have kRb := kR2 g
    have HB := Lib.hid (HBel.out g)
    have KR := Lib.hid kRb
    have H2 := Lib.hid h2
    clear hr h2 g kRb hB hE kR2 HBel hs2 kR
    unfold evV ev0
    go_wp2_with fail
    have hE3 : Below W2.heap.size W2 (W2.alloc (.cells #[.int .u8 0, .int .i64 0, .string ⟨#[]⟩, .slice none 0 0, .int .i64 0] 27)) := (Below.refl _ _).alloc (Nat.le_refl _) _
    have h3 := H2.out.below hE3
    have k3 := KR.out.alloc (.cells #[.int .u8 0, .int .i64 0, .string ⟨#[]⟩, .slice none 0 0, .int .i64 0] 27)
    have x3 : Blk (W2.alloc (.cells #[.int .u8 0, .int .i64 0, .string ⟨#[]⟩, .slice none 0 0, .int .i64 0] 27)) W2.heap.size 27 [.int .u8 0, .int .i64 0, .string ⟨#[]⟩, .slice none 0 0, .int .i64 0] := heap_alloc_new W2 _
    have HB3 := Lib.hid (HB.out.alloc HB.out.size (.cells #[.int .u8 0, .int .i64 0, .string ⟨#[]⟩, .slice none 0 0, .int .i64 0] 27))
    generalize hX : W2.heap.size = X at *
    have hX2 : w.heap.size + 1 < X := by rw [← hX]; exact H2.out.lt
    generalize (W2.alloc (.cells #[.int .u8 0, .int .i64 0, .string ⟨#[]⟩, .slice none 0 0, .int .i64 0] 27)) = W3 at h3 k3 x3 HB3 ⊢
    clear hX HB KR H2 hE3
    have c1 := h3.c1
    have c2 := h3.c2
    have r0 := k3.cell 0
    have q0 := k3.fz 0
    have x0 := x3.cell 0
    have r1 := k3.cell 1
    have q1 := k3.fz 1
    have x1 := x3.cell 1
    have r2 := k3.cell 2
    have q2 := k3.fz 2
    have x2 := x3.cell 2
    have r3 := k3.cell 3
    have q3 := k3.fz 3
    have x3c := x3.cell 3
    have r4 := k3.cell 4
    have q4 := k3.fz 4
    have x4 := x3.cell 4
    simp only [List.getElem?_cons_succ, List.getElem?_cons_zero] at r0 r1 r2 r3 r4 x0 x1 x2 x3c x4
    have K3 := Lib.hid k3
    clear h3 k3 x3
    go_region
    go_wp2_with fail
    rw [HR.out]
    refine bodyPost_ret (results_cell_row3 (h := rfl) (g := w.heap.size) (t := 27) (cs := ([.int .u8 0, .int .i64 0, .string ⟨#[]⟩, .slice none 0 0, .int .i64 0] : List Value).toArray) (fr := (0, 0)) (hp := rfl) (hg := blk5 K3.out _ _ _ _ _) (hu := Try.underlying27) (hd := rfl) (hi := by kernel_rfl) _ _) rfl ?_
    exact ⟨rfl, below5 HB3.out _ _ _ _ _⟩
  · rw [hr] at hev
    obtain ⟨⟨A2, c2, rfl, ho, h2⟩, g⟩ := hev
    have HR := Lib.hid hr
    have kRb := kR2 g
    have HB := Lib.hid (HBel.out g)
    have KR := Lib.hid kRb
    have H2 := Lib.hid h2
    clear hr h2 g kRb hB hE kR2 HBel hs2 kR
    unfold evV
    go_wp2_with fail
    have hE3 : Below W2.heap.size W2 (W2.alloc (.cells #[.int .u8 (x.kind : Int), .int .i64 (x.id : Int), .string ⟨x.name.toArray⟩, .slice A2 x.val.length c2, .int .i64 x.int] 27)) := (Below.refl _ _).alloc (Nat.le_refl _) _
    have h3 := H2.out.below hE3
    have k3 := KR.out.alloc (.cells #[.int .u8 (x.kind : Int), .int .i64 (x.id : Int), .string ⟨x.name.toArray⟩, .slice A2 x.val.length c2, .int .i64 x.int] 27)
    have x3 : Blk (W2.alloc (.cells #[.int .u8 (x.kind : Int), .int .i64 (x.id : Int), .string ⟨x.name.toArray⟩, .slice A2 x.val.length c2, .int .i64 x.int] 27)) W2.heap.size 27 [.int .u8 (x.kind : Int), .int .i64 (x.id : Int), .string ⟨x.name.toArray⟩, .slice A2 x.val.length c2, .int .i64 x.int] := heap_alloc_new W2 _
    have HB3 := Lib.hid (HB.out.alloc HB.out.size (.cells #[.int .u8 (x.kind : Int), .int .i64 (x.id : Int), .string ⟨x.name.toArray⟩, .slice A2 x.val.length c2, .int .i64 x.int] 27))
    have HO := Lib.hid (own_below ho hE3)
    clear ho
    generalize hX : W2.heap.size = X at *
    have hX2 : w.heap.size + 1 < X := by rw [← hX]; exact H2.out.lt
    generalize (W2.alloc (.cells #[.int .u8 (x.kind : Int), .int .i64 (x.id : Int), .string ⟨x.name.toArray⟩, .slice A2 x.val.length c2, .int .i64 x.int] 27)) = W3 at HO h3 k3 x3 HB3 ⊢
    clear hX HB KR H2 hE3
    have c1 := h3.c1
    have cc2 := h3.c2
    have r0 := k3.cell 0
    have q0 := k3.fz 0
    have x0 := x3.cell 0
    have r1 := k3.cell 1
    have q1 := k3.fz 1
    have x1 := x3.cell 1
    have r2 := k3.cell 2
    have q2 := k3.fz 2
    have x2 := x3.cell 2
    have r3 := k3.cell 3
    have q3 := k3.fz 3
    have x3c := x3.cell 3
    have r4 := k3.cell 4
    have q4 := k3.fz 4
    have x4 := x3.cell 4
    simp only [List.getElem?_cons_succ, List.getElem?_cons_zero] at r0 r1 r2 r3 r4 x0 x1 x2 x3c x4
    have K3 := Lib.hid k3
    clear h3 k3 x3
    go_region
    go_wp2_with fail
    rw [HR.out]
    refine bodyPost_ret (results_cell_row3 (h := rfl) (g := w.heap.size) (t := 27) (cs := ([.int .u8 (x.kind : Int), .int .i64 (x.id : Int), .string ⟨x.name.toArray⟩, .slice A2 x.val.length c2, .int .i64 x.int] : List Value).toArray) (fr := (0, 0)) (hp := rfl) (hg := blk5 K3.out _ _ _ _ _) (hu := Try.underlying27) (hd := rfl) (hi := by kernel_rfl) _ _) rfl ?_
    exact ⟨⟨A2, c2, rfl, own_none (own5 HO.out hs3) (grown_drewN (World.grownBy.refl _ _) 1)⟩, below5 HB3.out _ _ _ _ _⟩
end Go.Proofs.Yticipdjfkpakpaa
