/- queue: Open where there are no tasks. -/
import Derived.Test.YtpbheicfplpemaaQuHead
import Derived.BigQuiet
import Derived.Deep.OwnRows
namespace Go.Proofs.Ytpbheicfplpemaa
open Go.RowKit

theorem er_new (w : World) (A : Option Addr) (len cap : Nat) (l : List UInt8) (h : In w A len cap l) : ER (w.alloc (.cells #[.slice A len cap, .int .i64 0, .int .i64 0] 102)) w.heap.size 102 [] A len cap l 0 0 :=
  ⟨heap_alloc_new w _, h.below (Below.new w _), fun ad e h0 => by have := h.lt ad e h0; omega, Nat.zero_le _⟩
def Open0 (w : World) (l : List UInt8) (m : Nat) (g : Int) (x : Nat) (e : Ending) (w' : World) : Prop :=
  ∃ q O T, e = .returned (.tuple #[.pointer (some ⟨q, 0, none⟩), .int .i64 (l.length : Int), .int .i64 0]) ∧ QS w' q (m : Int) g (x : Int) (.slice none 0 0) [] O T (fun _ => none) (fun _ => none) ∧ (∀ i, QSet q (.slice none 0 0) O T i → w.heap.size ≤ i) ∧ Below w.heap.size w w'
set_option maxRecDepth 20000 in
set_option maxHeartbeats 4000000 in
theorem open0 (w : World) (A : Option Addr) (len cap : Nat) (l : List UInt8) (h : In w A len cap l) (hsz : l.length ≤ 1000000) (m : Nat) (g : Int) (x t1 t2 t3 t4 : Nat)
    (h1 : rdNum l 0 = .ok (m, t1)) (h2 : Cd.rdInt l t1 = .ok (g, t2)) (h3 : rdNum l t2 = .ok (x, t3)) (hm : 1 ≤ m ∧ m ≤ 4096) (hg : 0 ≤ g) (hx : 0 < x ∧ x ≤ 1000000000) (h4 : rdCnt l t3 = .ok (0, t4)) (h5 : rdCnt l t4 = .ok (0, l.length)) :
    Calls Try.prog 27 #[.slice A len cap] w (Open0 w l m g x) := by
  obtain rfl := h.bs.len
  have ER0 := Lib.hid (er_new w A l.length cap l h)
  have B0 := Lib.hid (Below.new w (.cells #[.slice A l.length cap, .int .i64 0, .int .i64 0] 102))
  have HH := Lib.hid (fun (X : World) (hX : ER X w.heap.size 102 [] A l.length cap l 0 0) => head_ok X w.heap.size A l.length cap l hX hsz m g x t1 t2 t3 h1 h2 h3 hm hg hx)
  have HC1 := Lib.hid (fun (X : World) (hX : ER X w.heap.size 102 [] A l.length cap l t3 0) => by
    have := count_any X w.heap.size A l.length cap l t3 hX hsz
    rw [h4] at this
    exact this)
  have HC2 := Lib.hid (fun (X : World) (hX : ER X w.heap.size 102 [] A l.length cap l t4 0) => by
    have := count_any X w.heap.size A l.length cap l t4 hX hsz
    rw [h5] at this
    exact this)
  clear h h1 h2 h3 h4 h5
  go_enter Try.func27, Try.ntmps27
  go_upto_region 2 with (fail)
  have hrx : w.heap.size < (w.alloc (.cells #[.slice A l.length cap, .int .i64 0, .int .i64 0] 102)).heap.size := ER0.out.lt
  generalize w.alloc (.cells #[.slice A l.length cap, .int .i64 0, .int .i64 0] 102) = X at *
  have HB := Lib.hid (HH.out X ER0.out)
  go_upto_region 3 with (go_at_call 51; refine HB.out.mono ?_; rintro e w2 ⟨q, O, T, rfl, s2, l2, e2, g2⟩; have S2 := Lib.hid s2; have L2 := Lib.hid l2; have E2 := Lib.hid e2; have G2 := Lib.hid g2; clear s2 l2 e2 g2)
  clear HB
  have HB := Lib.hid (HC1.out w2 E2.out)
  go_wp2_with (go_at_call 52; refine HB.out.mono ?_; rintro e w3 ⟨⟨rfl, e3⟩, g3⟩; have E3 := Lib.hid e3; have G3 := Lib.hid g3; clear e3 g3)
  clear HB
  have c2 := E3.out.c2
  refine wp_loop_rounds 1 ?_
  rw [rounds_succ]
  have HB := Lib.hid (HC2.out w3 E3.out)
  go_wp2_with (go_at_call 52; refine HB.out.mono ?_; rintro e w4 ⟨⟨rfl, e4⟩, g4⟩; have E4 := Lib.hid e4; have G4 := Lib.hid g4; clear e4 g4)
  clear c2 HB
  have c2 := E4.out.c2
  have c1 := E4.out.c1
  have hle : ¬ (l.length : Int) < (l.length : Int) := by omega
  refine wp_loop_rounds 1 ?_
  rw [rounds_succ]
  go_upto_region 16 with (fail)
  go_quiet (fail)
  go_wp2_with fail
  go_ret3
  have hw2 : X.heap.size ≤ w2.heap.size := G2.out.size
  have hrb := B0.out.size
  have G := (G2.out.trans G3.out).trans G4.out
  have S3 := S2.out.keep (Turns.of_grown (S := fun i => i = w.heap.size) G3.out (fun r e => by injection e with e; exact e.symm)) (fun i hi e => by have := L2.out i hi; have e2 : i = w.heap.size := e; omega)
  have S4 := S3.keep (Turns.of_grown (S := fun i => i = w.heap.size) G4.out (fun r e => by injection e with e; exact e.symm)) (fun i hi e => by have := L2.out i hi; have e2 : i = w.heap.size := e; omega)
  have hd := below_drewN' (Below.refl w4.heap.size w4) nq
  refine ⟨q, O, T, rfl, S4.bel hd, fun i hi => Nat.le_trans hrb (L2.out i hi), ?_⟩
  exact (B0.out.grown G hrb (fun r e => by injection e with e; omega)).trans (hd.mono (Nat.le_trans hrb G.size))
end Go.Proofs.Ytpbheicfplpemaa
