/- queue's reader: count; head where all is right. -/
import Derived.Test.YtpbheicfplpemaaGreatQuNum
import Derived.Test.YtpbheicfplpemaaGreatQuState
import Derived.Deep.RegionLaw
import Derived.Deep.RegionHeld3
namespace Go.Proofs.YtpbheicfplpemaaGreat
open Go.RowKit

set_option maxRecDepth 20000 in
theorem count_idle (w : World) (r : Nat) (A : Option Addr) (len cap : Nat) (l : List UInt8) (a en : Nat) (h : ER w r 57 [] A len cap l a en) (hen : en ≠ 0) :
    Calls Tryz.prog 21 #[.pointer (some ⟨r, 0, none⟩)] w fun e w' => e = .returned (.int .i64 0) ∧ w' = w := by
  have HI := Lib.hid (num_idle w r _ A len cap l a en h hen)
  have c1 := h.c1
  have c2 := h.c2
  have hn : ((en : Int) == 0) = false := by rw [beq_eq_false_iff_ne]; omega
  clear h hen
  go_enter Tryz.func21, Tryz.ntmps21
  go_wp2_with (go_at_call 62; refine HI.out.mono ?_; rintro e w' ⟨rfl, rfl⟩)
  go_ret
  exact ⟨rfl, rfl⟩
set_option maxRecDepth 20000 in
theorem count_any (w : World) (r : Nat) (A : Option Addr) (len cap : Nat) (l : List UInt8) (a : Nat) (h : ER w r 57 [] A len cap l a 0) (hsz : l.length ≤ 1000000) :
    Calls Tryz.prog 21 #[.pointer (some ⟨r, 0, none⟩)] w (NumY w r 57 A len cap l (rdCnt l a)) := by
  have hat := h.at_le
  have HN := Lib.hid (num_any w r A len cap l a h hsz)
  have c1 := h.c1
  clear h
  rcases hres : rdNum l a with ⟨p, en⟩ | ⟨x, n⟩
  · have HR : Hid (rdCnt l a = .error (p, en)) := Lib.hid (by unfold rdCnt; rw [hres])
    have her := rdNum_er hat hres
    have hn : ((en : Int) == 0) = false := by rw [beq_eq_false_iff_ne]; omega
    rw [hres] at HN
    clear hres her
    go_enter Tryz.func21, Tryz.ntmps21
    go_upto_region 3 with (go_at_call 62; refine HN.out.mono ?_; rintro e w2 ⟨⟨rfl, h2⟩, g2⟩; have H2 := Lib.hid h2; have G2 := Lib.hid g2; clear h2 g2)
    clear c1
    have c2 := H2.out.c2
    go_wp2_with fail
    go_ret
    show NumY w r 57 A len cap l (rdCnt l a) _ _
    rw [HR.out]
    exact ⟨⟨rfl, H2.out⟩, G2.out⟩
  · rw [hres] at HN
    by_cases hx : 65536 < x
    · have HR : Hid (rdCnt l a = .error (a, 2)) := Lib.hid (by unfold rdCnt; rw [hres]; simp only; rw [if_pos hx])
      have hgt : decide ((65536 : Int) < (x : Int)) = true := decide_eq_true (by omega)
      clear hres
      go_enter Tryz.func21, Tryz.ntmps21
      go_upto_region 3 with (go_at_call 62; refine HN.out.mono ?_; rintro e w2 ⟨⟨rfl, h2⟩, g2⟩; have H2 := Lib.hid h2; have G2 := Lib.hid g2; clear h2 g2)
      clear c1
      have c2 := H2.out.c2
      have HF := Lib.hid (fail1 w2 r _ rfl A len cap l n 0 H2.out a 2 hat)
      go_wp2_with (go_at_call 24; refine HF.out.mono ?_; rintro e w3 ⟨rfl, h3, g3⟩; have H3 := Lib.hid h3; have G3 := Lib.hid g3; clear h3 g3)
      go_ret
      show NumY w r 57 A len cap l (rdCnt l a) _ _
      rw [HR.out]
      exact ⟨⟨rfl, H3.out⟩, G2.out.trans G3.out⟩
    · have HR : Hid (rdCnt l a = .ok (x, n)) := Lib.hid (by unfold rdCnt; rw [hres]; simp only; rw [if_neg hx])
      have hgt : decide ((65536 : Int) < (x : Int)) = false := decide_eq_false (by omega)
      clear hres
      go_enter Tryz.func21, Tryz.ntmps21
      go_upto_region 3 with (go_at_call 62; refine HN.out.mono ?_; rintro e w2 ⟨⟨rfl, h2⟩, g2⟩; have H2 := Lib.hid h2; have G2 := Lib.hid g2; clear h2 g2)
      clear c1
      have c2 := H2.out.c2
      go_wp2_with fail
      go_ret
      show NumY w r 57 A len cap l (rdCnt l a) _ _
      rw [HR.out]
      exact ⟨⟨rfl, H2.out⟩, G2.out⟩
def HeadOk (w : World) (r : Nat) (A : Option Addr) (len cap : Nat) (l : List UInt8) (m : Nat) (g : Int) (x t : Nat) (e : Ending) (w' : World) : Prop :=
  ∃ q O T, e = .returned (.pointer (some ⟨q, 0, none⟩)) ∧ QS w' q (m : Int) g (x : Int) (.slice none 0 0) [] O T (fun _ => none) (fun _ => none) ∧ (∀ i, QSet q (.slice none 0 0) O T i → w.heap.size ≤ i) ∧ ER w' r 57 [] A len cap l t 0 ∧ w.grownBy w' (some r)
set_option maxRecDepth 20000 in
set_option maxHeartbeats 4000000 in
theorem head_ok (w : World) (r : Nat) (A : Option Addr) (len cap : Nat) (l : List UInt8) (h : ER w r 57 [] A len cap l 0 0) (hsz : l.length ≤ 1000000) (m : Nat) (g : Int) (x t1 t2 t3 : Nat)
    (h1 : rdNum l 0 = .ok (m, t1)) (h2 : Cd.rdInt l t1 = .ok (g, t2)) (h3 : rdNum l t2 = .ok (x, t3)) (hm : 1 ≤ m ∧ m ≤ 4096) (hg : 0 ≤ g) (hx : 0 < x ∧ x ≤ 4611686018427387904) :
    Calls Tryz.prog 20 #[.pointer (some ⟨r, 0, none⟩)] w (HeadOk w r A len cap l m g x t3) := by
  have hl1 := (rdNum_le h1).1
  have hl2 := rdInt_le h2
  have H1 := Lib.hid (num_any w r A len cap l 0 h hsz)
  rw [h1] at H1
  have HH := Lib.hid h
  have H2' := Lib.hid (fun (X : World) (hX : ER X r 57 [] A len cap l t1 0) => by
    have := next_int64 X r 57 [] A len cap l t1 hX hsz
    rw [rdInt_shft hl1, h2] at this
    exact this)
  have H3' := Lib.hid (fun (X : World) (hX : ER X r 57 [] A len cap l t2 0) => by
    have := num_any X r A len cap l t2 hX hsz
    rw [h3] at this
    exact this)
  have q1 : decide ((m : Int) < 1) = false := decide_eq_false (by omega)
  have q2 : decide ((4096 : Int) < (m : Int)) = false := decide_eq_false (by omega)
  have q3 : decide (g < 0) = false := decide_eq_false (by omega)
  have q4 : ((x : Int) == 0) = false := by rw [beq_eq_false_iff_ne]; omega
  unfold i64V at H2'
  clear h h1 h2 h3
  go_enter Tryz.func20, Tryz.ntmps20
  go_upto_region 2 with (go_at_call 62; refine H1.out.mono ?_; rintro e w2 ⟨⟨rfl, e2⟩, g2⟩; have E2 := Lib.hid e2; have G2 := Lib.hid g2; clear e2 g2)
  have c1 := E2.out.c1
  have c2 := E2.out.c2
  have HB := Lib.hid (H2'.out w2 E2.out)
  go_upto_region 6 with (go_at_call 63; refine HB.out.mono ?_; rintro e w3 ⟨⟨rfl, e3⟩, g3⟩; have E3 := Lib.hid e3; have G3 := Lib.hid g3; clear e3 g3)
  clear c1 c2 HB
  have c1 := E3.out.c1
  have c2 := E3.out.c2
  have HB := Lib.hid (H3'.out w3 E3.out)
  go_upto_region 10 with (go_at_call 62; refine HB.out.mono ?_; rintro e w4 ⟨⟨rfl, e4⟩, g4⟩; have E4 := Lib.hid e4; have G4 := Lib.hid g4; clear e4 g4)
  clear c1 c2 HB
  have c2 := E4.out.c2
  have HN := Lib.hid (newQ w4 m g (by omega) (by omega) hg)
  go_upto_region 15 with (go_at_call 10; refine HN.out.mono ?_; rintro e w5 ⟨q, O, T, rfl, s5, l5, b5⟩; have S5 := Lib.hid s5; have L5 := Lib.hid l5; have B5 := Lib.hid b5; clear s5 l5 b5)
  clear c2 HN
  have E5 := Lib.hid (E4.out.below B5.out)
  have c2 := E5.out.c2
  have f2 := E5.out.fz 2
  have d2 := S5.out.blk.cell 2
  have z2 := S5.out.blk.fz 2
  simp only [List.getElem?_cons_succ, List.getElem?_cons_zero] at d2
  have hqr : q ≠ r := by have := L5.out q (.inl rfl); have := E4.out.lt; omega
  have hqr' : r ≠ q := Ne.symm hqr
  go_wp2_with fail
  go_ret
  have hq4 := L5.out q (.inl rfl)
  have hB1 : Below w4.heap.size w4 (w5.setCell ⟨q, 2, none⟩ (.int .i64 (x : Int))) := B5.out.setCell (p := ⟨q, 2, none⟩) hq4 _
  have E6 := E4.out.below hB1
  have E7 := E6.set2 0
  have T1 : Turns (fun i => i = q) w5 (w5.setCell ⟨q, 2, none⟩ (.int .i64 (x : Int))) := Turns.of_set (S := fun i => i = q) w5 ⟨q, 2, none⟩ _ rfl
  obtain ⟨nO, hO⟩ := S5.out.outs
  obtain ⟨nT, hT⟩ := S5.out.there
  have hblk := S5.out.blk.set 2 (.int .i64 (x : Int))
  simp only [List.set_cons_succ, List.set_cons_zero] at hblk
  have S6 : QS (w5.setCell ⟨q, 2, none⟩ (.int .i64 (x : Int))) q (m : Int) g (x : Int) (.slice none 0 0) [] O T (fun _ => none) (fun _ => none) :=
    ⟨hblk, own_turns S5.out.row T1 (fun g' hg' => by simp [Value.ownBlock] at hg'), ⟨nO, hO.turns T1 (hO.ne_cells S5.out.blk)⟩, ⟨nT, hT.turns T1 (hT.ne_cells S5.out.blk)⟩, S5.out.ne, by simp, by omega, by omega⟩
  have hrl := E4.out.lt
  have S7 := S6.keep (Turns.of_set (S := fun i => i = r) (w5.setCell ⟨q, 2, none⟩ (.int .i64 (x : Int))) ⟨r, 2, none⟩ (.int .i64 0) rfl) (fun i hi e => by have := L5.out i hi; have e2 : i = r := e; omega)
  have hwl : w.heap.size ≤ w4.heap.size := Nat.le_trans G2.out.size (Nat.le_trans G3.out.size G4.out.size)
  refine ⟨q, O, T, rfl, S7, fun i hi => Nat.le_trans hwl (L5.out i hi), E7, ?_⟩
  exact grown_set (((G2.out.trans G3.out).trans G4.out).trans (grown_of_below hB1 _)) _ _
end Go.Proofs.YtpbheicfplpemaaGreat
