/- queue: Done. -/
import Derived.Test.YtpbheicfplpemaaQuFind
import Derived.Maps.OwnSet
namespace Go.Proofs.Ytpbheicfplpemaa
open Go.RowKit

def DoneY (w : World) (q : Nat) (most grace next : Int) (wv : Value) (ts : List Tk) (O T : Nat) (om : Int → Option Ot) (tm : ByteArray → Option Int) (k : Int) (x : Ot) (e : Ending) (w' : World) : Prop :=
  e = .returned (.tuple #[.string x.tk.key, .int .i64 x.tk.att, .int .i64 0]) ∧ QS w' q most grace next wv ts O T (wipI om k) (wipS tm x.tk.key) ∧ Turns (QSet q wv O T) w w'
set_option maxRecDepth 20000 in
set_option maxHeartbeats 8000000 in
theorem done1 (w : World) (q : Nat) (most grace next : Int) (wv : Value) (ts : List Tk) (O T : Nat) (om : Int → Option Ot) (tm : ByteArray → Option Int) (h : QS w q most grace next wv ts O T om tm) (k : Int) (x : Ot) (hx : om k = some x) :
    Calls Try.prog 14 #[.pointer (some ⟨q, 0, none⟩), .int .i64 k] w (DoneY w q most grace next wv ts O T om tm k x) := by
  have HF := Lib.hid (find1 w q most grace next wv ts O T om tm h k x hx)
  have HH := Lib.hid h
  unfold otV at HF
  clear h
  go_enter Try.func14, Try.ntmps14
  go_upto_region 3 with (go_at_call 35; refine HF.out.mono ?_; rintro e w1 ⟨rfl, hb1⟩; have HB1 := Lib.hid hb1; clear hb1)
  have hbX := Below.new w1 (.cells #[.string x.tk.key, .string x.tk.sticky, .int .i64 x.tk.ready, .int .i64 x.tk.att, .int .i64 x.token, .string x.worker, .int .i64 x.until_] 82)
  have KX := Lib.hid (Blk.new w1 82 (otL x))
  have BX := Lib.hid (below_trans' HB1.out hbX)
  have HX := Lib.hid (HH.out.bel BX.out)
  have hql : ∀ i, QSet q wv O T i → i < w1.heap.size := fun i hi => Nat.lt_of_lt_of_le (HH.out.lts i hi) HB1.out.size
  simp only [otL] at KX
  clear hbX HB1 HF
  generalize w1.alloc (.cells #[.string x.tk.key, .string x.tk.sticky, .int .i64 x.tk.ready, .int .i64 x.tk.att, .int .i64 x.token, .string x.worker, .int .i64 x.until_] 82) = X at *
  generalize w1.heap.size = l at *
  obtain ⟨_, _, _, _, c4, _⟩ := HX.out.cells
  have hTl := hql T (.inr (.inr (.inl rfl)))
  have hOl := hql O (.inr (.inl rfl))
  have hqL := hql q (.inl rfl)
  have HQL := Lib.hid hql
  clear hql
  obtain ⟨nO, hO⟩ := HX.out.outs
  obtain ⟨nT, hT⟩ := HX.out.there
  have hOq : O ≠ q := hO.ne_cells HX.out.blk
  have hTq : T ≠ q := hT.ne_cells HX.out.blk
  have HO := Lib.hid hO
  have HT := Lib.hid hT
  clear hO hT
  go_upto_region 4 with (at_delete; refine wpl_delete (w := X) rfl _ _ 59 3 rfl (int_keys Try.underlying3) Try.underlying59 HO.out k rfl rfl ?_; intro w3 hm3 ht3; have TO := Lib.hid (Turns.of_map (S := fun j => j = O) ht3 rfl); have HM3 := Lib.hid hm3; clear hm3 ht3)
  have B3 := Lib.hid (HX.out.blk.turns TO.out (Ne.symm hOq))
  have K3 := Lib.hid (KX.out.turns TO.out (by omega))
  have M3 := Lib.hid (HT.out.turns TO.out (fun e => HX.out.ne e.symm))
  have f5 := B3.out.cell 5
  have m0 := K3.out.cell 0
  simp only [List.getElem?_cons_succ, List.getElem?_cons_zero] at f5 m0
  refine wp_tail 7 (by kernel_rfl) (by kernel_rfl) ?_
  simp only [List.take_succ_cons, List.take_zero, List.drop_succ_cons, List.drop_zero]
  repeat still_step
  refine wpStill_nil ?_
  clear f5 m0 c4
  have h3d : Below w3.heap.size w3 w3.drew := below_drewN' (Below.refl w3.heap.size w3) 1
  refine wpl_delete (w := w3.drew) rfl _ _ 47 9 rfl (str_keys Try.underlying9) Try.underlying47 (M3.out.below h3d) x.tk.key rfl rfl ?_
  intro w4 hm4 ht4
  have TT := Turns.of_map (S := fun j => j = T) ht4 rfl
  have K4 := Lib.hid ((K3.out.drewN 1).turns TT (by omega))
  have O4 := Lib.hid ((HM3.out.below h3d).turns TT HX.out.ne)
  have HM4 := Lib.hid hm4
  have T4 := Lib.hid (((TO.out.drewN 1).mono (T := fun j => j = O ∨ j = T) (fun _ _ e => .inl e)).trans TT (fun _ _ e => .inr e))
  clear hm4 ht4 TT h3d
  have m0 := K4.out.cell 0
  have m3 := K4.out.cell 3
  simp only [List.getElem?_cons_succ, List.getElem?_cons_zero] at m0 m3
  go_upto_region 5 with (fail)
  go_quiet (fail)
  clear m0 m3
  go_wp2_with fail
  go_ret3
  have h4d := below_drewN' (Below.refl w4.heap.size w4) nq
  have hT4 := T4.out.drewN nq
  have hvO : ∀ g, wv.ownBlock = some g → g ≠ O ∧ g ≠ T := fun g hg => ⟨own_ne_map HX.out.row hg HO.out, own_ne_map HX.out.row hg HT.out⟩
  refine ⟨rfl, ⟨HX.out.blk.turns hT4 (by omega), own_turns HX.out.row hT4 (fun g hg e => by have := hvO g hg; omega), ⟨_, by
    have := O4.out.below h4d
    rw [oV_wip] at this
    exact this⟩, ⟨_, by
    have := HM4.out.below h4d
    rw [sV_wip] at this
    exact this⟩, HH.out.ne, HH.out.few, HH.out.pos, HH.out.nxl⟩, (Turns.of_below BX.out).trans hT4 (fun i _ e => e.elim (fun e => .inr (.inl e)) (fun e => .inr (.inr (.inl e))))⟩
end Go.Proofs.Ytpbheicfplpemaa
