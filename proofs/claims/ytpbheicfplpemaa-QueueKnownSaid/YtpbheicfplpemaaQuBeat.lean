/- queue: Beat. -/
import Derived.Test.YtpbheicfplpemaaQuOuts
import Derived.Test.YtpbheicfplpemaaQuBack
import Derived.Deep.CutRange
namespace Go.Proofs.Ytpbheicfplpemaa
open Go.RowKit

def beatOt (x : Ot) (now lease : Int) : Ot := { x with until_ := max x.until_ (addI now lease) }
def BeatY (w : World) (q : Nat) (most grace next : Int) (wv : Value) (ts : List Tk) (O T : Nat) (om : Int → Option Ot) (tm : ByteArray → Option Int) (k now lease : Int) (x : Ot) (e : Ending) (w' : World) : Prop :=
  e = .returned (.int .i64 0) ∧ QS w' q most grace next wv ts O T (updI om k (beatOt x now lease)) tm ∧ Turns (QSet q wv O T) w w'
set_option maxRecDepth 20000 in
theorem beatA (w : World) (q : Nat) (most grace next : Int) (wv : Value) (ts : List Tk) (O T : Nat) (om : Int → Option Ot) (tm : ByteArray → Option Int) (h : QS w q most grace next wv ts O T om tm) (k now lease : Int) (hl : lease < 1) :
    Calls Try.prog 16 #[.pointer (some ⟨q, 0, none⟩), .int .i64 k, .int .i64 now, .int .i64 lease] w fun e w' => e = .returned (.int .i64 1) ∧ Below w.heap.size w w' := by
  obtain ⟨_, _, c2, _, _, _⟩ := h.cells
  have hM := Lib.hid (made1 w q next h.pos c2)
  clear h
  go_enter Try.func16, Try.ntmps16
  go_wp2_with (go_at_call 28; refine hM.out.mono ?_; rintro e w' ⟨rfl, rfl⟩)
  go_ret
  exact ⟨rfl, Below.refl _ _⟩
set_option maxRecDepth 20000 in
theorem beat0 (w : World) (q : Nat) (most grace next : Int) (wv : Value) (ts : List Tk) (O T : Nat) (om : Int → Option Ot) (tm : ByteArray → Option Int) (h : QS w q most grace next wv ts O T om tm) (k now lease : Int) (hl : ¬ lease < 1) (hx : om k = none) :
    Calls Try.prog 16 #[.pointer (some ⟨q, 0, none⟩), .int .i64 k, .int .i64 now, .int .i64 lease] w fun e w' => e = .returned (.int .i64 5) ∧ Below w.heap.size w w' := by
  obtain ⟨_, _, c2, _, _, _⟩ := h.cells
  have hM := Lib.hid (made1 w q next h.pos c2)
  have hF := Lib.hid (find0 w q most grace next wv ts O T om tm h k hx)
  unfold otV at hF
  clear h
  go_enter Try.func16, Try.ntmps16
  go_wp2_with (first | (go_at_call 28; refine hM.out.mono ?_; rintro e w' ⟨rfl, rfl⟩) | (go_at_call 35; refine hF.out.mono ?_; rintro e w1 ⟨rfl, hb1⟩; have HB1 := Lib.hid hb1; clear hb1))
  go_ret
  exact ⟨rfl, below_trans' HB1.out (Below.new _ _)⟩
set_option maxRecDepth 20000 in
set_option maxHeartbeats 8000000 in
theorem beat1 (w : World) (q : Nat) (most grace next : Int) (wv : Value) (ts : List Tk) (O T : Nat) (om : Int → Option Ot) (tm : ByteArray → Option Int) (h : QS w q most grace next wv ts O T om tm) (k now lease : Int) (x : Ot) (hl : ¬ lease < 1) (hle : lease ≤ 9223372036854775807) (hno : -9223372036854775808 ≤ now ∧ now ≤ 9223372036854775807) (hx : om k = some x) :
    Calls Try.prog 16 #[.pointer (some ⟨q, 0, none⟩), .int .i64 k, .int .i64 now, .int .i64 lease] w (BeatY w q most grace next wv ts O T om tm k now lease x) := by
  obtain ⟨_, _, c2, _, _, _⟩ := h.cells
  have hM := Lib.hid (made1 w q next h.pos c2)
  have HF := Lib.hid (find1 w q most grace next wv ts O T om tm h k x hx)
  have HH := Lib.hid h
  unfold otV at HF
  clear h
  go_enter Try.func16, Try.ntmps16
  go_upto_region 5 with (first | (go_at_call 28; refine hM.out.mono ?_; rintro e w' ⟨rfl, rfl⟩) | (go_at_call 35; refine HF.out.mono ?_; rintro e w1 ⟨rfl, hb1⟩; have HB1 := Lib.hid hb1; clear hb1))
  have hbX := Below.new w1 (.cells #[.string x.tk.key, .string x.tk.sticky, .int .i64 x.tk.ready, .int .i64 x.tk.att, .int .i64 x.token, .string x.worker, .int .i64 x.until_] 82)
  have KX := Lib.hid (Blk.new w1 82 (otL x))
  have BX := Lib.hid (below_trans' HB1.out hbX)
  have HX := Lib.hid (HH.out.bel BX.out)
  have hql : ∀ i, QSet q wv O T i → i < w1.heap.size := fun i hi => Nat.lt_of_lt_of_le (HH.out.lts i hi) HB1.out.size
  simp only [otL] at KX
  have hwl := HB1.out.size
  clear hbX HB1 HF hM c2
  generalize w1.alloc (.cells #[.string x.tk.key, .string x.tk.sticky, .int .i64 x.tk.ready, .int .i64 x.tk.att, .int .i64 x.token, .string x.worker, .int .i64 x.until_] 82) = X at *
  generalize w1.heap.size = l at *
  have m6 := KX.out.cell 6
  have mz := KX.out.fz 6
  simp only [List.getElem?_cons_succ, List.getElem?_cons_zero] at m6
  have HQL := Lib.hid hql
  clear hql
  have HA := Lib.hid (addQ X.drew now lease hno ⟨by omega, hle⟩)
  refine wp_tail 7 (by kernel_rfl) (by kernel_rfl) ?_
  simp only [List.take_succ_cons, List.take_zero, List.drop_succ_cons, List.drop_zero]
  repeat (first | still_step | still_call HA.out)
  refine wpStill_nil ?_
  have m6d : X.drew.cell? ⟨l, 6, none⟩ = some (.int .i64 x.until_) := m6
  clear m6 mz
  have mzd : X.drew.frozen? ⟨l, 6, none⟩ = false := KX.out.fz 6
  go_upto_region 6 with (fail)
  have hXd : Below X.heap.size X X.drew := below_drewN' (Below.refl X.heap.size X) 1
  have TZ : Turns (fun i => i = l) X.drew (X.drew.setCell ⟨l, 6, none⟩ (.int .i64 (max x.until_ (addI now lease)))) := (Turns.refl (fun i => i = l) X.drew).set ⟨l, 6, none⟩ _ (fun _ => rfl)
  have KZ := Lib.hid ((KX.out.bel hXd).set 6 (.int .i64 (max x.until_ (addI now lease))))
  have hQL := HQL.out
  have HZ := Lib.hid ((HX.out.bel hXd).keep TZ (fun i hi e => by have := hQL i hi; omega))
  have BZ := Lib.hid ((Turns.of_below (S := fun i => l ≤ i) BX.out).trans ((Turns.of_below (S := fun i => l ≤ i) hXd).trans TZ (fun i _ e => by omega)) (fun i _ e => e))
  clear mzd m6d hXd TZ hQL KX HX BX HA
  generalize hZe : X.drew.setCell ⟨l, 6, none⟩ (.int .i64 (max x.until_ (addI now lease))) = Z at *
  rw [show (X.setCell ⟨l, 6, none⟩ (.int .i64 (max x.until_ (addI now lease)))).drew = Z from hZe]
  clear hZe
  obtain ⟨_, _, _, _, c4, _⟩ := HZ.out.cells
  have m0 := KZ.out.cell 0
  have m1 := KZ.out.cell 1
  have m2 := KZ.out.cell 2
  have m3 := KZ.out.cell 3
  have m4 := KZ.out.cell 4
  have m5 := KZ.out.cell 5
  have m6 := KZ.out.cell 6
  simp only [List.set_cons_succ, List.set_cons_zero, List.getElem?_cons_succ, List.getElem?_cons_zero] at m0 m1 m2 m3 m4 m5 m6
  obtain ⟨nO, hO⟩ := HZ.out.outs
  obtain ⟨nT, hT⟩ := HZ.out.there
  have hOq : O ≠ q := hO.ne_cells HZ.out.blk
  have HO := Lib.hid hO
  have HT := Lib.hid hT
  clear hO hT
  have hql := HZ.out.blk.lt
  have hll := KZ.out.lt
  refine wp_tail 6 (by kernel_rfl) (by kernel_rfl) ?_
  simp only [List.take_succ_cons, List.take_zero, List.drop_succ_cons, List.drop_zero]
  repeat still_step
  refine wpStill_nil ?_
  clear c4 m0 m1 m2 m3 m4 m5 m6
  have hZd : Below Z.heap.size Z Z.drew := below_drewN' (Below.refl Z.heap.size Z) 1
  refine wpl_update (w := Z.drew) rfl _ _ _ 59 rfl (int_keys Try.underlying3) Try.underlying59 (HO.out.below hZd) k (otV (beatOt x now lease)) rfl rfl rfl ?_
  intro w3 hm3 ht3
  have TT : Turns (fun j => j = O) Z w3 := ((Turns.refl (fun j => j = O) Z).drewN 1).trans (.of_map (S := fun j => j = O) ht3 rfl) (fun _ _ e => e)
  have HM3 := Lib.hid hm3
  have HTT := Lib.hid TT
  clear hm3 ht3 TT
  go_wp2_with fail
  go_ret
  refine ⟨rfl, ⟨HZ.out.blk.turns HTT.out (Ne.symm hOq), own_turns HZ.out.row HTT.out (fun g hg e => own_ne_map HZ.out.row hg HO.out e), ⟨_, by have := HM3.out; rw [oV_upd] at this; exact this⟩, ⟨_, HT.out.turns HTT.out (fun e => HZ.out.ne e.symm)⟩, HH.out.ne, HH.out.few, HH.out.pos, HH.out.nxl⟩, ?_⟩
  exact (Turns.mono (T := QSet q wv O T) (BZ.out) (fun i hi e => by omega)).trans HTT.out (fun i _ e => .inr (.inl e))
end Go.Proofs.Ytpbheicfplpemaa
