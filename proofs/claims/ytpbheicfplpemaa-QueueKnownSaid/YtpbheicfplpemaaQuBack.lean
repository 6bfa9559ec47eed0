/- queue: Back; Done and Back of no token. -/
import Derived.Test.YtpbheicfplpemaaQuDone
namespace Go.Proofs.Ytpbheicfplpemaa
open Go.RowKit

def BackY (w : World) (q : Nat) (most grace next : Int) (wv : Value) (ts : List Tk) (O T : Nat) (om : Int → Option Ot) (tm : ByteArray → Option Int) (k ready : Int) (x : Ot) (e : Ending) (w' : World) : Prop :=
  e = .returned (.tuple #[.string x.tk.key, .int .i64 x.tk.att, .int .i64 0]) ∧ ∃ wv', QS w' q most grace next wv' (ts ++ [⟨x.tk.key, ⟨#[]⟩, ready, x.tk.att⟩]) O T (wipI om k) (updS tm x.tk.key 0) ∧ NextR w wv wv' ∧ Turns (QSet q wv O T) w w'
theorem NextR.later {w w1 : World} {v v' : Value} (h : NextR w1 v v') (hs : w.heap.size ≤ w1.heap.size) : NextR w v v' := fun g hg => (h g hg).imp id (fun e => Nat.le_trans hs e)
set_option maxRecDepth 20000 in
set_option maxHeartbeats 8000000 in
theorem back1 (w : World) (q : Nat) (most grace next : Int) (wv : Value) (ts : List Tk) (O T : Nat) (om : Int → Option Ot) (tm : ByteArray → Option Int) (h : QS w q most grace next wv ts O T om tm) (k ready : Int) (x : Ot) (hx : om k = some x) (hf : ts.length < 100000) :
    Calls Try.prog 13 #[.pointer (some ⟨q, 0, none⟩), .int .i64 k, .int .i64 ready] w (BackY w q most grace next wv ts O T om tm k ready x) := by
  have HF := Lib.hid (find1 w q most grace next wv ts O T om tm h k x hx)
  have HH := Lib.hid h
  unfold otV at HF
  clear h
  go_enter Try.func13, Try.ntmps13
  go_upto_region 3 with (go_at_call 35; refine HF.out.mono ?_; rintro e w1 ⟨rfl, hb1⟩; have HB1 := Lib.hid hb1; clear hb1)
  have hbX := Below.new w1 (.cells #[.string x.tk.key, .string x.tk.sticky, .int .i64 x.tk.ready, .int .i64 x.tk.att, .int .i64 x.token, .string x.worker, .int .i64 x.until_] 82)
  have KX := Lib.hid (Blk.new w1 82 (otL x))
  have BX := Lib.hid (below_trans' HB1.out hbX)
  have HX := Lib.hid (HH.out.bel BX.out)
  have hql : ∀ i, QSet q wv O T i → i < w1.heap.size := fun i hi => Nat.lt_of_lt_of_le (HH.out.lts i hi) HB1.out.size
  simp only [otL] at KX
  clear hbX HB1 HF
  generalize w1.alloc (.cells #[.string x.tk.key, .string x.tk.sticky, .int .i64 x.tk.ready, .int .i64 x.tk.att, .int .i64 x.token, .string x.worker, .int .i64 x.until_] 82) = X at *
  generalize w1.heap.size = l at *
  obtain ⟨_, _, _, _, c4, _⟩ := HX.out.cells
  have hOl := hql O (.inr (.inl rfl))
  have HQL := Lib.hid hql
  clear hql
  obtain ⟨nO, hO⟩ := HX.out.outs
  obtain ⟨nT, hT⟩ := HX.out.there
  have hOq : O ≠ q := hO.ne_cells HX.out.blk
  have HO := Lib.hid hO
  have HT := Lib.hid hT
  clear hO hT
  go_upto_region 4 with (at_delete; refine wpl_delete (w := X) rfl _ _ 59 3 rfl (int_keys Try.underlying3) Try.underlying59 HO.out k rfl rfl ?_; intro w3 hm3 ht3; have TO := Lib.hid (Turns.of_map (S := fun j => j = O) ht3 rfl); have HM3 := Lib.hid hm3; clear hm3 ht3)
  have K3 := Lib.hid (KX.out.turns TO.out (by omega))
  have hQ3 : QS w3 q most grace next wv ts O T (wipI om k) tm := ⟨HX.out.blk.turns TO.out (Ne.symm hOq), own_turns HX.out.row TO.out (fun g hg e => own_ne_map HX.out.row hg HO.out e), ⟨_, by
    have := HM3.out
    rw [oV_wip] at this
    exact this⟩, ⟨_, HT.out.turns TO.out (fun e => HX.out.ne e.symm)⟩, HH.out.ne, HH.out.few, HH.out.pos, HH.out.nxl⟩
  have HW := Lib.hid (waitQ w3 q most grace next wv ts O T _ tm hQ3 ⟨x.tk.key, ⟨#[]⟩, ready, x.tk.att⟩ hf)
  have T3 := Lib.hid ((Turns.of_below (S := QSet q wv O T) BX.out).trans TO.out (fun i _ e => .inr (.inl e)))
  unfold tkV at HW
  have m0 := K3.out.cell 0
  have m3 := K3.out.cell 3
  simp only [List.getElem?_cons_succ, List.getElem?_cons_zero] at m0 m3
  clear hQ3 TO HM3 HO HT c4 HX BX KX
  go_upto_region 5 with (go_at_call 29; refine HW.out.mono ?_; rintro e w4 ⟨rfl, wv', s4, n4, t4⟩; have S4 := Lib.hid s4; have N4 := Lib.hid n4; have T4 := Lib.hid t4; have K4 := Lib.hid (K3.out.turns t4 (fun hi => absurd (HQL.out l hi) (Nat.lt_irrefl _))); clear s4 n4 t4 m0 m3; have m0 := K4.out.cell 0; have m3 := K4.out.cell 3; simp only [List.getElem?_cons_succ, List.getElem?_cons_zero] at m0 m3)
  go_quiet (fail)
  clear m0 m3
  go_wp2_with fail
  go_ret3
  have h4d := below_drewN' (Below.refl w4.heap.size w4) nq
  exact ⟨rfl, wv', S4.out.bel h4d, N4.out.later T3.out.size, (T3.out.then T4.out).then (.of_below h4d)⟩
end Go.Proofs.Ytpbheicfplpemaa
