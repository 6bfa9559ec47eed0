/- queue: wait, Put. -/
import Derived.Test.YtpbheicfplpemaaGreatQuState
import Derived.Deep.AppendLies
import Derived.Deep.RegionLaw
import Derived.Deep.RegionHeld3
import Derived.Deep.Cut
namespace Go.Proofs.YtpbheicfplpemaaGreat
open Go.RowKit

theorem info_task : (Tryz.prog.info? 85).map (fun i => (i.zero, i.size, i.bytes)) = some (some (.agg #[.string ⟨#[]⟩, .string ⟨#[]⟩, .int .i64 0, .int .i64 0]), 4, 48) := by kernel_rfl
theorem zeroIntE (w : World) : (zeroValue 3).run Tryz.prog w = .ok (.int .i64 0) w := by kernel_rfl
theorem tm_law (w w' : World) (T n : Nat) (tm : ByteArray → Option Int) (k : ByteArray) (x : Int) (m : Nat) (h : MapIs kStr w' T (fun k' => if k' = k then some (Value.int .i64 x) else sV tm k') m) : MapIs kStr w' T (sV (updS tm k x)) m := by rw [← sV_upd]; exact h

def WaitY (w : World) (q : Nat) (most grace next : Int) (wv : Value) (ts : List Tk) (O T : Nat) (om : Int → Option Ot) (tm : ByteArray → Option Int) (t : Tk) (e : Ending) (w' : World) : Prop :=
  e = .returned (.tuple #[]) ∧ ∃ wv', QS w' q most grace next wv' (ts ++ [t]) O T om (updS tm t.key 0) ∧ NextR w wv wv' ∧ Turns (QSet q wv O T) w w'
set_option maxRecDepth 20000 in
set_option maxHeartbeats 16000000 in
theorem waitQ (w : World) (q : Nat) (most grace next : Int) (wv : Value) (ts : List Tk) (O T : Nat) (om : Int → Option Ot) (tm : ByteArray → Option Int) (h : QS w q most grace next wv ts O T om tm) (t : Tk) (hf : ts.length < 100000) :
    Calls Tryz.prog 43 #[.pointer (some ⟨q, 0, none⟩), tkV t] w (WaitY w q most grace next wv ts O T om tm t) := by
  obtain ⟨i0, hi, hz0, hz1, hz2⟩ := info_parts info_task
  obtain ⟨A0, c0, rfl⟩ := own_slice' h.row
  have HH := Lib.hid h
  have hql := h.blk.lt
  have hB := Below.new w (.cells #[.string t.key, .string t.sticky, .int .i64 t.ready, .int .i64 t.att] 85)
  have HX := Lib.hid (h.bel hB)
  have KB := Lib.hid (Blk.new w 85 [.string t.key, .string t.sticky, .int .i64 t.ready, .int .i64 t.att])
  have HBW := Lib.hid hB
  have hnq : (Value.slice A0 ts.length c0).ownBlock ≠ some q := fun e => own_ne_blk h.row e h.blk (by decide) rfl
  have hnb : (Value.slice A0 ts.length c0).ownBlock ≠ some w.heap.size := fun e => by have := (own_lt h.row e).2; omega
  have hl1 : Hid (ts.length + 1 ≤ maxLen) := Lib.hid (by unfold maxLen; omega)
  have hl2 : Hid ((ts.length + 1) * 48 ≤ 140737488355328) := Lib.hid (by omega)
  clear h hB
  unfold tkV
  go_enter Tryz.func43, Tryz.ntmps43
  go_wp2_with fail
  generalize w.alloc (.cells #[.string t.key, .string t.sticky, .int .i64 t.ready, .int .i64 t.att] 85) = X at *
  obtain ⟨_, _, _, q1, _, _⟩ := HX.out.cells
  have zf := HX.out.blk.fz 3
  have u0 := KB.out.cell 0
  have u1 := KB.out.cell 1
  have u2 := KB.out.cell 2
  have u3 := KB.out.cell 3
  simp only [List.getElem?_cons_succ, List.getElem?_cons_zero] at u0 u1 u2 u3
  have n1 := World.new_ne X _ q1
  have n2 := World.new_ne X _ u0
  have lx1 := World.block_lt_of_cell? X _ q1
  have lx2 := World.block_lt_of_cell? X _ u0
  simp only at n1 n2 lx1 lx2
  have hnews := Lib.hid (World.news_of_block (w := (X.alloc (.cells #[.string t.key, .string t.sticky, .int .i64 t.ready, .int .i64 t.att] 85)).drew) (B := X.heap.size) (cs := #[.string t.key, .string t.sticky, .int .i64 t.ready, .int .i64 t.att]) (t := 85) (fr := (0, 0)) (heap_alloc_new X _))
  have hBX := below_drewN' (Below.new X (.cells #[.string t.key, .string t.sticky, .int .i64 t.ready, .int .i64 t.att] 85)) 1
  have hown := Lib.hid (own_turns HX.out.row (.of_below (S := fun _ => False) hBX) (fun _ _ => id))
  have HBB := Lib.hid (HX.out.blk.bel hBX)
  have HKB := Lib.hid (KB.out.bel hBX)
  have HBX := Lib.hid hBX
  have zfA : (X.alloc (.cells #[.string t.key, .string t.sticky, .int .i64 t.ready, .int .i64 t.att] 85)).drew.frozen? ⟨q, 3, none⟩ = false := HBB.out.fz 3
  clear hBX
  go_region_law ((refine step_append_lies _ (by rfl) _ _ _ (by rfl) 0 85 i0 _ 4 48 Tryz.underlying80 hi hz0 hz1 hz2 rfl (by omega) (.slice A0 ts.length c0) ts.length _ (by rfl) hown.out ⟨X.heap.size, 0, none⟩ 1 1 [.string t.key, .string t.sticky, .int .i64 t.ready, .int .i64 t.att] (by rfl) (by rfl) hnews.out (by intro u hu; simp at hu; rcases hu with rfl | rfl | rfl | rfl<;> rfl) (by omega) hl1.out hl2.out (Nat.zero_le _) (X.heap.size + 1) (by simp) ?_; intro ag cc1 y1 hown1 hgr1 hat1 hlt1; have hb4 := Lib.hid (HBB.out.turns (.of_grown (S := fun i => (Value.slice A0 ts.length c0).ownBlock = some i) hgr1 (fun r e => e)) (fun e => hnq e)); have c1 := hb4.out.cell 3; have y1z := hb4.out.fz 3; simp only [List.set_cons_succ, List.set_cons_zero, List.getElem?_cons_succ, List.getElem?_cons_zero] at c1))
  all_goals
    have HG := Lib.hid (Turns.of_grown (S := fun i => (Value.slice A0 ts.length c0).ownBlock = some i) hgr1 (fun r e => e))
    have HO1 := Lib.hid hown1
    have HAT := Lib.hid hat1
    have hkb := HKB.out.turns HG.out (fun e => hnb e)
    have hxs := HBW.out.size
    go_upto_region 2 with (fail)
    have hagq : ag ≠ q := fun e => by
      rcases hat1 with h1 | h1
      · rw [e] at h1; exact hnq h1
      · omega
    have TS : Turns (fun i => i = q) y1 (y1.setCell ⟨q, 3, none⟩ (.slice (some ⟨ag, 0, none⟩) (ts.length + 1) cc1)) := (Turns.refl (fun i => i = q) y1).set ⟨q, 3, none⟩ _ (fun _ => rfl)
    have yB := hb4.out.set 3 (.slice (some ⟨ag, 0, none⟩) (ts.length + 1) cc1)
    have yR := own_turns HO1.out TS (fun g hg e => by simp [Value.ownBlock] at hg; omega)
    have yK := hkb.turns TS (by omega)
    obtain ⟨nO, hO⟩ := HH.out.outs
    obtain ⟨nT, hT⟩ := HH.out.there
    have hOq : O ≠ q := hO.ne_cells HH.out.blk
    have hTq : T ≠ q := hT.ne_cells HH.out.blk
    have hOv : (Value.slice A0 ts.length c0).ownBlock ≠ some O := fun e => own_ne_map HH.out.row e hO rfl
    have hTv : (Value.slice A0 ts.length c0).ownBlock ≠ some T := fun e => own_ne_map HH.out.row e hT rfl
    have yO := (((hO.below HBW.out).below HBX.out).turns HG.out hOv).turns TS hOq
    have yT := (((hT.below HBW.out).below HBX.out).turns HG.out hTv).turns TS hTq
    have yW : Turns (QSet q (.slice A0 ts.length c0) O T) w (y1.setCell ⟨q, 3, none⟩ (.slice (some ⟨ag, 0, none⟩) (ts.length + 1) cc1)) :=
      (((Turns.of_below (S := QSet q (.slice A0 ts.length c0) O T) HBW.out).then (.of_below HBX.out)).trans HG.out (fun i _ e => .inr (.inr (.inr e)))).trans TS (fun i _ e => .inl e)
    have yN : NextR w (.slice A0 ts.length c0) (.slice (some ⟨ag, 0, none⟩) (ts.length + 1) cc1) := fun g hg => by
      simp [Value.ownBlock] at hg
      subst hg
      rcases hat1 with h1 | h1
      · exact .inl h1
      · exact .inr (by omega)
    have YB := Lib.hid yB
    have YR := Lib.hid yR
    have YO := Lib.hid yO
    have YT := Lib.hid yT
    have YW := Lib.hid yW
    have YN := Lib.hid yN
    clear yB yR yO yT yW yN TS hkb hown1 hgr1 hat1 c1 y1z hO hT
    generalize y1.setCell ⟨q, 3, none⟩ (.slice (some ⟨ag, 0, none⟩) (ts.length + 1) cc1) = Y at *
    have d5 := YB.out.cell 5
    have k0 := yK.cell 0
    simp only [List.set_cons_succ, List.set_cons_zero, List.getElem?_cons_succ, List.getElem?_cons_zero] at d5 k0
    refine wp_tail 6 (by kernel_rfl) (by kernel_rfl) ?_
    simp only [List.take_succ_cons, List.take_zero, List.drop_succ_cons, List.drop_zero]
    repeat still_step
    refine wpStill_nil ?_
    refine wpl_update (w := Y.drew) rfl _ _ _ 79 rfl (str_keys Tryz.underlying9) Tryz.underlying79 (YT.out.below (below_drewN' (Below.refl _ _) 1)) t.key (.int .i64 0) rfl rfl rfl ?_
    intro w3 hm3 ht3
    have HM3 := Lib.hid hm3
    have HT3 := Lib.hid ht3
    clear hm3 ht3
    go_wp2_with fail
    go_end0
    have TT : Turns (fun i => i = T) Y w3 := ((Turns.refl (fun i => i = T) Y).drewN 1).trans (.of_map (S := fun i => i = T) HT3.out rfl) (fun _ _ e => e)
    have hTag : ag ≠ T := fun e => own_ne_map YR.out (g := ag) rfl YT.out e
    have hrow := own_turns YR.out TT (fun g hg e => by simp [Value.ownBlock] at hg; omega)
    have hfl : ts.flatMap tkC ++ [.string t.key, .string t.sticky, .int .i64 t.ready, .int .i64 t.att] = (ts ++ [t]).flatMap tkC := by rw [List.flatMap_append]; simp [tkC]
    rw [hfl] at hrow
    refine ⟨rfl, _, ⟨YB.out.turns TT (fun e => hTq e.symm), by simpa using hrow, ⟨_, YO.out.turns TT HH.out.ne⟩, ⟨_, by have := HM3.out; rw [sV_upd] at this; exact this⟩, HH.out.ne, by simp; omega, HH.out.pos, HH.out.nxl⟩, YN.out, YW.out.trans TT (fun i _ e => .inr (.inr (.inl e)))⟩

set_option maxRecDepth 20000 in
set_option maxHeartbeats 4000000 in
theorem putQ (w : World) (q : Nat) (most grace next : Int) (wv : Value) (ts : List Tk) (O T : Nat) (om : Int → Option Ot) (tm : ByteArray → Option Int) (h : QS w q most grace next wv ts O T om tm) (key sticky : ByteArray) (ready : Int) (hn : tm key = none) (hm : (ts.length : Int) < most) (hf : ts.length < 100000) :
    Calls Tryz.prog 13 #[.pointer (some ⟨q, 0, none⟩), .string key, .string sticky, .int .i64 ready] w fun e w' => e = .returned (.int .i64 0) ∧ ∃ wv', QS w' q most grace next wv' (ts ++ [⟨key, sticky, ready, 0⟩]) O T om (updS tm key 0) ∧ NextR w wv wv' ∧ Turns (QSet q wv O T) w w' := by
  obtain ⟨A0, c0, rfl⟩ := own_slice' h.row
  obtain ⟨q0, _, q2, q3, _, q5⟩ := h.cells
  have HM := Lib.hid (made1 w q next h.pos q2)
  obtain ⟨nT, hT⟩ := h.there
  have HH := Lib.hid h
  have hlk : (Instr.lookup 79 (.map (some T)) (.string key) true).run Tryz.prog w = .ok (.tuple #[.int .i64 0, .bool false]) w := by
    have := MapIs.lookup (t := 79) (e := 3) hT (str_keys Tryz.underlying9) Tryz.underlying79 (zeroIntE _) key true
    unfold sV at this
    rw [hn] at this
    exact this
  have hge : decide (most ≤ (ts.length : Int)) = false := decide_eq_false (by omega)
  clear h hT hn
  go_enter Tryz.func13, Tryz.ntmps13
  go_wp2_with (go_at_call 39; refine HM.out.mono ?_; rintro e w' ⟨rfl, rfl⟩)
  go_quiet (fail)
  have hB := below_drewN' (Below.refl w'.heap.size w') nq
  have HW := Lib.hid (waitQ (w'.drewN nq) q most grace next _ ts O T om tm (HH.out.bel hB) ⟨key, sticky, ready, 0⟩ hf)
  have HB := Lib.hid hB
  clear hB hlk
  unfold tkV at HW
  go_wp2_with fail
  refine HW.out.mono ?_
  rintro e w2 ⟨rfl, wv', s2, n2, t2⟩
  have S2 := Lib.hid s2
  have N2 := Lib.hid n2
  have T2 := Lib.hid t2
  clear s2 n2 t2
  go_wp2_with fail
  go_ret
  exact ⟨rfl, wv', S2.out, N2.out, (Turns.of_below HB.out).then T2.out⟩
end Go.Proofs.YtpbheicfplpemaaGreat
