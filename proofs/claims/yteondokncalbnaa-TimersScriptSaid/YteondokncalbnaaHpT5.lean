/- heap: Push at prompter/api.Timer (written by gen_heap3.py). -/
import Derived.Test.YteondokncalbnaaHpT4
import Derived.Deep.AppendLies
import Derived.Deep.RegionHeld3
import Derived.Deep.RegionLaw
namespace Go.Proofs.Yteondokncalbnaa
open Go.RowKit

set_option maxRecDepth 20000 in
set_option maxHeartbeats 16000000 in
theorem pushT (w : World) (p : Nat) (v : Value) (M : Nat) (xs : List Th) (nx : Nat) (h : HStT w p v M xs nx) (key : Int) (d : Int) (o : ByteArray) (k : Int) (hnx : nx < 1000000) :
    Calls Try.prog 34 #[.pointer (some ⟨p, 0, none⟩), .int .i64 key, .agg #[.int .i64 d, .string o, .int .i64 k]] w fun e w' => e = .returned (.int .i64 (nx : Int)) ∧ ∃ zs v', zs.Perm (xs ++ [⟨key, nx, (timV d o k)⟩]) ∧ HStT w' p v' M zs (nx + 1) ∧ Next w v v' ∧ Turns (HS p v M) w w' := by
  obtain ⟨m, hm, hp⟩ := h.raw
  obtain ⟨i0, hi, hz0, hz1, hz2⟩ := info_parts info_thT
  have hvw : ∃ A n cap, v = .slice A n cap := by
    rcases hm.row.2 with ⟨rfl, _⟩ | ⟨g, cap, cur, rfl, _⟩
    · exact ⟨_, _, _, rfl⟩
    · exact ⟨_, _, _, rfl⟩
  obtain ⟨A0, n0, c0, hv0⟩ := hvw
  subst hv0
  have b0 := hm.blk.cell 0
  have b1 := hm.blk.cell 1
  have b3 := hm.blk.cell 3
  have z1 := hm.blk.fz 1
  have z3 := hm.blk.fz 3
  simp only [List.getElem?_cons_succ, List.getElem?_cons_zero] at b0 b1 b3
  have hpw := hm.blk.lt
  have hp1 : p < w.heap.size + 1 := by omega
  have HH := Lib.hid h
  have HM := Lib.hid hm
  have HP := Lib.hid hp
  have hnv : ∀ g, (Value.slice A0 n0 c0).ownBlock = some g → g ≠ p := fun g hg => own_ne_blk hm.row hg hm.blk (by decide)
  have HNV := Lib.hid hnv
  clear h hm hp hnv
  have HX : Turns (fun i => i = p) w ((w.setCell ⟨p, 3, none⟩ (.int .i64 ((nx : Int) + 1))).alloc (.cells #[.int .i64 d, .string o, .int .i64 k] 31)) := ((Turns.refl (fun i => i = p) w).set ⟨p, 3, none⟩ _ (fun _ => rfl)).alloc _
  have KB : Blk ((w.setCell ⟨p, 3, none⟩ (.int .i64 ((nx : Int) + 1))).alloc (.cells #[.int .i64 d, .string o, .int .i64 k] 31)) w.heap.size 31 [.int .i64 d, .string o, .int .i64 k] := by
    have := Blk.new (w.setCell ⟨p, 3, none⟩ (.int .i64 ((nx : Int) + 1))) 31 [.int .i64 d, .string o, .int .i64 k]
    rwa [show (w.setCell ⟨p, 3, none⟩ (.int .i64 ((nx : Int) + 1))).heap.size = w.heap.size from by simp [World.setCell]] at this
  have HB1 := (HM.out.blk.set 3 (.int .i64 ((nx : Int) + 1))).alloc (.cells #[.int .i64 d, .string o, .int .i64 k] 31)
  have hlen := HH.out.len
  have hl1 : Hid (xs.length + 1 ≤ maxLen) := Lib.hid (by unfold maxLen; omega)
  have hl2 : Hid ((xs.length + 1) * 48 ≤ 140737488355328) := Lib.hid (by omega)
  have hlenI : (xs.length : Int) ≤ 1000000 := by omega
  have hown0 := Lib.hid (own_turns HM.out.row HX HNV.out)
  have q1 := HB1.cell 1
  have u0 := KB.cell 0
  have u1 := KB.cell 1
  have u2 := KB.cell 2
  simp only [List.set_cons_succ, List.set_cons_zero, List.getElem?_cons_succ, List.getElem?_cons_zero] at q1 u0 u1 u2
  have hXs : Hid (w.heap.size ≤ ((w.setCell ⟨p, 3, none⟩ (.int .i64 ((nx : Int) + 1))).alloc (.cells #[.int .i64 d, .string o, .int .i64 k] 31)).heap.size) := Lib.hid HX.size
  have HXX := Lib.hid HX
  have HBX := Lib.hid HB1
  clear hlen KB HX HB1
  go_enter Try.func34, Try.ntmps34
  go_wp2_with fail
  generalize ((w.setCell ⟨p, 3, none⟩ (.int .i64 ((nx : Int) + 1))).alloc (.cells #[.int .i64 d, .string o, .int .i64 k] 31)) = X at *
  have zf := HBX.out.fz 1
  have n1 := World.new_ne X _ q1
  have n2 := World.new_ne X _ u0
  have lx1 := World.block_lt_of_cell? X _ q1
  have lx2 := World.block_lt_of_cell? X _ u0
  simp only at n1 n2 lx1 lx2
  have hnb : (Value.slice A0 n0 c0).ownBlock ≠ some w.heap.size := fun e => by have := (HM.out.row.lt _ e).2; omega
  have hnp : (Value.slice A0 n0 c0).ownBlock ≠ some p := fun e => HNV.out _ e rfl
  have hnews := Lib.hid (World.news_of_block (w := (X.alloc (.cells #[.int .i64 key, .int .i64 (nx : Int), .int .i64 d, .string o, .int .i64 k] 92)).drew) (B := X.heap.size) (cs := #[.int .i64 key, .int .i64 (nx : Int), .int .i64 d, .string o, .int .i64 k]) (t := 92) (fr := (0, 0)) (heap_alloc_new X _))
  have hown := Lib.hid (own_turns hown0.out (((Turns.refl (fun _ => False) X).alloc (.cells #[.int .i64 key, .int .i64 (nx : Int), .int .i64 d, .string o, .int .i64 k] 92)).drewN 1) (fun _ _ => id))
  have T1 : Turns (fun i => i = p) w ((X.alloc (.cells #[.int .i64 key, .int .i64 (nx : Int), .int .i64 d, .string o, .int .i64 k] 92)).drewN 1) := (HXX.out.alloc _).drewN 1
  have HT1 := Lib.hid T1
  have HSZ := Lib.hid T1.size
  have HBB := Lib.hid ((HBX.out.alloc (.cells #[.int .i64 key, .int .i64 (nx : Int), .int .i64 d, .string o, .int .i64 k] 92)).drewN 1)
  have zfA : (X.alloc (.cells #[.int .i64 key, .int .i64 (nx : Int), .int .i64 d, .string o, .int .i64 k] 92)).drew.frozen? ⟨p, 1, none⟩ = false := HBB.out.fz 1
  have zfB : (X.alloc (.cells #[.int .i64 key, .int .i64 (nx : Int), .int .i64 d, .string o, .int .i64 k] 92)).frozen? ⟨p, 1, none⟩ = false := HBB.out.fz 1
  clear T1
  go_region_law ((refine step_append_lies _ (by rfl) _ _ _ (by rfl) 0 92 i0 _ 5 48 Try.underlying93 hi hz0 hz1 hz2 rfl (by omega) (.slice A0 n0 c0) xs.length _ (by rfl) hown.out ⟨X.heap.size, 0, none⟩ 1 1 [.int .i64 key, .int .i64 (nx : Int), .int .i64 d, .string o, .int .i64 k] (by rfl) (by rfl) hnews.out (by intro u hu; simp at hu; rcases hu with rfl | rfl | rfl | rfl | rfl<;> rfl) (by omega) hl1.out hl2.out (Nat.zero_le _) (X.heap.size + 1) (by simp) ?_; intro ag cc1 y1 hown1 hgr1 hat1 hlt1; have hb4 := Lib.hid (HBB.out.turns (.of_grown (S := fun i => (Value.slice A0 n0 c0).ownBlock = some i) hgr1 (fun r e => e)) (fun e => HNV.out _ e rfl)); have c1 := hb4.out.cell 1; have y1z := hb4.out.fz 1; simp only [List.set_cons_succ, List.set_cons_zero, List.getElem?_cons_succ, List.getElem?_cons_zero] at c1))
  all_goals
    go_wp2_with fail
    have hb5 := hb4.out
    have hnv1 : ∀ g, (Value.slice (some ⟨ag, 0, none⟩) (xs.length + 1) cc1).ownBlock = some g → g ≠ p := fun g hg => own_ne_blk hown1 hg hb5 (by decide)
    have hb6 : Blk (y1.setCell ⟨p, 1, none⟩ (.slice (some ⟨ag, 0, none⟩) (xs.length + 1) cc1)) p 96 [.bool true, .slice (some ⟨ag, 0, none⟩) (xs.length + 1) cc1, .map (some M), .int .i64 ((nx + 1 : Nat) : Int)] := hb5.set 1 _
    have TS : Turns (fun i => i = p) y1 (y1.setCell ⟨p, 1, none⟩ (.slice (some ⟨ag, 0, none⟩) (xs.length + 1) cc1)) := (Turns.refl (fun i => i = p) y1).set ⟨p, 1, none⟩ _ (fun _ => rfl)
    have hrow := own_turns hown1 TS hnv1
    have hfl : (xs.flatMap thCT ++ [.int .i64 key, .int .i64 (nx : Int), .int .i64 d, .string o, .int .i64 k]) = (xs ++ [(⟨key, nx, (timV d o k)⟩ : Th)]).flatMap thCT := by rw [List.flatMap_append]; simp [thCT, timV]
    rw [hfl] at hrow
    obtain ⟨nm, hmm⟩ := HM.out.map
    have hMp : M ≠ p := hmm.ne_cells HM.out.blk
    have hMv : ∀ g, (Value.slice A0 n0 c0).ownBlock = some g → M ≠ g := fun g hg e => own_ne_map HM.out.row hg hmm e.symm
    have TG := Turns.of_grown (S := fun i => (Value.slice A0 n0 c0).ownBlock = some i) hgr1 (fun r e => e)
    have hmm2 := ((hmm.turns HT1.out hMp).turns TG (fun e => hMv _ e rfl)).turns TS hMp
    have hR : HRawT (y1.setCell ⟨p, 1, none⟩ (.slice (some ⟨ag, 0, none⟩) (xs.length + 1) cc1)) p (.slice (some ⟨ag, 0, none⟩) (xs.length + 1) cc1) M (xs ++ [⟨key, nx, (timV d o k)⟩]) m (nx + 1) := by
      refine ⟨hb6, by simpa using hrow, ⟨nm, hmm2⟩, ?_, by simp; have := HH.out.len; omega⟩
      intro t ht
      rcases List.mem_append.1 ht with ht | ht
      · exact HM.out.one t ht
      · simp at ht
        subst ht
        intro u hu
        simp [thCT, timV] at hu
        rcases hu with rfl | rfl | rfl | rfl | rfl<;> rfl
    have hnx2 : ∀ y ∈ xs, y.num ≠ nx := fun y hy => by have := HH.out.lt y hy; omega
    have hV := Vir.snoc HP.out HH.out.apart ⟨key, nx, (timV d o k)⟩ hnx2
    have TY : Turns (HS p (.slice A0 n0 c0) M) w (y1.setCell ⟨p, 1, none⟩ (.slice (some ⟨ag, 0, none⟩) (xs.length + 1) cc1)) :=
      ((HT1.out.mono (T := HS p (.slice A0 n0 c0) M) (fun i _ e => .inl e)).trans TG (fun i _ e => .inr (.inr e))).trans TS (fun i _ e => .inl e)
    have hnext : Next w (.slice A0 n0 c0) (.slice (some ⟨ag, 0, none⟩) (xs.length + 1) cc1) := hat1.elim (fun e => .inl e.symm) (fun e => .inr ⟨ag, rfl, by have := hXs.out; omega⟩)
    have HNX := Lib.hid hnext
    have HTY := Lib.hid TY
    have HV := Lib.hid hV
    have HRR := Lib.hid hR
    clear hb5 hnv1 hb6 TS hrow hfl hmm hmm2 TG hR hV TY hnext hnx2 hMv hown1 hgr1 hat1
    refine (riseT _ p _ M _ m (nx + 1) xs.length HRR.out HV.out (HH.out.heap.snoc _)).mono ?_
    rintro e w3 ⟨rfl, zs, m', hp1, hp2, hp3, hp4, hp5⟩
    go_wp2_with fail
    go_ret
    refine ⟨rfl, zs, _, hp1, ⟨⟨m', hp4, hp3⟩, hp2, HV.out.apart.perm hp1, ?_, by omega, ?_⟩, HNX.out, HTY.out.trans hp5 (fun i hi hs => HS.next HNX.out hi hs)⟩
    · intro t ht
      rcases List.mem_append.1 (hp1.mem_iff.1 ht) with ht | ht
      · have := HH.out.lt t ht; omega
      · simp at ht; subst ht; exact Nat.lt_succ_self _
    · have h1 := hp1.length_eq
      have h2 := HH.out.len
      rw [List.length_append, List.length_singleton] at h1
      omega
end Go.Proofs.Yteondokncalbnaa
