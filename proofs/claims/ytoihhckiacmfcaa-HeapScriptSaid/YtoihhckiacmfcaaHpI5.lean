/- heap: Push at int (written by gen_heap3.py). -/
import Derived.Test.YtoihhckiacmfcaaHpI4
namespace Go.Proofs.Ytoihhckiacmfcaa
open Go.RowKit

set_option maxRecDepth 20000 in
set_option maxHeartbeats 1600000 in
theorem pushI (w : World) (p : Nat) (v : Value) (M : Nat) (xs : List Th) (nx : Nat) (h : HStI w p v M xs nx) (key : Int) (a : Int) (hnx : nx < 1000000) :
    Calls Try.prog 16 #[.pointer (some ⟨p, 0, none⟩), .int .i64 key, .int .i64 a] w fun e w' => e = .returned (.int .i64 (nx : Int)) ∧ ∃ zs v', zs.Perm (xs ++ [⟨key, nx, (fun _ => .int .i64 a)⟩]) ∧ HStI w' p v' M zs (nx + 1) ∧ Next w v v' ∧ Turns (HS p v M) w w' := by
  obtain ⟨m, hm, hp⟩ := h.raw
  obtain ⟨i0, hi, hz0, hz1, hz2⟩ := info_parts info_thI
  have hvw : ∃ A n cap, v = .slice A n cap := by
    rcases hm.row.2 with ⟨rfl, _⟩ | ⟨g, cap, cur, rfl, _⟩
    · exact ⟨_, _, _, rfl⟩
    · exact ⟨_, _, _, rfl⟩
  obtain ⟨A0, n0, c0, hv0⟩ := hvw
  subst hv0
  have b0 := hm.blk.cell 0
  have b1 := hm.blk.cell 1
  have b3 := hm.blk.cell 3
  have z1 := hm.blk.fz 1
  have z3 := hm.blk.fz 3
  simp only [List.getElem?_cons_succ, List.getElem?_cons_zero] at b0 b1 b3
  have hpw := hm.blk.lt
  have hp1 : p < w.heap.size + 1 := by omega
  have HH := Lib.hid h
  have HM := Lib.hid hm
  have HP := Lib.hid hp
  have hnv : ∀ g, (Value.slice A0 n0 c0).ownBlock = some g → g ≠ p := fun g hg => own_ne_blk hm.row hg hm.blk (by decide)
  have HNV := Lib.hid hnv
  clear h hm hp hnv
  have W0 : Blk ((w.setCell ⟨p, 3, none⟩ (.int .i64 ((nx : Int) + 1))).alloc (.cells #[.int .i64 key, .int .i64 (nx : Int), .int .i64 a] 65)) w.heap.size 65 [.int .i64 key, .int .i64 (nx : Int), .int .i64 a] := by
    have := Blk.new (w.setCell ⟨p, 3, none⟩ (.int .i64 ((nx : Int) + 1))) 65 [.int .i64 key, .int .i64 (nx : Int), .int .i64 a]
    rwa [show (w.setCell ⟨p, 3, none⟩ (.int .i64 ((nx : Int) + 1))).heap.size = w.heap.size from by simp [World.setCell]] at this
  have T1 : Turns (fun i => i = p) w ((w.setCell ⟨p, 3, none⟩ (.int .i64 ((nx : Int) + 1))).alloc (.cells #[.int .i64 key, .int .i64 (nx : Int), .int .i64 a] 65)) := ((Turns.refl (fun i => i = p) w).set ⟨p, 3, none⟩ _ (fun _ => rfl)).alloc _
  have HB1 := (HM.out.blk.set 3 (.int .i64 ((nx : Int) + 1))).alloc (.cells #[.int .i64 key, .int .i64 (nx : Int), .int .i64 a] 65)
  have hown := Lib.hid (own_turns HM.out.row T1 HNV.out)
  have hnews := Lib.hid W0.news
  have hsz1 : w.heap.size ≤ ((w.setCell ⟨p, 3, none⟩ (.int .i64 ((nx : Int) + 1))).alloc (.cells #[.int .i64 key, .int .i64 (nx : Int), .int .i64 a] 65)).heap.size := T1.size
  have HT1 := Lib.hid T1
  have HSZ := Lib.hid hsz1
  have HBB := Lib.hid HB1
  have hlen := HH.out.len
  have hl1 : Hid (xs.length + 1 ≤ maxLen) := Lib.hid (by unfold maxLen; omega)
  have hl2 : Hid ((xs.length + 1) * 24 ≤ 140737488355328) := Lib.hid (by omega)
  have hlenI : (xs.length : Int) ≤ 1000000 := by omega
  clear W0 T1 HB1 hsz1 hlen
  go_enter Try.func16, Try.ntmps16
  go_wp2_with (at_builtin; refine wpList_append_own_at _ rfl _ _ 53 rfl 0 65 i0 _ 3 24 Try.underlying53 hi hz0 hz1 hz2 rfl (by decide) _ _ _ rfl hown.out ⟨w.heap.size, 0, none⟩ 1 1 [.int .i64 key, .int .i64 (nx : Int), .int .i64 a] rfl rfl hnews.out (by intro u hu; simp at hu; rcases hu with rfl | rfl | rfl <;> rfl) hl1.out hl2.out (Nat.zero_le _) ?_; intro v1 y1 hown1 hgr1 _ hat1; obtain ⟨A1, cc1, rfl⟩ := own_slice' hown1; have hb4 := Lib.hid (HBB.out.turns (.of_grown (S := fun i => (Value.slice A0 n0 c0).ownBlock = some i) hgr1 (fun r e => e)) (fun e => HNV.out _ e rfl)); have c1 := hb4.out.cell 1; have y1z := hb4.out.fz 1; simp only [List.set_cons_succ, List.set_cons_zero, List.getElem?_cons_succ, List.getElem?_cons_zero] at c1)
  have hb5 := hb4.out
  have hnv1 : ∀ g, (Value.slice A1 (xs.length + 1) cc1).ownBlock = some g → g ≠ p := fun g hg => own_ne_blk hown1 hg hb5 (by decide)
  have hb6 : Blk (y1.setCell ⟨p, 1, none⟩ (.slice A1 (xs.length + 1) cc1)) p 56 [.bool true, .slice A1 (xs.length + 1) cc1, .map (some M), .int .i64 ((nx + 1 : Nat) : Int)] := hb5.set 1 _
  have TS : Turns (fun i => i = p) y1 (y1.setCell ⟨p, 1, none⟩ (.slice A1 (xs.length + 1) cc1)) := (Turns.refl (fun i => i = p) y1).set ⟨p, 1, none⟩ _ (fun _ => rfl)
  have hrow := own_turns hown1 TS hnv1
  have hfl : (xs.flatMap thCI ++ [.int .i64 key, .int .i64 (nx : Int), .int .i64 a]) = (xs ++ [(⟨key, nx, (fun _ => .int .i64 a)⟩ : Th)]).flatMap thCI := by rw [List.flatMap_append]; simp [thCI]
  rw [hfl] at hrow
  obtain ⟨nm, hmm⟩ := HM.out.map
  have hMp : M ≠ p := hmm.ne_cells HM.out.blk
  have hMv : ∀ g, (Value.slice A0 n0 c0).ownBlock = some g → M ≠ g := fun g hg e => own_ne_map HM.out.row hg hmm e.symm
  have TG := Turns.of_grown (S := fun i => (Value.slice A0 n0 c0).ownBlock = some i) hgr1 (fun r e => e)
  have hmm2 := ((hmm.turns HT1.out hMp).turns TG (fun e => hMv _ e rfl)).turns TS hMp
  have hR : HRawI (y1.setCell ⟨p, 1, none⟩ (.slice A1 (xs.length + 1) cc1)) p (.slice A1 (xs.length + 1) cc1) M (xs ++ [⟨key, nx, (fun _ => .int .i64 a)⟩]) m (nx + 1) := by
    refine ⟨hb6, by simpa using hrow, ⟨nm, hmm2⟩, ?_, by simp; have := HH.out.len; omega⟩
    intro t ht
    rcases List.mem_append.1 ht with ht | ht
    · exact HM.out.one t ht
    · simp at ht
      subst ht
      intro u hu
      simp [thCI] at hu
      rcases hu with rfl | rfl | rfl <;> rfl
  have hnx2 : ∀ y ∈ xs, y.num ≠ nx := fun y hy => by have := HH.out.lt y hy; omega
  have hV := Vir.snoc HP.out HH.out.apart ⟨key, nx, (fun _ => .int .i64 a)⟩ hnx2
  have TY : Turns (HS p (.slice A0 n0 c0) M) w (y1.setCell ⟨p, 1, none⟩ (.slice A1 (xs.length + 1) cc1)) :=
    ((HT1.out.mono (T := HS p (.slice A0 n0 c0) M) (fun i _ e => .inl e)).trans TG (fun i _ e => .inr (.inr e))).trans TS (fun i _ e => .inl e)
  have hnext : Next w (.slice A0 n0 c0) (.slice A1 (xs.length + 1) cc1) := hat1.imp id (fun e => ⟨_, e, HSZ.out⟩)
  have HNX := Lib.hid hnext
  have HTY := Lib.hid TY
  have HV := Lib.hid hV
  have HRR := Lib.hid hR
  clear hb5 hnv1 hb6 TS hrow hfl hmm hmm2 TG hR hV TY hnext hnx2 hMv hown1 hgr1 hat1
  refine (riseI _ p _ M _ m (nx + 1) xs.length HRR.out HV.out (HH.out.heap.snoc _)).mono ?_
  rintro e w3 ⟨rfl, zs, m', hp1, hp2, hp3, hp4, hp5⟩
  go_wp2_with fail
  go_ret
  refine ⟨rfl, zs, _, hp1, ⟨⟨m', hp4, hp3⟩, hp2, HV.out.apart.perm hp1, ?_, by omega, ?_⟩, HNX.out, HTY.out.trans hp5 (fun i hi hs => HS.next HNX.out hi hs)⟩
  · intro t ht
    rcases List.mem_append.1 (hp1.mem_iff.1 ht) with ht | ht
    · have := HH.out.lt t ht; omega
    · simp at ht; subst ht; exact Nat.lt_succ_self _
  · have h1 := hp1.length_eq
    have h2 := HH.out.len
    rw [List.length_append, List.length_singleton] at h1
    omega
end Go.Proofs.Ytoihhckiacmfcaa
