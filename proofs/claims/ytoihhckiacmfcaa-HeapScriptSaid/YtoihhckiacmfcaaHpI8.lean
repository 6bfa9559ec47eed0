/- heap: Remove, Change at int (written by gen_heap3.py). -/
import Derived.Test.YtoihhckiacmfcaaHpI7
namespace Go.Proofs.Ytoihhckiacmfcaa
open Go.RowKit

set_option maxRecDepth 20000 in
theorem remove0I (w : World) (p : Nat) (v : Value) (M : Nat) (xs : List Th) (nx : Nat) (h : HStI w p v M xs nx) (k : Int) (hk : ∀ t ∈ xs, (t.num : Int) ≠ k) : Calls Try.prog 10 #[.pointer (some ⟨p, 0, none⟩), .int .i64 k] w fun e w' => e = .returned (.tuple #[.int .i64 0, .bool false]) ∧ w' = w := by
  have hq := Lib.hid (find0I w p v M xs nx h k hk)
  clear h hk
  go_enter Try.func10, Try.ntmps10
  go_wp2_with (go_at_call 29; refine hq.out.mono ?_; rintro e w' ⟨rfl, rfl⟩)
  go_ret2
  exact ⟨rfl, rfl⟩
set_option maxRecDepth 20000 in
set_option maxHeartbeats 800000 in
theorem remove1I (w : World) (p : Nat) (v : Value) (M : Nat) (xs : List Th) (nx : Nat) (h : HStI w p v M xs nx) (k : Int) (j : Nat) (hj : j < xs.length) (hk : ((gT xs j).num : Int) = k) :
    Calls Try.prog 10 #[.pointer (some ⟨p, 0, none⟩), .int .i64 k] w fun e w' => e = .returned (.tuple #[(gT xs j).v 0, .bool true]) ∧ ∃ zs v', (gT xs j :: zs).Perm xs ∧ HStI w' p v' M zs nx ∧ v'.ownBlock = v.ownBlock ∧ Turns (HS p v M) w w' := by
  have hq := Lib.hid (find1I w p v M xs nx h k j hj hk)
  have hd := Lib.hid (dropI w p v M xs nx j h hj)
  obtain ⟨m, hm, hp⟩ := h.raw
  obtain ⟨g, cap, rfl, hvb, hg, hnc, hcm⟩ := own_at hm.row (by omega)
  obtain ⟨r0, r1, r0'⟩ := row_cellsI hm rfl hj rfl
  have b1 := hm.blk.cell 1
  simp only [List.getElem?_cons_succ, List.getElem?_cons_zero] at b1
  have hj' : (j : Int) < (xs.length : Int) := by omega
  have hfew : (xs.length : Int) ≤ 1000000 := by have := hm.few; omega
  clear h hm hp hk
  generalize gT xs j = x at *
  go_enter Try.func10, Try.ntmps10
  go_wp2_with (go_at_call 29; refine hq.out.mono ?_; rintro e w' ⟨rfl, rfl⟩)
  refine hd.out.mono ?_
  rintro e w2 ⟨rfl, zs, v', h1, h2, h3, h4⟩
  have H1 := Lib.hid h1
  have H2 := Lib.hid h2
  have H3 := Lib.hid h3
  have H4 := Lib.hid h4
  clear h1 h2 h3 h4
  go_wp2_with fail
  go_ret2
  exact ⟨rfl, zs, v', H1.out, H2.out, H3.out, H4.out⟩
set_option maxRecDepth 20000 in
theorem change0I (w : World) (p : Nat) (v : Value) (M : Nat) (xs : List Th) (nx : Nat) (h : HStI w p v M xs nx) (k key : Int) (hk : ∀ t ∈ xs, (t.num : Int) ≠ k) : Calls Try.prog 9 #[.pointer (some ⟨p, 0, none⟩), .int .i64 k, .int .i64 key] w fun e w' => e = .returned (.bool false) ∧ w' = w := by
  have hq := Lib.hid (find0I w p v M xs nx h k hk)
  clear h hk
  go_enter Try.func9, Try.ntmps9
  go_wp2_with (go_at_call 29; refine hq.out.mono ?_; rintro e w' ⟨rfl, rfl⟩)
  go_ret
  exact ⟨rfl, rfl⟩
set_option maxRecDepth 20000 in
set_option maxHeartbeats 1600000 in
theorem change1I (w : World) (p : Nat) (v : Value) (M : Nat) (xs : List Th) (nx : Nat) (h : HStI w p v M xs nx) (k key : Int) (j : Nat) (hj : j < xs.length) (hk : ((gT xs j).num : Int) = k) :
    Calls Try.prog 9 #[.pointer (some ⟨p, 0, none⟩), .int .i64 k, .int .i64 key] w fun e w' => e = .returned (.bool true) ∧ ∃ zs, zs.Perm (xs.set j ⟨key, (gT xs j).num, (gT xs j).v⟩) ∧ HStI w' p v M zs nx ∧ Turns (HS p v M) w w' := by
  have hq := Lib.hid (find1I w p v M xs nx h k j hj hk)
  obtain ⟨m, hm, hp⟩ := h.raw
  obtain ⟨g, cap, rfl, hvb, hg, hnc, hcm⟩ := own_at hm.row (by omega)
  have hox := hm.one_at hj
  obtain ⟨r0, r1, r0'⟩ := row_cellsI hm rfl hj rfl
  have z0 := hm.row.frozenAt (j * 3)
  have b1 := hm.blk.cell 1
  simp only [List.getElem?_cons_succ, List.getElem?_cons_zero] at b1
  have hj' : (j : Int) < (xs.length : Int) := by omega
  have hfew : (xs.length : Int) ≤ 1000000 := by have := hm.few; omega
  have HH := Lib.hid h
  have HM := Lib.hid hm
  have HP := Lib.hid hp
  have HK := Lib.hid hk
  have HOX := Lib.hid hox
  clear h hm hp hk hox
  go_enter Try.func9, Try.ntmps9
  go_wp2_with (go_at_call 29; refine hq.out.mono ?_; rintro e w' ⟨rfl, rfl⟩)
  have hgp := own_ne_blk HM.out.row hvb HM.out.blk (by decide)
  have hpg : p ≠ g := fun e => hgp e.symm
  obtain ⟨nm, hmm⟩ := HM.out.map
  have hMg : M ≠ g := fun e => own_ne_map HM.out.row hvb hmm e.symm
  have TX : Turns (fun i => i = g) w' (w'.setCell ⟨g, j * 3, none⟩ (.int .i64 key)) := (Turns.refl (fun i => i = g) w').set ⟨g, j * 3, none⟩ _ (fun _ => rfl)
  have hset : (xs.flatMap thCI).set (j * 3) (.int .i64 key) = (xs.set j ⟨key, (gT xs j).num, (gT xs j).v⟩).flatMap thCI := by
    obtain ⟨A, B, hA, h1, h2⟩ := flat_split thCI 3 thCI_len xs j hj
    rw [h1, h2, set_at0 hA, gT_of hj]
    rfl
  have hrow := (HM.out.row.stored (j * 3) (.int .i64 key)).1
  rw [hset] at hrow
  have hRX : HRawI (w'.setCell ⟨g, j * 3, none⟩ (.int .i64 key)) p (.slice (some ⟨g, 0, none⟩) xs.length cap) M (xs.set j ⟨key, (gT xs j).num, (gT xs j).v⟩) m nx := by
    refine ⟨HM.out.blk.turns TX hpg, by rw [List.length_set]; exact hrow, ⟨nm, hmm.turns TX hMg⟩, fun t ht => ?_, by rw [List.length_set]; exact HM.out.few⟩
    rcases List.mem_or_eq_of_mem_set ht with ht | rfl
    · exact HM.out.one t ht
    · intro u hu
      have h1 := HOX.out
      simp only [thCI, List.mem_cons, List.not_mem_nil, or_false] at hu h1
      rcases hu with rfl | hu
      · rfl
      · exact h1 u (.inr hu)
  have KX := Lib.hid hRX
  have KT := Lib.hid (TX.mono (T := HS p (.slice (some ⟨g, 0, none⟩) xs.length cap) M) (fun i _ e => .inr (.inr (by rw [e]; rfl))))
  have hnum : (gT (xs.set j ⟨key, (gT xs j).num, (gT xs j).v⟩) j) = ⟨key, (gT xs j).num, (gT xs j).v⟩ := by rw [gT_set hj, if_pos rfl]
  have HV := Lib.hid (Vir.start (HP.out.rekey hj ⟨key, (gT xs j).num, (gT xs j).v⟩ rfl) (HH.out.apart.rekey hj ⟨key, (gT xs j).num, (gT xs j).v⟩ rfl) (by rw [List.length_set]; exact hj))
  have HE := Lib.hid (EE.of_set HH.out.heap ⟨key, (gT xs j).num, (gT xs j).v⟩ hj)
  have HA := Lib.hid (HH.out.apart.rekey hj ⟨key, (gT xs j).num, (gT xs j).v⟩ rfl)
  have HN := Lib.hid hnum
  have HMem : Hid (∀ t ∈ xs.set j ⟨key, (gT xs j).num, (gT xs j).v⟩, t.num < nx) := Lib.hid fun t ht => by
    rcases List.mem_or_eq_of_mem_set ht with ht | rfl
    · exact HH.out.lt t ht
    · exact (show (gT xs j).num < nx from HH.out.lt (gT xs j) (mem_gT hj))
  have HLen : Hid ((xs.set j ⟨key, (gT xs j).num, (gT xs j).v⟩).length ≤ nx) := Lib.hid (by rw [List.length_set]; exact HH.out.len)
  clear TX hset hrow hRX hnum hmm b1 r0 r1 r0' z0
  have hnk : ((gT xs j).num : Int) = k := HK.out
  have HNK := Lib.hid hnk
  clear hnk HK
  generalize hz0 : xs.set j ⟨key, (gT xs j).num, (gT xs j).v⟩ = zs0 at *
  have HZ := Lib.hid hz0
  clear hz0
  generalize w'.setCell ⟨g, j * 3, none⟩ (.int .i64 key) = X at *
  refine (sinkI X p _ M zs0 m nx j KX.out HV.out HE.out).mono ?_
  rintro e w6 ⟨rfl, zs1, m3, i3, p1, e1, g1, l1, po1, h6, t6⟩
  rw [HN.out] at g1
  have K6 := Lib.hid h6
  have T6 := Lib.hid (KT.out.then t6)
  have HA6 := Lib.hid (HA.out.perm p1)
  have HV6 := Lib.hid (Vir.start po1 (HA.out.perm p1) l1)
  have HE6 := Lib.hid e1
  have HP6 := Lib.hid p1
  have hm3 : m3 k = some (.int .i64 (i3 : Int)) := by have := po1.is i3 l1; rw [g1, HNK.out] at this; exact this
  obtain ⟨n6, hm6⟩ := h6.map
  have hlk : (Instr.lookup 54 (.map (some M)) (.int .i64 k) false).run Try.prog w6 = .ok (.int .i64 (i3 : Int)) w6 := by
    have := MapIs.lookup (t := 54) (e := 3) hm6 (int_keys Try.underlying3) Try.underlying54 (zeroIntE _) k false
    rw [hm3] at this
    exact this
  have b2 := h6.blk.cell 2
  simp only [List.getElem?_cons_succ, List.getElem?_cons_zero] at b2
  clear h6 t6 p1 e1 g1 l1 po1 hm3 hm6
  go_wp2_with fail
  refine (riseI w6 p _ M zs1 m3 nx i3 K6.out HV6.out HE6.out).mono ?_
  rintro e w7 ⟨rfl, zs2, m4, p2, hh2, po2, h7, t7⟩
  have P2 := Lib.hid (p2.trans HP6.out)
  have Q2 := Lib.hid p2
  have A2 := Lib.hid hh2
  have O2 := Lib.hid po2
  have R2 := Lib.hid h7
  have T7 := Lib.hid (T6.out.then t7)
  clear p2 hh2 po2 h7 t7
  go_wp2_with fail
  go_ret
  exact ⟨rfl, zs2, by rw [HZ.out]; exact P2.out, ⟨⟨m4, R2.out, O2.out⟩, A2.out, HA6.out.perm Q2.out, fun t ht => HMem.out t (P2.out.mem_iff.1 ht), HH.out.few, by rw [P2.out.length_eq]; exact HLen.out⟩, T7.out⟩
end Go.Proofs.Ytoihhckiacmfcaa
