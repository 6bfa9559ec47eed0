/- check: the law's 'renamed'. -/
import Derived.Test.YtmacmejpcpdnnaaCkCopy
import Derived.Test.YtmacmejpcpdnnaaCkRenP
import Derived.Test.YtmacmejpcpdnnaaBytes
namespace Go.Proofs.Ytmacmejpcpdnnaa
open Go.RowKit

theorem bytesV_append1 (l : List UInt8) (c : UInt8) : Cd.bytesV (l ++ [c]) = Cd.bytesV l ++ [.int .u8 (c.toNat : Int)] := by simp [Cd.bytesV, Cd.byteV]
set_option maxRecDepth 20000 in
set_option maxHeartbeats 3200000 in
theorem renamed_any (s : ByteArray) (hs : s.size ≤ 1000000000) (z : Int) (hz : 0 ≤ z ∧ z ≤ 255) (w : World) : Calls Try.prog 14 #[.string s, .int .u8 z] w fun e w' => e = .returned (.string (ren (z.toNat % 26) s)) ∧ Below w.heap.size w w' := by
  obtain ⟨i0, hi, hz0, hz1, hz2⟩ := info_parts info_u8
  obtain ⟨k, rfl⟩ : ∃ k : Nat, z = (k : Int) := ⟨z.toNat, by omega⟩
  have hk : k ≤ 255 := by omega
  have HKS : Hid ((((k : Nat) : Int)).toNat % 26 = k % 26) := Lib.hid (by simp)
  rw [HKS.out]
  clear hz
  go_enter Try.func14, Try.ntmps14
  go_wp2_with fail
  go_loopw [5, 6, 7] (fun bv iv _ wr => ∃ (i : Nat) (A : Option Addr) (c : Nat), bv = .slice A i c ∧ iv = .int .i64 (i : Int) ∧ i ≤ s.size ∧ Hid (Below w.heap.size w wr ∧ wr.ownsRow w.heap.size 5 1 (.slice A i c) i (Cd.bytesV ((s.toList.take i).map (rnB (k % 26)))))) (fun _ iv _ _ => s.size - (intOf iv).toNat)
  case atStart => exact ⟨0, none, 0, rfl, rfl, Nat.zero_le _, Lib.hid ⟨Below.refl _ _, World.ownsRow_nil _ _ _ _⟩⟩
  case round =>
    obtain ⟨i, A, c, rfl, rfl, hi9, HB⟩ := hrel
    by_cases hlt : i < s.size
    · have hlt' : (i : Int) < (s.size : Int) := by omega
      have hc8 := UInt8.toNat_lt s[i]
      have HTK : Hid (s.toList.take (i + 1) = s.toList.take i ++ [s[i]]) := Lib.hid (by
        have hl : i < s.toList.length := by rw [size_toList]; exact hlt
        rw [List.take_succ_eq_append_getElem hl]
        congr 2
        simp only [ByteArray.toList_eq]
        rfl)
      have hl1 : Hid (i + 1 ≤ maxLen) := Lib.hid (by unfold maxLen; omega)
      have hl2 : Hid ((i + 1) * 1 ≤ 140737488355328) := Lib.hid (by omega)
      by_cases hr : 97 ≤ s[i].toNat ∧ s[i].toNat ≤ 122
      · have r1 : (97 : Int) ≤ (s[i].toNat : Int) := by omega
        have r2 : (s[i].toNat : Int) ≤ 122 := by omega
        have HE : Hid (97 + ((s[i].toNat : Int) - 97 + (k : Int)) % 26 = ((rnB (k % 26) s[i]).toNat : Int)) := Lib.hid (by rw [rnB_nat]; unfold rnN; rw [if_pos hr]; omega)
        have HNW := Lib.hid (Blk.new wr 5 [.int .u8 (97 + ((s[i].toNat : Int) - 97 + (k : Int)) % 26)]).news
        have HRW := Lib.hid (HB.out.2.alloc (.cells #[.int .u8 (97 + ((s[i].toNat : Int) - 97 + (k : Int)) % 26)] 5))
        have HBS : Hid (w.heap.size ≤ (wr.alloc (.cells #[.int .u8 (97 + ((s[i].toNat : Int) - 97 + (k : Int)) % 26)] 5)).heap.size) := Lib.hid (by have := HB.out.1.size; simp; omega)
        clear hr
        go_wp2_with (at_builtin; refine wpList_append_own_at _ rfl _ _ 59 rfl w.heap.size 5 i0 _ 1 1 Try.underlying59 hi hz0 hz1 hz2 rfl (by decide) _ _ _ rfl HRW.out ⟨wr.heap.size, 0, none⟩ 1 1 [.int .u8 (97 + ((s[i].toNat : Int) - 97 + (k : Int)) % 26)] rfl rfl HNW.out (by intro u hu; simp at hu; subst hu; rfl) hl1.out hl2.out HBS.out ?_; intro v4 y4 hown4 hgr4 _ _; obtain ⟨A4, c4, rfl⟩ := own_slice' hown4; have HO4 := Lib.hid hown4; have HG4 := Lib.hid hgr4; clear hown4 hgr4)
        refine ⟨⟨i + 1, A4, c4, rfl, by go_num, by omega, Lib.hid ⟨(HB.out.1.alloc HB.out.1.size _).grown HG4.out HBS.out (fun r e => (row_lo HRW.out e).1), ?_⟩⟩, by simp [intOf]; omega⟩
        have h4 := HO4.out
        rw [HE.out, ← bytesV_append1] at h4
        rw [HTK.out, List.map_append]
        exact h4
      · by_cases hq : 97 ≤ s[i].toNat
        · have r1 : (97 : Int) ≤ (s[i].toNat : Int) := by omega
          have r2 : ¬ (s[i].toNat : Int) ≤ 122 := by omega
          have HE : Hid ((s[i].toNat : Int) = ((rnB (k % 26) s[i]).toNat : Int)) := Lib.hid (by rw [rnB_nat]; unfold rnN; rw [if_neg hr])
          have HNW := Lib.hid (Blk.new wr 5 [.int .u8 ((s[i].toNat : Int))]).news
          have HRW := Lib.hid (HB.out.2.alloc (.cells #[.int .u8 ((s[i].toNat : Int))] 5))
          have HBS : Hid (w.heap.size ≤ (wr.alloc (.cells #[.int .u8 ((s[i].toNat : Int))] 5)).heap.size) := Lib.hid (by have := HB.out.1.size; simp; omega)
          clear hr
          go_wp2_with (at_builtin; refine wpList_append_own_at _ rfl _ _ 59 rfl w.heap.size 5 i0 _ 1 1 Try.underlying59 hi hz0 hz1 hz2 rfl (by decide) _ _ _ rfl HRW.out ⟨wr.heap.size, 0, none⟩ 1 1 [.int .u8 ((s[i].toNat : Int))] rfl rfl HNW.out (by intro u hu; simp at hu; subst hu; rfl) hl1.out hl2.out HBS.out ?_; intro v4 y4 hown4 hgr4 _ _; obtain ⟨A4, c4, rfl⟩ := own_slice' hown4; have HO4 := Lib.hid hown4; have HG4 := Lib.hid hgr4; clear hown4 hgr4)
          refine ⟨⟨i + 1, A4, c4, rfl, by go_num, by omega, Lib.hid ⟨(HB.out.1.alloc HB.out.1.size _).grown HG4.out HBS.out (fun r e => (row_lo HRW.out e).1), ?_⟩⟩, by simp [intOf]; omega⟩
          have h4 := HO4.out
          rw [HE.out, ← bytesV_append1] at h4
          rw [HTK.out, List.map_append]
          exact h4
        · have r1 : ¬ (97 : Int) ≤ (s[i].toNat : Int) := by omega
          have HE : Hid ((s[i].toNat : Int) = ((rnB (k % 26) s[i]).toNat : Int)) := Lib.hid (by rw [rnB_nat]; unfold rnN; rw [if_neg hr])
          have HNW := Lib.hid (Blk.new wr 5 [.int .u8 ((s[i].toNat : Int))]).news
          have HRW := Lib.hid (HB.out.2.alloc (.cells #[.int .u8 ((s[i].toNat : Int))] 5))
          have HBS : Hid (w.heap.size ≤ (wr.alloc (.cells #[.int .u8 ((s[i].toNat : Int))] 5)).heap.size) := Lib.hid (by have := HB.out.1.size; simp; omega)
          clear hr
          go_wp2_with (at_builtin; refine wpList_append_own_at _ rfl _ _ 59 rfl w.heap.size 5 i0 _ 1 1 Try.underlying59 hi hz0 hz1 hz2 rfl (by decide) _ _ _ rfl HRW.out ⟨wr.heap.size, 0, none⟩ 1 1 [.int .u8 ((s[i].toNat : Int))] rfl rfl HNW.out (by intro u hu; simp at hu; subst hu; rfl) hl1.out hl2.out HBS.out ?_; intro v4 y4 hown4 hgr4 _ _; obtain ⟨A4, c4, rfl⟩ := own_slice' hown4; have HO4 := Lib.hid hown4; have HG4 := Lib.hid hgr4; clear hown4 hgr4)
          refine ⟨⟨i + 1, A4, c4, rfl, by go_num, by omega, Lib.hid ⟨(HB.out.1.alloc HB.out.1.size _).grown HG4.out HBS.out (fun r e => (row_lo HRW.out e).1), ?_⟩⟩, by simp [intOf]; omega⟩
          have h4 := HO4.out
          rw [HE.out, ← bytesV_append1] at h4
          rw [HTK.out, List.map_append]
          exact h4
    · obtain rfl : i = s.size := by omega
      have hlt' : ¬ (s.size : Int) < (s.size : Int) := by omega
      have hlen : ((s.toList.take s.size).map (rnB (k % 26))).length = s.size := by simp [size_toList]
      have kcv := run_conv_bs (P := Try.prog) (Bs.of_own HB.out.2 hlen.symm) 59 9 5 Try.underlying59 Try.underlying5 Try.underlying9 c
      unfold strV at kcv
      have hR : (⟨((s.toList.take s.size).map (rnB (k % 26))).toArray⟩ : ByteArray) = ren (k % 26) s := by
        unfold ren
        rw [List.take_of_length_le (by rw [size_toList]; exact Nat.le_refl _)]
      rw [hR] at kcv
      clear hlen hR
      go_wp2_with fail
      go_ret
      exact ⟨rfl, HB.out.1⟩
end Go.Proofs.Ytmacmejpcpdnnaa
