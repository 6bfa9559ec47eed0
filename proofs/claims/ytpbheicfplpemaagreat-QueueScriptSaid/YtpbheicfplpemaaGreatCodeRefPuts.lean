/- The document's writers of numbers and of text (prompterref05). -/
import Derived.Test.YtpbheicfplpemaaGreatCodePuts
namespace Go.Proofs.YtpbheicfplpemaaGreat
open Go.RowKit

theorem AU.step' {w wr w1 : World} {base : Nat} {v0 v v1 : Value} {n0 : Nat} {xs : List Value} {m m' : Nat} {pre : List UInt8} {c : Int} (hc : c = ((m' % 128 + 128 : Nat) : Int)) (hm : ¬ m' < 128)
    (hu : Cd.uB m = pre ++ Cd.uB m') (hg : w.grownBy wr v0.ownBlock) (hat : v.ownBlock = v0.ownBlock ∨ ∃ g, v.ownBlock = some g ∧ w.heap.size ≤ g)
    (hown : w1.ownsRow base 5 1 v1 (n0 + pre.length + 1) ((xs ++ Cd.bytesV pre) ++ [Value.int .u8 c])) (o : Obj) (hg1 : (wr.alloc o).grownBy w1 v.ownBlock)
    (hat1 : v1.ownBlock = v.ownBlock ∨ v1.ownBlock = some (wr.alloc o).heap.size) : AU w w1 base v0 n0 xs m v1 (n0 + pre.length + 1) (m' / 128) := by
  refine AU.step hm hu hg hat ?_ o hg1 hat1
  rw [Tryz.or128, ← hc]
  exact hown
set_option maxRecDepth 20000 in
set_option maxHeartbeats 800000 in
theorem refPutUint_any (w : World) (m : Nat) (hm : m < 18446744073709551616) :
    Calls Tryz.prog 79 #[.int .u64 m] w (Made w (Cd.uB m)) := by
  obtain ⟨i0, hi, hz0, hz1, hz2⟩ := info_parts info_u8
  have hlen := Cd.uB_len10 hm
  have HM := Lib.hid hm
  clear hm
  go_enter Tryz.func79, Tryz.ntmps79
  go_wp2_with fail
  go_loopw [0, 3] (fun q b wr => ∃ (k m' : Nat), q = .int .u64 m' ∧ Hid (m' < 18446744073709551616) ∧ AU w wr w.heap.size (.slice none 0 0) 0 [] m b k m') (fun q _ _ => (intOf q).toNat)
  case atStart => exact ⟨0, m, rfl, HM, [], by simp, by simp, by simpa [Cd.bytesV] using World.ownsRow_nil _ _ _ _, World.grownBy.refl _ _, .inl rfl⟩
  case round =>
    obtain ⟨k, m', rfl, hm', pre, rfl, hu, ho, hg, hat⟩ := hrel
    have HU := Lib.hid hu
    have HA := Lib.hid hat
    have HL := Lib.hid (cap_of hlen hu)
    clear hu hat hlen
    have B1 : Hid (0 + pre.length + 1 ≤ maxLen) := by have := HL.out; unfold Hid maxLen; omega
    have B2 : Hid ((0 + pre.length + 1) * 1 ≤ 140737488355328) := by have := HL.out; unfold Hid; omega
    have B3 : Hid (∀ o : Obj, w.heap.size ≤ (wr.alloc o).heap.size) := by have := hg.size; unfold Hid; simp; omega
    by_cases hlt : (m' : Int) ≤ 127
    · have hq : decide ((128 : Int) ≤ (m' : Int)) = false := decide_eq_false (by omega)
      have hb8 : (m' : Int) % 256 = (m' : Int) := by omega
      go_wp2_with (at_builtin; refine wpList_append_own_at _ rfl _ _ 22 rfl w.heap.size 5 i0 (.int .u8 0) 1 1 Tryz.underlying22 hi hz0 hz1 hz2 rfl (by decide) _ _ _ rfl (ho.alloc _) ⟨wr.heap.size, 0, none⟩ 1 1 [.int .u8 (m' : Int)] rfl rfl (cell_one_new _ _ _) (by simp [Value.oneCell']) B1.out B2.out (B3.out _) ?_; intro v1 w1 hown1 hg1 _ hat1)
      go_ret
      obtain ⟨v', e', h2, h3, _⟩ := AU.last (by omega) HU.out hg HA.out hown1 _ hg1 hat1
      exact ⟨v', e', by simpa using h2, below_grown (World.ownsRow_nil w w.heap.size 5 1) (Nat.le_refl _) h3⟩
    · have hq : decide ((128 : Int) ≤ (m' : Int)) = true := decide_eq_true (by omega)
      have HLt : Hid (¬ m' < 128) := Lib.hid (by omega)
      have hwq : IntKind.u64.wrap ((m' : Int) / 128) = ((m' / 128 : Nat) : Int) := by have := hm'.out; rw [IntKind.wrap_u64]; omega
      clear hlt
      go_wp2_with (at_builtin; refine wpList_append_own_at _ rfl _ _ 22 rfl w.heap.size 5 i0 (.int .u8 0) 1 1 Tryz.underlying22 hi hz0 hz1 hz2 rfl (by decide) _ _ _ rfl (ho.alloc _) ⟨wr.heap.size, 0, none⟩ 1 1 [.int .u8 ((m' : Int) % 128 + 128)] rfl rfl (cell_one_new _ _ _) (by simp [Value.oneCell']) B1.out B2.out (B3.out _) ?_; intro v1 w1 hown1 hg1 _ hat1)
      go_roundw
      case rel => exact ⟨_, m' / 128, by go_num, (by have := hm'.out; unfold Hid; omega), AU.step' (by omega) HLt.out HU.out hg HA.out hown1 _ hg1 hat1⟩
      case measure => have := HLt.out; simp [intOf]; omega
set_option maxRecDepth 20000 in
set_option maxHeartbeats 800000 in
theorem refPutInt_any (w : World) (i : Int) (h1 : -9223372036854775808 ≤ i) (h2 : i ≤ 9223372036854775807) :
    Calls Tryz.prog 80 #[.int .i64 i] w (Made w (Cd.uB (Cd.zig i))) := by
  have H := Lib.hid (zig_lt i h1 h2)
  have HZ := Lib.hid (refPutUint_any w (Cd.zig i) H.out)
  by_cases h0 : 0 ≤ i
  · have hd : decide ((0 : Int) ≤ i) = true := decide_eq_true h0
    obtain ⟨n, rfl⟩ : ∃ n : Nat, i = (n : Int) := ⟨i.toNat, by omega⟩
    have hz : Cd.zig (n : Int) = 2 * n := by unfold Cd.zig; rw [if_pos (by omega)]; omega
    rw [hz] at HZ
    go_enter Tryz.func80, Tryz.ntmps80
    have hw1 : IntKind.u64.wrap (n : Int) = (n : Int) := by rw [IntKind.wrap_u64]; omega
    have hw2 : IntKind.u64.wrap (2 * (n : Int)) = ((2 * n : Nat) : Int) := by rw [IntKind.wrap_u64]; omega
    go_wp2_with (go_at_call 79; refine HZ.out.mono ?_; rintro e w1 ⟨v1, rfl, ho1, hb1⟩)
    go_ret
    rw [hz]
    exact ⟨v1, rfl, ho1, hb1⟩
  · have hd : decide ((0 : Int) ≤ i) = false := decide_eq_false h0
    obtain ⟨n, hn⟩ : ∃ n : Nat, (n : Int) = -(i + 1) := ⟨(-(i + 1)).toNat, by omega⟩
    have hz : Cd.zig i = 2 * n + 1 := by unfold Cd.zig; rw [if_neg h0]; omega
    have hw0 : IntKind.i64.wrap (i + 1) = i + 1 := wrap_i64' _ (by omega) (by omega)
    have hw1 : IntKind.i64.wrap (-(i + 1)) = (n : Int) := by rw [hn]; exact wrap_i64' _ (by omega) (by omega)
    have hw2 : IntKind.u64.wrap (n : Int) = (n : Int) := by rw [IntKind.wrap_u64]; omega
    have hw3 : IntKind.u64.wrap (2 * (n : Int)) = 2 * (n : Int) := by rw [IntKind.wrap_u64]; omega
    have hw4 : IntKind.u64.wrap (2 * (n : Int) + 1) = ((2 * n + 1 : Nat) : Int) := by rw [IntKind.wrap_u64]; omega
    rw [hz] at HZ
    have hv : ((2 * n + 1 : Nat) : Int) = 2 * -(i + 1) + 1 := by omega
    rw [hv] at HZ
    have HZz := Lib.hid hz
    clear hz hv hn hw1 hw2 hw3 hw4
    go_enter Tryz.func80, Tryz.ntmps80
    go_wp2_with (go_at_call 79; refine HZ.out.mono ?_; rintro e w1 ⟨v1, rfl, ho1, hb1⟩)
    go_ret
    rw [HZz.out]
    exact ⟨v1, rfl, ho1, hb1⟩
set_option maxRecDepth 20000 in
set_option maxHeartbeats 800000 in
theorem refPutText_any (w : World) (s : ByteArray) (hs : s.size + 10 ≤ 140737488355328) :
    Calls Tryz.prog 81 #[.string s] w (Made w (Cd.textB s.data.toList)) := by
  obtain ⟨i0, hi, hz0, hz1, hz2⟩ := info_parts info_u8
  have hl : (Cd.uB s.size).length ≤ 10 := Cd.uB_len10 (by omega)
  have HZ := Lib.hid (refPutUint_any w s.size (by omega))
  have B2 := Lib.hid (show (Cd.uB s.size).length + s.size ≤ maxLen by unfold maxLen; omega)
  have B3 := Lib.hid (show (Cd.uB s.size).length + s.size ≤ 140737488355328 by omega)
  have hw2 : IntKind.u64.wrap (s.size : Int) = (s.size : Int) := by rw [IntKind.wrap_u64]; omega
  clear hs hl
  go_enter Tryz.func81, Tryz.ntmps81
  go_wp2_with (first | (go_at_call 79; refine HZ.out.mono ?_; rintro e w1 ⟨v1, rfl, h1, hb1⟩) | (at_builtin; refine Lib.wpList_append_own_string _ rfl _ _ 22 9 rfl w.heap.size 5 i0 Tryz.underlying22 Tryz.underlying9 hi hz0 hz1 hz2 _ _ _ rfl h1 s rfl B2.out B3.out hb1.size ?_; intro v2 w2 h2 hg2 _))
  go_ret
  refine ⟨v2, rfl, ?_, hb1.trans (below_grown h1 hb1.size hg2)⟩
  have e1 : (Cd.textB s.data.toList).length = (Cd.uB s.size).length + s.size := by simp [Cd.textB]
  have e2 : Cd.bytesV (Cd.textB s.data.toList) = Cd.bytesV (Cd.uB s.size) ++ Lib.strCells s := by
    rw [strCells_bytes, ← Cd.bytesV_append]; rfl
  rw [e1, e2]; exact h2
end Go.Proofs.YtpbheicfplpemaaGreat
