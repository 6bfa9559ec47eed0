/- The writing functions of package code: what they append. -/
import Derived.Test.YteihedfmmiihiaaGreatRows
import Derived.Test.YteihedfmmiihiaaGreatCodeSpec
import Derived.Test.YteihedfmmiihiaaGreatCodeBits
import Derived.Test.YteihedfmmiihiaaGreatBytes
import Derived.WalkKit
import Derived.Maps.AppendAt
import Derived.Lib.Hide
import Derived.Lib.AppendStr
namespace Go.Proofs.YteihedfmmiihiaaGreat
open Go.RowKit

theorem or128 : ∀ a, a < 256 → a ||| 128 = a % 128 + 128 := by decide +kernel
theorem Tryz.or128 (n : Nat) : bits .or .u8 ((n : Int) % 256) 128 = ((n % 128 + 128 : Nat) : Int) := by
  have h := u8_or_nat (n % 256) 128 (by omega) (by omega)
  rw [Go.Proofs.YteihedfmmiihiaaGreat.or128 _ (by omega)] at h
  have e : ((n % 256 : Nat) : Int) = (n : Int) % 256 := by omega
  rw [← e]
  rw [show (128 : Int) = ((128 : Nat) : Int) from rfl, h]
  congr 1; omega
theorem u8lit (n : Nat) (h : n < 256) : ((UInt8.ofNat n).toNat : Int) = (n : Int) := by
  rw [UInt8.toNat_ofNat']; omega
theorem ret_eq {a b : Value} (h : a = b) : Ending.returned a = .returned b := by rw [h]

/-- behind an append of a row of bytes of the call's own -/
def Apd (w : World) (base : Nat) (v : Value) (n : Nat) (xs : List Value) (l : List UInt8) (e : Ending) (w' : World) : Prop :=
  ∃ v', e = .returned v' ∧ w'.ownsRow base 5 1 v' (n + l.length) (xs ++ Cd.bytesV l) ∧ w.grownBy w' v.ownBlock ∧
    (v'.ownBlock = v.ownBlock ∨ ∃ g, v'.ownBlock = some g ∧ w.heap.size ≤ g)


def AU (w wr : World) (base : Nat) (v0 : Value) (n0 : Nat) (xs : List Value) (m : Nat) (v : Value) (k : Nat) (m' : Nat) : Prop :=
  ∃ pre, k = n0 + pre.length ∧ Cd.uB m = pre ++ Cd.uB m' ∧ wr.ownsRow base 5 1 v k (xs ++ Cd.bytesV pre) ∧ w.grownBy wr v0.ownBlock ∧
    (v.ownBlock = v0.ownBlock ∨ ∃ g, v.ownBlock = some g ∧ w.heap.size ≤ g)


theorem cap_of {m m' : Nat} {pre : List UInt8} (h : (Cd.uB m).length ≤ 10) (hu : Cd.uB m = pre ++ Cd.uB m') : pre.length + 1 ≤ 10 := by
  rw [hu, List.length_append] at h; have := Cd.uB_pos m'; omega
theorem own_grown {w wr w1 : World} {v0 v : Value} {o : Obj} (hg : w.grownBy wr v0.ownBlock) (hg1 : (wr.alloc o).grownBy w1 v.ownBlock)
    (hat : v.ownBlock = v0.ownBlock ∨ ∃ g, v.ownBlock = some g ∧ w.heap.size ≤ g) : w.grownBy w1 v0.ownBlock := by
  have h1 := World.grownBy_alloc wr o v0.ownBlock
  have hs := hg1.size
  simp only [World.size_alloc] at hs
  refine ⟨hg1.os.trans hg.os, hg1.tape.trans hg.tape, hg1.output.trans hg.output, by have := hg.size; omega, fun k hk hne => ?_⟩
  have h2 := hg.block k hk hne
  have h3 := h1.block k (by have := hg.size; omega) hne
  have h4 := hg1.block k (by have := hg.size; simp; omega) (fun e => by
    rcases hat with h | ⟨g, h, hlt⟩
    · exact hne (e.trans h)
    · rw [h] at e; injection e with e; omega)
  exact h4.trans (h3.trans h2)
theorem own_at_grown {w wr : World} {v0 v v1 : Value} {o : Obj} (hg : w.grownBy wr v0.ownBlock)
    (hat : v.ownBlock = v0.ownBlock ∨ ∃ g, v.ownBlock = some g ∧ w.heap.size ≤ g) (hat1 : v1.ownBlock = v.ownBlock ∨ v1.ownBlock = some (wr.alloc o).heap.size) :
    v1.ownBlock = v0.ownBlock ∨ ∃ g, v1.ownBlock = some g ∧ w.heap.size ≤ g := by
  rcases hat1 with h | h
  · rw [h]; exact hat
  · exact .inr ⟨_, h, by have := hg.size; simp; omega⟩
theorem AU.step {w wr w1 : World} {base : Nat} {v0 v v1 : Value} {n0 : Nat} {xs : List Value} {m m' : Nat} {pre : List UInt8} (hm : ¬ m' < 128)
    (hu : Cd.uB m = pre ++ Cd.uB m') (hg : w.grownBy wr v0.ownBlock) (hat : v.ownBlock = v0.ownBlock ∨ ∃ g, v.ownBlock = some g ∧ w.heap.size ≤ g)
    (hown : w1.ownsRow base 5 1 v1 (n0 + pre.length + 1) ((xs ++ Cd.bytesV pre) ++ [Value.int .u8 (bits .or .u8 ((m' : Int) % 256) 128)])) (o : Obj) (hg1 : (wr.alloc o).grownBy w1 v.ownBlock)
    (hat1 : v1.ownBlock = v.ownBlock ∨ v1.ownBlock = some (wr.alloc o).heap.size) : AU w w1 base v0 n0 xs m v1 (n0 + pre.length + 1) (m' / 128) := by
  rw [Tryz.or128] at hown
  refine ⟨pre ++ [UInt8.ofNat (m' % 128 + 128)], by simp; omega, ?_, ?_, ?_, ?_⟩
  · rw [hu, Cd.uB_ge hm]; simp
  · have e : xs ++ Cd.bytesV (pre ++ [UInt8.ofNat (m' % 128 + 128)]) = (xs ++ Cd.bytesV pre) ++ [Value.int .u8 ((m' % 128 + 128 : Nat) : Int)] := by
      rw [Cd.bytesV_append, List.append_assoc]
      congr 2
      simp only [Cd.bytesV, List.map_cons, List.map_nil, Cd.byteV]
      rw [u8lit _ (by omega)]
    rw [e]; exact hown
  · exact own_grown hg hg1 hat
  · exact own_at_grown hg hat hat1

theorem AU.last {w wr w1 : World} {base : Nat} {v0 v v1 : Value} {n0 : Nat} {xs : List Value} {m m' : Nat} {pre : List UInt8} (hm : m' < 128)
    (hu : Cd.uB m = pre ++ Cd.uB m') (hg : w.grownBy wr v0.ownBlock) (hat : v.ownBlock = v0.ownBlock ∨ ∃ g, v.ownBlock = some g ∧ w.heap.size ≤ g)
    (hown : w1.ownsRow base 5 1 v1 (n0 + pre.length + 1) ((xs ++ Cd.bytesV pre) ++ [Value.int .u8 ((m' : Nat) : Int)])) (o : Obj) (hg1 : (wr.alloc o).grownBy w1 v.ownBlock)
    (hat1 : v1.ownBlock = v.ownBlock ∨ v1.ownBlock = some (wr.alloc o).heap.size) : Apd w base v0 n0 xs (Cd.uB m) (.returned v1) w1 := by
  refine ⟨v1, rfl, ?_, own_grown hg hg1 hat, own_at_grown hg hat hat1⟩
  rw [hu, Cd.uB_lt hm]
  have e : xs ++ Cd.bytesV (pre ++ [UInt8.ofNat m']) = (xs ++ Cd.bytesV pre) ++ [Value.int .u8 ((m' : Nat) : Int)] := by
    rw [Cd.bytesV_append, List.append_assoc]
    congr 2
    simp only [Cd.bytesV, List.map_cons, List.map_nil, Cd.byteV]
    rw [u8lit _ (by omega)]
  rw [e]; simpa [Nat.add_assoc] using hown

set_option maxRecDepth 20000 in
set_option maxHeartbeats 800000 in
theorem appendUint_any (w : World) (base : Nat) (v : Value) (n : Nat) (xs : List Value) (m : Nat) (hm : m < 18446744073709551616) (hown : w.ownsRow base 5 1 v n xs)
    (hb : base ≤ w.heap.size) (hn : n + 10 ≤ 140737488355328) :
    Calls Tryz.prog 75 #[v, .int .u64 m] w (Apd w base v n xs (Cd.uB m)) := by
  obtain ⟨i0, hi, hz0, hz1, hz2⟩ := info_parts info_u8
  have hlen := Cd.uB_len10 hm
  have HM := Lib.hid hm
  clear hm
  have HN := Lib.hid hn
  clear hn
  go_enter Tryz.func75, Tryz.ntmps75
  go_wp2_with fail
  go_loopw [0, 1] (fun b q wr => ∃ (k m' : Nat), q = .int .u64 m' ∧ Hid (m' < 18446744073709551616) ∧ AU w wr base v n xs m b k m') (fun _ q _ => (intOf q).toNat)
  case atStart => exact ⟨n, m, rfl, HM, [], by simp, by simp, by simpa [Cd.bytesV] using hown, World.grownBy.refl _ _, .inl rfl⟩
  case round =>
    obtain ⟨k, m', rfl, hm', pre, rfl, hu, ho, hg, hat⟩ := hrel
    have HU := Lib.hid hu
    have HA := Lib.hid hat
    have HL := Lib.hid (cap_of hlen hu)
    clear hu hat hlen
    have B1 : Hid (n + pre.length + 1 ≤ maxLen) := by have := HL.out; have := HN.out; unfold Hid maxLen; omega
    have B2 : Hid ((n + pre.length + 1) * 1 ≤ 140737488355328) := by have := HL.out; have := HN.out; unfold Hid; omega
    have B3 : Hid (∀ o : Obj, base ≤ (wr.alloc o).heap.size) := by have := hg.size; unfold Hid; simp; omega
    by_cases hlt : (m' : Int) ≤ 127
    · go_wp2_with (at_builtin; refine wpList_append_own_at _ rfl _ _ 30 rfl base 5 i0 (.int .u8 0) 1 1 Tryz.underlying30 hi hz0 hz1 hz2 rfl (by decide) _ _ _ rfl (ho.alloc _) ⟨wr.heap.size, 0, none⟩ 1 1 [.int .u8 (m' : Int)] rfl rfl (cell_one_new _ _ _) (by simp [Value.oneCell']) B1.out B2.out (B3.out _) ?_; intro v1 w1 hown1 hg1 _ hat1)
      go_ret
      exact AU.last (by omega) HU.out hg HA.out hown1 _ hg1 hat1
    · have hlt' : 127 < (m' : Int) := by omega
      clear hlt
      go_wp2_with (at_builtin; refine wpList_append_own_at _ rfl _ _ 30 rfl base 5 i0 (.int .u8 0) 1 1 Tryz.underlying30 hi hz0 hz1 hz2 rfl (by decide) _ _ _ rfl (ho.alloc _) ⟨wr.heap.size, 0, none⟩ 1 1 [.int .u8 (bits .or .u8 ((m' : Int) % 256) 128)] rfl rfl (cell_one_new _ _ _) (by simp [Value.oneCell']) B1.out B2.out (B3.out _) ?_; intro v1 w1 hown1 hg1 _ hat1)
      go_roundw
      case rel => exact ⟨_, m' / 128, by go_num, (by have := hm'.out; unfold Hid; omega), AU.step (by omega) HU.out hg HA.out hown1 _ hg1 hat1⟩
      case measure => simp [intOf]; omega

set_option maxRecDepth 20000 in
set_option maxHeartbeats 800000 in
theorem zig_any (w : World) (i : Int) (h1 : -9223372036854775808 ≤ i) (h2 : i ≤ 9223372036854775807) :
    Calls Tryz.prog 76 #[.int .i64 i] w fun e w' => e = .returned (.int .u64 (Cd.zig i)) ∧ w = w' := by
  have H := Lib.hid (zig_bits i h1 h2)
  clear h1 h2
  go_enter Tryz.func76, Tryz.ntmps76
  go_wp2_with fail
  go_ret
  exact ⟨congrArg (fun x => Ending.returned (.int .u64 x)) H.out, rfl⟩


/-- behind an append of a row of bytes of the call's own; below block 'base' nothing has turned -/
def ApdB (w : World) (base : Nat) (n : Nat) (xs : List Value) (l : List UInt8) (e : Ending) (w' : World) : Prop :=
  ∃ v', e = .returned v' ∧ w'.ownsRow base 5 1 v' (n + l.length) (xs ++ Cd.bytesV l) ∧ Below base w w'

theorem below_grown {w w' : World} {base : Nat} {v : Value} {e : TypeId} {size n : Nat} {xs : List Value} (hown : w.ownsRow base e size v n xs) (hb : base ≤ w.heap.size) (hg : w.grownBy w' v.ownBlock) : Below base w w' :=
  (Below.refl base w).grown hg hb (fun k hk => (hown.lt k hk).1)

theorem appendUint_b (w : World) (base : Nat) (v : Value) (n : Nat) (xs : List Value) (m : Nat) (hm : m < 18446744073709551616) (hown : w.ownsRow base 5 1 v n xs)
    (hb : base ≤ w.heap.size) (hn : n + 10 ≤ 140737488355328) :
    Calls Tryz.prog 75 #[v, .int .u64 m] w (ApdB w base n xs (Cd.uB m)) :=
  (appendUint_any w base v n xs m hm hown hb hn).mono fun _ _ ⟨v', h1, h2, h3, _⟩ => ⟨v', h1, h2, below_grown hown hb h3⟩

/-- what a function that makes bytes of its own hands back -/
def Made (w : World) (l : List UInt8) (e : Ending) (w' : World) : Prop :=
  ∃ v', e = .returned v' ∧ w'.ownsRow w.heap.size 5 1 v' l.length (Cd.bytesV l) ∧ Below w.heap.size w w'
theorem made_of {w w' : World} {l : List UInt8} {e : Ending} (h : ApdB w w.heap.size 0 [] l e w') : Made w l e w' := by
  obtain ⟨v', h1, h2, h3⟩ := h
  exact ⟨v', h1, by simpa using h2, h3⟩

theorem putUint_any (w : World) (m : Nat) (hm : m < 18446744073709551616) :
    Calls Tryz.prog 53 #[.int .u64 m] w (Made w (Cd.uB m)) := by
  have HM := Lib.hid hm
  clear hm
  go_enter Tryz.func53, Tryz.ntmps53
  go_wp2_with fail
  refine (appendUint_b _ w.heap.size _ 0 [] m HM.out (World.ownsRow_nil _ _ _ _) (Nat.le_refl _) (by omega)).mono ?_
  rintro e w' h
  obtain ⟨v', rfl, h2, h3⟩ := made_of h
  go_wp2_with fail
  go_ret
  exact ⟨v', rfl, h2, h3⟩

theorem zig_lt (i : Int) (h1 : -9223372036854775808 ≤ i) (h2 : i ≤ 9223372036854775807) : Cd.zig i < 18446744073709551616 := by
  unfold Cd.zig; split <;> omega

theorem putInt_any (w : World) (i : Int) (h1 : -9223372036854775808 ≤ i) (h2 : i ≤ 9223372036854775807) :
    Calls Tryz.prog 54 #[.int .i64 i] w (Made w (Cd.uB (Cd.zig i))) := by
  have H := Lib.hid (zig_lt i h1 h2)
  have HZ := fun w => zig_any w i h1 h2
  have HZ' := Lib.hid HZ
  clear h1 h2 HZ
  go_enter Tryz.func54, Tryz.ntmps54
  go_wp2_with fail
  refine (HZ'.out _).mono ?_
  rintro e w' ⟨rfl, rfl⟩
  go_wp2_with fail
  refine (appendUint_b _ w.heap.size _ 0 [] _ H.out (World.ownsRow_nil _ _ _ _) (Nat.le_refl _) (by omega)).mono ?_
  rintro e w' h
  obtain ⟨v', rfl, h2, h3⟩ := made_of h
  go_wp2_with fail
  go_ret
  exact ⟨v', rfl, h2, h3⟩

theorem strCells_bytes (s : ByteArray) : Lib.strCells s = Cd.bytesV s.data.toList := rfl

set_option maxRecDepth 20000 in
set_option maxHeartbeats 800000 in
theorem appendText_any (w : World) (base : Nat) (v : Value) (n : Nat) (xs : List Value) (s : ByteArray) (hs : n + s.size + 10 ≤ 140737488355328) (hown : w.ownsRow base 5 1 v n xs)
    (hb : base ≤ w.heap.size) :
    Calls Tryz.prog 77 #[v, .string s] w (ApdB w base n xs (Cd.textB s.data.toList)) := by
  obtain ⟨i0, hi, hz0, hz1, hz2⟩ := info_parts info_u8
  have hconv : IntKind.u64.wrap (s.size : Int) = (s.size : Int) := by rw [wrap_u64']; omega
  have hl : (Cd.uB s.size).length ≤ 10 := Cd.uB_len10 (by omega)
  have B0 := Lib.hid (show s.size < 18446744073709551616 by omega)
  have B1 := Lib.hid (show n + 10 ≤ 140737488355328 by omega)
  have B2 := Lib.hid (show n + (Cd.uB s.size).length + s.size ≤ maxLen by unfold maxLen; omega)
  have B3 := Lib.hid (show n + (Cd.uB s.size).length + s.size ≤ 140737488355328 by omega)
  clear hs hl
  go_enter Tryz.func77, Tryz.ntmps77
  go_wp2_with fail
  refine (appendUint_b _ base _ n xs s.size B0.out hown hb B1.out).mono ?_
  rintro e w1 ⟨v1, rfl, h1, hb1⟩
  go_wp2_with (at_builtin; refine Lib.wpList_append_own_string _ rfl _ _ 30 9 rfl base 5 i0 Tryz.underlying30 Tryz.underlying9 hi hz0 hz1 hz2 _ _ _ rfl h1 s rfl B2.out B3.out (Nat.le_trans hb hb1.size) ?_; intro v2 w2 h2 hg2 _)
  go_ret
  refine ⟨v2, rfl, ?_, hb1.trans (below_grown h1 (Nat.le_trans hb hb1.size) hg2)⟩
  have e1 : n + (Cd.textB s.data.toList).length = n + (Cd.uB s.size).length + s.size := by simp [Cd.textB]; rw [Nat.add_assoc]
  have e2 : xs ++ Cd.bytesV (Cd.textB s.data.toList) = xs ++ Cd.bytesV (Cd.uB s.size) ++ Lib.strCells s := by
    rw [strCells_bytes, List.append_assoc, ← Cd.bytesV_append]; rfl
  rw [e1, e2]; exact h2

theorem putText_any (w : World) (s : ByteArray) (hs : s.size + 10 ≤ 140737488355328) :
    Calls Tryz.prog 55 #[.string s] w (Made w (Cd.textB s.data.toList)) := by
  have HM := Lib.hid (show 0 + s.size + 10 ≤ 140737488355328 by omega)
  clear hs
  go_enter Tryz.func55, Tryz.ntmps55
  go_wp2_with fail
  refine (appendText_any _ w.heap.size _ 0 [] s HM.out (World.ownsRow_nil _ _ _ _) (Nat.le_refl _)).mono ?_
  rintro e w' h
  obtain ⟨v', rfl, h2, h3⟩ := made_of h
  go_wp2_with fail
  go_ret
  exact ⟨v', rfl, h2, h3⟩
end Go.Proofs.YteihedfmmiihiaaGreat
