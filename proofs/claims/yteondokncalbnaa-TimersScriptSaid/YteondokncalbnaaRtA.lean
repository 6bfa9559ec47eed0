/- The document's writers, its table of timers in memory (texts put together). -/
import Derived.Test.YteondokncalbnaaCodePuts
import Derived.Test.YteondokncalbnaaCodeIn
import Derived.OpenShut
import Derived.Test.YteondokncalbnaaTlDrX
import Derived.DataElems
namespace Go.Proofs.Yteondokncalbnaa
open Go.RowKit

theorem AU.step' {w wr w1 : World} {base : Nat} {v0 v v1 : Value} {n0 : Nat} {xs : List Value} {m m' : Nat} {pre : List UInt8} {c : Int} (hc : c = ((m' % 128 + 128 : Nat) : Int)) (hm : ¬ m' < 128)
    (hu : Cd.uB m = pre ++ Cd.uB m') (hg : w.grownBy wr v0.ownBlock) (hat : v.ownBlock = v0.ownBlock ∨ ∃ g, v.ownBlock = some g ∧ w.heap.size ≤ g)
    (hown : w1.ownsRow base 5 1 v1 (n0 + pre.length + 1) ((xs ++ Cd.bytesV pre) ++ [Value.int .u8 c])) (o : Obj) (hg1 : (wr.alloc o).grownBy w1 v.ownBlock)
    (hat1 : v1.ownBlock = v.ownBlock ∨ v1.ownBlock = some (wr.alloc o).heap.size) : AU w w1 base v0 n0 xs m v1 (n0 + pre.length + 1) (m' / 128) := by
  refine AU.step hm hu hg hat ?_ o hg1 hat1
  rw [Try.or128, ← hc]
  exact hown
set_option maxRecDepth 20000 in
set_option maxHeartbeats 800000 in
theorem refPutUint_any (w : World) (m : Nat) (hm : m < 18446744073709551616) :
    Calls Try.prog 61 #[.int .u64 m] w (Made w (Cd.uB m)) := by
  obtain ⟨i0, hi, hz0, hz1, hz2⟩ := info_parts info_u8
  have hlen := Cd.uB_len10 hm
  have HM := Lib.hid hm
  clear hm
  go_enter Try.func61, Try.ntmps61
  go_wp2_with fail
  go_loopw [0, 3] (fun q b wr => ∃ (k m' : Nat), q = .int .u64 m' ∧ Hid (m' < 18446744073709551616) ∧ AU w wr w.heap.size (.slice none 0 0) 0 [] m b k m') (fun q _ _ => (intOf q).toNat)
  case atStart => exact ⟨0, m, rfl, HM, [], by simp, by simp, by simpa [Cd.bytesV] using World.ownsRow_nil _ _ _ _, World.grownBy.refl _ _, .inl rfl⟩
  case round =>
    obtain ⟨k, m', rfl, hm', pre, rfl, hu, ho, hg, hat⟩ := hrel
    have HU := Lib.hid hu
    have HA := Lib.hid hat
    have HL := Lib.hid (cap_of hlen hu)
    clear hu hat hlen
    have B1 : Hid (0 + pre.length + 1 ≤ maxLen) := by have := HL.out; unfold Hid maxLen; omega
    have B2 : Hid ((0 + pre.length + 1) * 1 ≤ 140737488355328) := by have := HL.out; unfold Hid; omega
    have B3 : Hid (∀ o : Obj, w.heap.size ≤ (wr.alloc o).heap.size) := by have := hg.size; unfold Hid; simp; omega
    by_cases hlt : (m' : Int) ≤ 127
    · have hq : decide ((128 : Int) ≤ (m' : Int)) = false := decide_eq_false (by omega)
      have hb8 : (m' : Int) % 256 = (m' : Int) := by omega
      go_wp2_with (at_builtin; refine wpList_append_own_at _ rfl _ _ 47 rfl w.heap.size 5 i0 (.int .u8 0) 1 1 Try.underlying47 hi hz0 hz1 hz2 rfl (by decide) _ _ _ rfl (ho.alloc _) ⟨wr.heap.size, 0, none⟩ 1 1 [.int .u8 (m' : Int)] rfl rfl (cell_one_new _ _ _) (by simp [Value.oneCell']) B1.out B2.out (B3.out _) ?_; intro v1 w1 hown1 hg1 _ hat1)
      go_ret
      obtain ⟨v', e', h2, h3, _⟩ := AU.last (by omega) HU.out hg HA.out hown1 _ hg1 hat1
      exact ⟨v', e', by simpa using h2, below_grown (World.ownsRow_nil w w.heap.size 5 1) (Nat.le_refl _) h3⟩
    · have hq : decide ((128 : Int) ≤ (m' : Int)) = true := decide_eq_true (by omega)
      have HLt : Hid (¬ m' < 128) := Lib.hid (by omega)
      have hwq : IntKind.u64.wrap ((m' : Int) / 128) = ((m' / 128 : Nat) : Int) := by have := hm'.out; rw [IntKind.wrap_u64]; omega
      clear hlt
      go_wp2_with (at_builtin; refine wpList_append_own_at _ rfl _ _ 47 rfl w.heap.size 5 i0 (.int .u8 0) 1 1 Try.underlying47 hi hz0 hz1 hz2 rfl (by decide) _ _ _ rfl (ho.alloc _) ⟨wr.heap.size, 0, none⟩ 1 1 [.int .u8 ((m' : Int) % 128 + 128)] rfl rfl (cell_one_new _ _ _) (by simp [Value.oneCell']) B1.out B2.out (B3.out _) ?_; intro v1 w1 hown1 hg1 _ hat1)
      go_roundw
      case rel => exact ⟨_, m' / 128, by go_num, (by have := hm'.out; unfold Hid; omega), AU.step' (by omega) HLt.out HU.out hg HA.out hown1 _ hg1 hat1⟩
      case measure => have := HLt.out; simp [intOf]; omega
set_option maxRecDepth 20000 in
set_option maxHeartbeats 800000 in
theorem refPutInt_any (w : World) (i : Int) (h1 : -9223372036854775808 ≤ i) (h2 : i ≤ 9223372036854775807) :
    Calls Try.prog 62 #[.int .i64 i] w (Made w (Cd.uB (Cd.zig i))) := by
  have H := Lib.hid (zig_lt i h1 h2)
  have HZ := Lib.hid (refPutUint_any w (Cd.zig i) H.out)
  by_cases h0 : 0 ≤ i
  · have hd : decide ((0 : Int) ≤ i) = true := decide_eq_true h0
    obtain ⟨n, rfl⟩ : ∃ n : Nat, i = (n : Int) := ⟨i.toNat, by omega⟩
    have hz : Cd.zig (n : Int) = 2 * n := by unfold Cd.zig; rw [if_pos (by omega)]; omega
    rw [hz] at HZ
    go_enter Try.func62, Try.ntmps62
    have hw1 : IntKind.u64.wrap (n : Int) = (n : Int) := by rw [IntKind.wrap_u64]; omega
    have hw2 : IntKind.u64.wrap (2 * (n : Int)) = ((2 * n : Nat) : Int) := by rw [IntKind.wrap_u64]; omega
    go_wp2_with (go_at_call 61; refine HZ.out.mono ?_; rintro e w1 ⟨v1, rfl, ho1, hb1⟩)
    go_ret
    rw [hz]
    exact ⟨v1, rfl, ho1, hb1⟩
  · have hd : decide ((0 : Int) ≤ i) = false := decide_eq_false h0
    obtain ⟨n, hn⟩ : ∃ n : Nat, (n : Int) = -(i + 1) := ⟨(-(i + 1)).toNat, by omega⟩
    have hz : Cd.zig i = 2 * n + 1 := by unfold Cd.zig; rw [if_neg h0]; omega
    have hw0 : IntKind.i64.wrap (i + 1) = i + 1 := wrap_i64' _ (by omega) (by omega)
    have hw1 : IntKind.i64.wrap (-(i + 1)) = (n : Int) := by rw [hn]; exact wrap_i64' _ (by omega) (by omega)
    have hw2 : IntKind.u64.wrap (n : Int) = (n : Int) := by rw [IntKind.wrap_u64]; omega
    have hw3 : IntKind.u64.wrap (2 * (n : Int)) = 2 * (n : Int) := by rw [IntKind.wrap_u64]; omega
    have hw4 : IntKind.u64.wrap (2 * (n : Int) + 1) = ((2 * n + 1 : Nat) : Int) := by rw [IntKind.wrap_u64]; omega
    rw [hz] at HZ
    have hv : ((2 * n + 1 : Nat) : Int) = 2 * -(i + 1) + 1 := by omega
    rw [hv] at HZ
    have HZz := Lib.hid hz
    clear hz hv hn hw1 hw2 hw3 hw4
    go_enter Try.func62, Try.ntmps62
    go_wp2_with (go_at_call 61; refine HZ.out.mono ?_; rintro e w1 ⟨v1, rfl, ho1, hb1⟩)
    go_ret
    rw [HZz.out]
    exact ⟨v1, rfl, ho1, hb1⟩
set_option maxRecDepth 20000 in
set_option maxHeartbeats 800000 in
theorem refPutText_any (w : World) (s : ByteArray) (hs : s.size + 10 ≤ 140737488355328) :
    Calls Try.prog 63 #[.string s] w (Made w (Cd.textB s.data.toList)) := by
  obtain ⟨i0, hi, hz0, hz1, hz2⟩ := info_parts info_u8
  have hl : (Cd.uB s.size).length ≤ 10 := Cd.uB_len10 (by omega)
  have HZ := Lib.hid (refPutUint_any w s.size (by omega))
  have B2 := Lib.hid (show (Cd.uB s.size).length + s.size ≤ maxLen by unfold maxLen; omega)
  have B3 := Lib.hid (show (Cd.uB s.size).length + s.size ≤ 140737488355328 by omega)
  have hw2 : IntKind.u64.wrap (s.size : Int) = (s.size : Int) := by rw [IntKind.wrap_u64]; omega
  clear hs hl
  go_enter Try.func63, Try.ntmps63
  go_wp2_with (first | (go_at_call 61; refine HZ.out.mono ?_; rintro e w1 ⟨v1, rfl, h1, hb1⟩) | (at_builtin; refine Lib.wpList_append_own_string _ rfl _ _ 47 9 rfl w.heap.size 5 i0 Try.underlying47 Try.underlying9 hi hz0 hz1 hz2 _ _ _ rfl h1 s rfl B2.out B3.out hb1.size ?_; intro v2 w2 h2 hg2 _))
  go_ret
  refine ⟨v2, rfl, ?_, hb1.trans (below_grown h1 hb1.size hg2)⟩
  have e1 : (Cd.textB s.data.toList).length = (Cd.uB s.size).length + s.size := by simp [Cd.textB]
  have e2 : Cd.bytesV (Cd.textB s.data.toList) = Cd.bytesV (Cd.uB s.size) ++ Lib.strCells s := by
    rw [strCells_bytes, ← Cd.bytesV_append]; rfl
  rw [e1, e2]; exact h2
end Go.Proofs.Yteondokncalbnaa

namespace Go.Proofs.Yteondokncalbnaa
open Go.RowKit
/-- what the frame tells of a slice of bytes that came in -/
def Came (w : World) (a : Option Addr) (len cap : Nat) (zs : List Int) : Prop :=
  (a = none ∧ len = 0 ∧ cap = 0 ∧ zs = []) ∨
  ∃ x, a = some x ∧ len ≤ cap ∧ cap ≤ maxLen ∧ zs.length = cap ∧ (∀ i, i < zs.length → w.cell? (x.add i) = some (.int .u8 (zs.getD i 0))) ∧ ∀ n ∈ zs, (Lit.int .u8 n).wf = true

theorem came_in {w : World} {a : Option Addr} {len cap : Nat} {zs : List Int} (h : Came w a len cap zs) : ∃ l, In w a len cap l := by
  rcases h with ⟨rfl, rfl, rfl, rfl⟩ | ⟨x, rfl, hl, hm, hz, hc, hw⟩
  · exact ⟨[], ⟨Bs.nil w, (fun ad e _ => by cases e), by simp⟩⟩
  · have hlen : ((zs.take len).map fun n => UInt8.ofNat n.toNat).length = len := by simp; omega
    refine ⟨(zs.take len).map fun n => UInt8.ofNat n.toNat, ⟨⟨hlen.symm, by rw [hlen]; omega, fun i hi => ?_⟩, fun ad e h0 => ?_, by rw [hlen]; exact ⟨hl, hm⟩⟩⟩
    · have hi' : i < len := by rw [hlen] at hi; exact hi
      have hiz : i < zs.length := by omega
      have hcell := hc i hiz
      refine ⟨x, rfl, ?_, ?_⟩
      · have := World.block_lt_of_cell? w _ hcell; rwa [add_block] at this
      · rw [hcell]
        have hb := bounds_u8 (hw zs[i] (List.getElem_mem hiz))
        have e1 : zs.getD i 0 = zs[i] := by simp [List.getD, hiz]
        rw [e1]
        congr 2
        simp only [List.getElem_map, List.getElem_take]
        rw [UInt8.toNat_ofNat']
        omega
    · obtain rfl : x = ad := by injection e
      have h1 := hc 0 (by rw [hlen] at h0; omega)
      have := World.block_lt_of_cell? w _ h1; rwa [add_block] at this

end Go.Proofs.Yteondokncalbnaa

namespace Go.Proofs.Yteondokncalbnaa
open Go.RowKit

/-- a row of timers that can be read, at whatever place -/
def Tms (w : World) (A : Option Addr) (L : List Lt) : Prop :=
  ∀ k (hk : k < L.length), ∃ g o, A = some ⟨g, o, none⟩ ∧ g < w.heap.size ∧ ∀ j, j < 3 → w.cell? ⟨g, o + k * 3 + j, none⟩ = (ltC L[k])[j]?
theorem addr_inj {g o g' o' : Nat} (e : some (⟨g, o, none⟩ : Addr) = some ⟨g', o', none⟩) : g = g' ∧ o = o' :=
  ⟨congrArg Addr.block (Option.some.inj e), congrArg Addr.off (Option.some.inj e)⟩
theorem addr_add (g o j : Nat) : (⟨g, o, none⟩ : Addr).add j = ⟨g, o + j, none⟩ := by unfold Addr.add; split <;> simp_all
def blkOf (A : Option Addr) (i : Nat) : Prop := ∃ x, A = some x ∧ x.block = i
theorem Tms.keep {w w' : World} {S : Nat → Prop} {A : Option Addr} {L : List Lt} (h : Tms w A L) (k : Turns S w w') (hS : ∀ i, blkOf A i → ¬ S i) : Tms w' A L := fun i hi => by
  obtain ⟨g, o, rfl, hx, hc⟩ := h i hi
  refine ⟨g, o, rfl, Nat.lt_of_lt_of_le hx k.size, fun j hj => ?_⟩
  rw [← hc j hj]
  exact k.cell (p := ⟨g, o + i * 3 + j, none⟩) hx (hS _ ⟨_, rfl, rfl⟩)
theorem Tms.nil (w : World) (A : Option Addr) : Tms w A [] := fun k hk => absurd hk (Nat.not_lt_zero _)
theorem Tms.of_own {w : World} {B n c : Nat} {A : Option Addr} {L : List Lt} (h : w.ownsRow B 31 3 (.slice A n c) n (L.flatMap ltC)) (hn : L.length = n) : Tms w A L := fun k hk => by
  rcases h.2 with ⟨e, e2⟩ | ⟨g, cap', cur, e, _, hh, h5, _⟩
  · omega
  · injection e with eA _ ec
    subst eA ec
    refine ⟨g, 0, rfl, (Array.getElem?_eq_some_iff.1 hh).1, fun j hj => ?_⟩
    rw [Nat.zero_add, h.cellAt _ (by omega), flat_get ltC 3 ltC_len L k j hj, List.getElem?_eq_getElem hk]
    rfl
theorem Tms.drop {w : World} {g o : Nat} {L : List Lt} (h : Tms w (some ⟨g, o, none⟩) L) (n : Nat) : Tms w (some ⟨g, o + n * 3, none⟩) (L.drop n) := fun k hk => by
  rw [List.length_drop] at hk
  obtain ⟨g', o', e, hy, hc⟩ := h (n + k) (by omega)
  obtain ⟨rfl, rfl⟩ := addr_inj e
  refine ⟨_, _, rfl, hy, fun j hj => ?_⟩
  have e2 : o + n * 3 + k * 3 + j = o + (n + k) * 3 + j := by omega
  rw [e2, hc j hj, List.getElem_drop]
theorem Tms.take {w : World} {A : Option Addr} {L : List Lt} (h : Tms w A L) (n : Nat) : Tms w A (L.take n) := fun k hk => by
  rw [List.length_take] at hk
  obtain ⟨g, o, e, hy, hc⟩ := h k (by omega)
  exact ⟨g, o, e, hy, fun j hj => by rw [hc j hj, List.getElem_take]⟩
/-- the document's table -/
structure RT (w : World) (r : Nat) (A : Option Addr) (c : Nat) (L : List Lt) : Prop where
  blk : Blk w r 60 [.slice A L.length c]
  row : Tms w A L
  cap : L.length ≤ c ∧ c ≤ maxLen
  srt : SrtL L
  few : L.length ≤ 4096
end Go.Proofs.Yteondokncalbnaa

namespace Go.Proofs.Yteondokncalbnaa
open Go.RowKit

/-- where a list in order is cut -/
theorem srt_cut {L : List Lt} (h : SrtL L) {d : Int} {n : Nat} (hn : n ≤ L.length) (h1 : ∀ j (hj : j < L.length), n ≤ j → d < L[j].1) (h2 : ∀ (h0 : 0 < n), (L[n - 1]'(by omega)).1 ≤ d) :
    L.take n = L.filter (fun y => decide (y.1 ≤ d)) ∧ L.drop n = L.filter (fun y => decide (d < y.1)) := by
  have hle : ∀ y ∈ L.take n, y.1 ≤ d := fun y hy => by
    obtain ⟨j, hj, rfl⟩ := List.mem_iff_getElem.1 hy
    rw [List.length_take] at hj
    rw [List.getElem_take]
    have h0 : 0 < n := by omega
    have := h2 h0
    by_cases e : j = n - 1
    · subst e; exact this
    · have := (List.pairwise_iff_getElem.1 h) j (n - 1) (by omega) (by omega) (by omega)
      omega
  have hgt : ∀ y ∈ L.drop n, d < y.1 := fun y hy => by
    obtain ⟨j, hj, rfl⟩ := List.mem_iff_getElem.1 hy
    rw [List.length_drop] at hj
    rw [List.getElem_drop]
    exact h1 _ (by omega) (by omega)
  constructor
  · conv => rhs; rw [← List.take_append_drop n L]
    rw [List.filter_append, List.filter_eq_self.2 (fun y hy => by simpa using hle y hy), List.filter_eq_nil_iff.2 (fun y hy => by have := hgt y hy; simp; omega), List.append_nil]
  · conv => rhs; rw [← List.take_append_drop n L]
    rw [List.filter_append, List.filter_eq_nil_iff.2 (fun y hy => by have := hle y hy; simp; omega), List.filter_eq_self.2 (fun y hy => by simpa using hgt y hy), List.nil_append]
theorem ins_cut {L : List Lt} (h : SrtL L) (x : Lt) {n : Nat} (hn : n ≤ L.length) (h1 : ∀ j (hj : j < L.length), n ≤ j → x.1 < L[j].1) (h2 : ∀ (h0 : 0 < n), (L[n - 1]'(by omega)).1 ≤ x.1) :
    L.take n ++ [x] ++ L.drop n = insL L x := by
  obtain ⟨e1, e2⟩ := srt_cut h hn h1 h2
  rw [e1, e2]
  rfl
theorem ins_srt {L : List Lt} (h : SrtL L) (x : Lt) : SrtL (insL L x) := by
  unfold insL SrtL
  rw [List.pairwise_append, List.pairwise_append]
  refine ⟨⟨List.Pairwise.filter _ h, by simp, ?_⟩, List.Pairwise.filter _ h, ?_⟩
  · intro a ha b hb
    simp at hb
    subst hb
    simpa using (List.mem_filter.1 ha).2
  · intro a ha b hb
    have hb2 : x.1 < b.1 := by simpa using (List.mem_filter.1 hb).2
    rcases List.mem_append.1 ha with ha | ha
    · have : a.1 ≤ x.1 := by simpa using (List.mem_filter.1 ha).2
      omega
    · simp at ha; subst ha; omega
/-- one of its name is left out -/
theorem drop_cut {L : List Lt} (hn : (L.map (·.2)).Nodup) {i : Nat} (hi : i < L.length) : L.take i ++ L.drop (i + 1) = dropL L L[i].2.1 L[i].2.2 := by
  have hne : ∀ j (hj : j < L.length), j ≠ i → ¬ (L[j].2.1 = L[i].2.1 ∧ L[j].2.2 = L[i].2.2) := fun j hj hji e => by
    have : L[j].2 = L[i].2 := Prod.ext e.1 e.2
    exact hji ((List.getElem_inj (xs := L.map (·.2)) (h₀ := by simpa using hj) (h₁ := by simpa using hi) hn).1 (by simpa using this))
  have key : ∀ P : Lt → Bool, (∀ j (hj : j < L.length), j ≠ i → P L[j] = true) → P L[i] = false → L.take i ++ L.drop (i + 1) = L.filter P := fun P h1 h2 => by
    conv => rhs; rw [← List.take_append_drop i L]
    rw [List.filter_append]
    congr 1
    · symm
      rw [List.filter_eq_self]
      intro y hy
      obtain ⟨j, hj, rfl⟩ := List.mem_iff_getElem.1 hy
      rw [List.length_take] at hj
      rw [List.getElem_take]
      exact h1 j (by omega) (by omega)
    · rw [List.drop_eq_getElem_cons hi, List.filter_cons, h2]
      simp only [Bool.false_eq_true, if_false]
      symm
      rw [List.filter_eq_self]
      intro y hy
      obtain ⟨j, hj, rfl⟩ := List.mem_iff_getElem.1 hy
      rw [List.length_drop] at hj
      rw [List.getElem_drop]
      exact h1 _ (by omega) (by omega)
  refine key _ (fun j hj hji => otherB_no.2 (hne j hj hji)) ?_
  cases h : otherB L[i].2.1 L[i].2.2 L[i] with
  | false => rfl
  | true => exact absurd ⟨rfl, rfl⟩ (otherB_no.1 h)
theorem filter_srt {L : List Lt} (h : SrtL L) (P : Lt → Bool) : SrtL (L.filter P) := List.Pairwise.filter P h
theorem filter_names {L : List Lt} (h : (L.map (·.2)).Nodup) (P : Lt → Bool) : ((L.filter P).map (·.2)).Nodup := by
  refine List.Nodup.sublist ?_ h
  exact (List.filter_sublist).map _
theorem dropA_snoc (L : List Lt) (o : ByteArray) {k : Nat} (hk : k < L.length) : dropA (L.take (k + 1)) o = dropA (L.take k) o ++ (if L[k].2.1 = o then [] else [L[k]]) := by
  unfold dropA
  rw [List.take_succ_eq_append_getElem hk, List.filter_append]
  congr 1
  by_cases e : L[k].2.1 = o
  · simp [owB, e]
  · simp [owB, e]

/-! ### an append of timers that can be read -/
theorem append_rd (w : World) (H : Nat) (v : Value) (O D : List Lt) (hH : H ≤ w.heap.size) (ho : w.ownsRow H 31 3 v O.length (O.flatMap ltC)) (B : Option Addr) (c : Nat) (hd : Tms w B D) (hL : O.length + D.length ≤ 100000) (ty : TypeId) :
    ∃ A' c' w', (Builtin.append_ #[28, 28] ty #[v, .slice B D.length c]).run Try.prog w = .ok (.slice A' (O ++ D).length c') w' ∧ w'.ownsRow H 31 3 (.slice A' (O ++ D).length c') (O ++ D).length ((O ++ D).flatMap ltC) ∧ w.grownBy w' v.ownBlock ∧
      ((Value.slice A' (O ++ D).length c').ownBlock = v.ownBlock ∨ (Value.slice A' (O ++ D).length c').ownBlock = some w.heap.size) := by
  obtain ⟨i0, hi, hz0, hz1, hz2⟩ := info_parts info_tmr
  by_cases h0 : D = []
  · subst h0
    obtain ⟨A, cap, rfl⟩ := own_slice' ho
    have hsrc : Src Try.prog i0.size 28 (.slice B 0 c) 0 [] w := by
      cases B with
      | none => exact Src.ofNil w Try.underlying28 c
      | some a => exact Src.ofSlice w Try.underlying28 a 0 c [] (by simp) (by simp) (by simp)
    have hle : O.length ≤ cap := by
      rcases ho.2 with ⟨e, e2⟩ | ⟨g, cap', cur, e, _, _, h5, _⟩
      · omega
      · injection e with _ _ e; omega
    have hrun := run_append_nothing w 28 28 ty 31 i0 Try.underlying28 hi A O.length cap hle _ hsrc
    refine ⟨A, cap, w, by rw [List.append_nil]; exact hrun, by rw [List.append_nil]; exact ho, ⟨rfl, rfl, rfl, Nat.le_refl _, fun _ _ _ => rfl⟩, .inl (by rw [List.append_nil])⟩
  · have hlen : 0 < D.length := List.length_pos_iff.2 h0
    obtain ⟨g, o, rfl, hx, _⟩ := hd 0 hlen
    obtain ⟨v', w', hrun, r1, r2, _, r4⟩ := run_append_own_at (P := Try.prog) w H 28 ty 31 i0 (.agg #[.int .i64 0, .string ⟨#[]⟩, .int .i64 0]) 3 32 Try.underlying28 hi hz0 hz1 hz2 rfl (by decide) _ O.length (O.flatMap ltC) ho ⟨g, o, none⟩ D.length c (D.flatMap ltC) (flat_len ltC 3 ltC_len D)
      (fun j u hu => by
        have hj : j < D.length * 3 := by
          have := (List.getElem?_eq_some_iff.1 hu).1
          rw [flat_len ltC 3 ltC_len] at this; exact this
        have hk : j / 3 < D.length := by omega
        obtain ⟨g', o', e, _, hc⟩ := hd (j / 3) hk
        obtain ⟨rfl, rfl⟩ := addr_inj e
        have h1 := hc (j % 3) (by omega)
        have e3 : (⟨g, o, none⟩ : Addr).add j = ⟨g, o + j / 3 * 3 + j % 3, none⟩ := by rw [addr_add, show o + j / 3 * 3 + j % 3 = o + j from by omega]
        rw [e3, h1]
        have h2 := flat_get ltC 3 ltC_len D (j / 3) (j % 3) (by omega)
        rw [show j / 3 * 3 + j % 3 = j from by omega, List.getElem?_eq_getElem hk] at h2
        rw [← hu, h2]
        rfl)
      (fun u hu => ltC_one D u hu) (by unfold maxLen; omega) (by omega) hH
    rw [← List.flatMap_append] at r1
    obtain ⟨A', c', rfl⟩ := own_slice' r1
    have e : O.length + D.length = (O ++ D).length := by rw [List.length_append]
    rw [e] at r1 r4 hrun
    exact ⟨A', c', w', hrun, r1, r2, r4⟩
end Go.Proofs.Yteondokncalbnaa

namespace Go.Proofs.Yteondokncalbnaa
open Go.RowKit

theorem str_ne' {a b : ByteArray} (h : a ≠ b) : (a.toList == b.toList) = false := by
  rw [beq_eq_false_iff_ne]
  intro e
  apply h
  rw [ByteArray.toList_eq, ByteArray.toList_eq] at e
  cases a; cases b
  simp at e
  simp [e]
section
variable {w w' : World} {r : Nat} {A : Option Addr} {c : Nat} {L : List Lt}
theorem RT.c0 (h : RT w r A c L) : w.cell? ⟨r, 0, none⟩ = some (.slice A L.length c) := by have := h.blk.cell 0; simpa using this
theorem RT.lt (h : RT w r A c L) : r < w.heap.size := h.blk.lt
/-- what belongs to the document's table -/
def RSet (r : Nat) (A : Option Addr) (i : Nat) : Prop := i = r ∨ blkOf A i
theorem RT.keep {S : Nat → Prop} (h : RT w r A c L) (k : Turns S w w') (hS : ∀ i, RSet r A i → ¬ S i) : RT w' r A c L :=
  ⟨h.blk.turns k (hS r (.inl rfl)), h.row.keep k (fun i hi => hS i (.inr hi)), h.cap, h.srt, h.few⟩
theorem RT.bel (h : RT w r A c L) (k : Below w.heap.size w w') : RT w' r A c L := h.keep (.of_below (S := fun _ => False) k) (fun _ _ => id)
/-- the cells of a timer -/
theorem RT.at_ (h : RT w r A c L) {i : Nat} (hi : i < L.length) : ∃ g o, A = some ⟨g, o, none⟩ ∧ g < w.heap.size ∧ w.cell? ⟨g, o + i * 3, none⟩ = some (.int .i64 L[i].1) ∧ w.cell? ⟨g, o + i * 3 + 1, none⟩ = some (.string L[i].2.1) ∧ w.cell? ⟨g, o + i * 3 + 2, none⟩ = some (.int .i64 L[i].2.2) := by
  obtain ⟨g, o, e, hx, hc⟩ := h.row i hi
  exact ⟨g, o, e, hx, (hc 0 (by omega)), hc 1 (by omega), hc 2 (by omega)⟩
end
set_option maxRecDepth 20000 in
set_option maxHeartbeats 1600000 in
theorem rtFind (w : World) (r : Nat) (A : Option Addr) (c : Nat) (L : List Lt) (h : RT w r A c L) (o : ByteArray) (k : Int) (n : Nat) (hn : n ≤ L.length) (h1 : ∀ j (hj : j < L.length), j < n → ¬ (L[j].2.1 = o ∧ L[j].2.2 = k)) (h2 : ∀ (hl : n < L.length), L[n].2.1 = o ∧ L[n].2.2 = k) :
    Calls Try.prog 48 #[.pointer (some ⟨r, 0, none⟩), .string o, .int .i64 k] w fun e w' => e = .returned (.int .i64 (if n < L.length then (n : Int) else -1)) ∧ w' = w := by
  have hc0 := h.c0
  have H := Lib.hid h
  have H1 := Lib.hid h1
  have H2 := Lib.hid h2
  have hcap := h.cap.1
  have hmx := h.cap.2
  have hfew := h.few
  unfold maxLen at hmx
  clear h h1 h2
  go_enter Try.func48, Try.ntmps48
  go_wp2_with fail
  go_loop [7] (fun i => ∃ j : Nat, j ≤ n ∧ i = .int .i64 (j : Int)) (fun i => n + 1 - (intOf i).toNat)
  case atStart => exact ⟨0, Nat.zero_le _, rfl⟩
  case round =>
    obtain ⟨j, hj, rfl⟩ := hrel
    by_cases hlt : j < L.length
    · have hlt1 : (j : Int) < (L.length : Int) := by omega
      obtain ⟨g, og, rfl, hx, d0, d1, d2⟩ := H.out.at_ hlt
      by_cases hjn : j < n
      · have hne := H1.out j hlt hjn
        have hnI : (j : Int) + 1 ≤ (n : Int) := by omega
        by_cases ho : L[j].2.1 = o
        · have hk : (L[j].2.2 == k) = false := beq_eq_false_iff_ne.2 (fun e => hne ⟨ho, e⟩)
          rw [ho] at d1
          generalize L[j] = y at *
          clear ho hne
          go_wp2_with fail
          go_round
          case rel => exact ⟨j + 1, hjn, by go_num⟩
          case measure => simp [intOf]; omega
        · have hq := str_ne' ho
          generalize L[j] = y at *
          clear ho hne
          go_wp2_with fail
          go_round
          case rel => exact ⟨j + 1, hjn, by go_num⟩
          case measure => simp [intOf]; omega
      · obtain rfl : j = n := by omega
        obtain ⟨e1, e2⟩ := H2.out hlt
        rw [e1] at d1
        rw [e2] at d2
        clear e1 e2
        have HL := Lib.hid hlt
        generalize L[j] = y at *
        clear hlt
        go_wp2_with fail
        go_ret
        exact ⟨by first | rfl | rw [if_pos HL.out], rfl⟩
    · have hjn : j = n := by omega
      have hlt1 : ¬ (j : Int) < (L.length : Int) := by omega
      have HL : Hid (¬ n < L.length) := Lib.hid (by omega)
      clear hlt
      go_wp2_with fail
      go_ret
      exact ⟨by first | rfl | rw [if_neg HL.out], rfl⟩
theorem rtFind_no (w : World) (r : Nat) (A : Option Addr) (c : Nat) (L : List Lt) (h : RT w r A c L) (o : ByteArray) (k : Int) (hn : ¬ named L o k) :
    Calls Try.prog 48 #[.pointer (some ⟨r, 0, none⟩), .string o, .int .i64 k] w fun e w' => e = .returned (.int .i64 (-1)) ∧ w' = w := by
  have := rtFind w r A c L h o k L.length (Nat.le_refl _) (fun j hj _ e => hn ⟨_, List.getElem_mem hj, e.1, e.2⟩) (fun hl => absurd hl (Nat.lt_irrefl _))
  rwa [if_neg (Nat.lt_irrefl _)] at this
theorem rtFind_at (w : World) (r : Nat) (A : Option Addr) (c : Nat) (L : List Lt) (h : RT w r A c L) (hN : (L.map (·.2)).Nodup) (n : Nat) (hn : n < L.length) :
    Calls Try.prog 48 #[.pointer (some ⟨r, 0, none⟩), .string L[n].2.1, .int .i64 L[n].2.2] w fun e w' => e = .returned (.int .i64 (n : Int)) ∧ w' = w := by
  have := rtFind w r A c L h L[n].2.1 L[n].2.2 n (by omega) (fun j hj hjn e => by
    have e2 : L[j].2 = L[n].2 := Prod.ext e.1 e.2
    have : j = n := (List.getElem_inj (xs := L.map (·.2)) (h₀ := by simpa using hj) (h₁ := by simpa using hn) hN).1 (by simpa using e2)
    omega) (fun _ => ⟨rfl, rfl⟩)
  rwa [if_pos hn] at this
set_option maxRecDepth 20000 in
theorem rtNext (w : World) (r : Nat) (A : Option Addr) (c : Nat) (L : List Lt) (h : RT w r A c L) :
    Calls Try.prog 45 #[.pointer (some ⟨r, 0, none⟩)] w fun e w' => e = .returned (.tuple #[.int .i64 (nextD L), .bool (decide (0 < L.length))]) ∧ w' = w := by
  have hc0 := h.c0
  have hcap := h.cap.1
  have hmx := h.cap.2
  unfold maxLen at hmx
  cases L with
  | nil =>
    clear h
    go_enter Try.func45, Try.ntmps45
    go_wp2_with fail
    go_ret2
    exact ⟨rfl, rfl⟩
  | cons y ys =>
    obtain ⟨g, og, rfl, hx, d0, _, _⟩ := h.at_ (i := 0) (by simp)
    simp only [Nat.zero_mul, Nat.add_zero, List.getElem_cons_zero] at d0
    have hne : (((y :: ys).length : Int) == 0) = false := beq_eq_false_iff_ne.2 (by rw [List.length_cons]; omega)
    have hpos : (0 : Int) < ((y :: ys).length : Int) := by rw [List.length_cons]; omega
    obtain ⟨n, hnl⟩ : ∃ n, (y :: ys).length = n := ⟨_, rfl⟩
    rw [hnl] at hc0 hcap hne hpos
    have HN : Hid (decide (0 < (y :: ys).length) = true) := Lib.hid (by simp)
    clear h hnl
    go_enter Try.func45, Try.ntmps45
    go_wp2_with fail
    go_ret2
    exact ⟨rfl, rfl⟩
end Go.Proofs.Yteondokncalbnaa

namespace Go.Proofs.Yteondokncalbnaa
open Go.RowKit

theorem eq_lt (y : Lt) (w : World) : (Op.equalIn 10000 31 (.agg #[.int .i64 y.1, .string y.2.1, .int .i64 y.2.2]) (.agg #[.int .i64 y.1, .string y.2.1, .int .i64 y.2.2])).run Try.prog w = .ok true w := tmeq y.1 y.2.2 y.2.1 w
set_option maxRecDepth 20000 in
set_option maxHeartbeats 1600000 in
theorem rtSame (w : World) (A1 A2 : Option Addr) (c1 c2 n : Nat) (L : List Lt) (hn : L.length = n) (h1 : Tms w A1 L) (h2 : Tms w A2 L) (k1 : n ≤ c1 ∧ c1 ≤ maxLen) (k2 : n ≤ c2 ∧ c2 ≤ maxLen) :
    Calls Try.prog 28 #[.slice A1 n c1, .slice A2 n c2] w fun e w' => e = .returned (.bool true) ∧ ∃ n, w' = w.drewN n := by
  have H1 := Lib.hid h1
  have H2 := Lib.hid h2
  have HN := Lib.hid hn
  have m1 := k1.2
  have m2 := k2.2
  unfold maxLen at m1 m2
  clear h1 h2 hn
  go_enter Try.func28, Try.ntmps28
  go_wp2_with fail
  go_loopw [5] (fun i wr => ∃ (k m : Nat), i = .int .i64 (k : Int) ∧ k ≤ n ∧ wr = w.drewN m) (fun i _ => n - (intOf i).toNat)
  case atStart => exact ⟨0, 0, rfl, Nat.zero_le _, rfl⟩
  case round =>
    obtain ⟨k, m, rfl, hk, rfl⟩ := hrel
    by_cases hlt : k < n
    · have hlt1 : (k : Int) < (n : Int) := by omega
      have n0 : ¬ ((k : Int) < 0) := by omega
      obtain ⟨g1, o1, rfl, hx1, q1⟩ := H1.out k (by rw [HN.out]; exact hlt)
      obtain ⟨g2, o2, rfl, hx2, q2⟩ := H2.out k (by rw [HN.out]; exact hlt)
      have p0 := q1 0 (by omega)
      have p1 := q1 1 (by omega)
      have p2 := q1 2 (by omega)
      have r0 := q2 0 (by omega)
      have r1 := q2 1 (by omega)
      have r2 := q2 2 (by omega)
      simp only [ltC, Nat.add_zero, List.getElem?_cons_succ, List.getElem?_cons_zero] at p0 p1 p2 r0 r1 r2
      clear q1 q2
      have hq := eq_lt (L[k]'(by rw [HN.out]; exact hlt))
      generalize (L[k]'(by rw [HN.out]; exact hlt)) = y at *
      go_wp2_with fail
      go_quiet (fail)
      go_wp2_with fail
      go_roundw
      case rel => exact ⟨k + 1, m + nq, by go_num, by omega, rfl⟩
      case measure => simp [intOf]; omega
    · have hlt1 : ¬ (k : Int) < (n : Int) := by omega
      go_wp2_with fail
      go_ret
      exact ⟨rfl, m, rfl⟩
end Go.Proofs.Yteondokncalbnaa

namespace Go.Proofs.Yteondokncalbnaa
open Go.RowKit

theorem append_rdm (w : World) (H : Nat) (v : Value) (O D : List Lt) (o1 m t : Nat) (h1 : O.length = o1) (hm : D.length = m) (ht : o1 + m = t) (hH : H ≤ w.heap.size) (ho : w.ownsRow H 31 3 v o1 (O.flatMap ltC)) (B : Option Addr) (c : Nat) (hd : Tms w B D) (hL : t ≤ 100000) (ty : TypeId) :
    ∃ A' c' w', (Builtin.append_ #[28, 28] ty #[v, .slice B m c]).run Try.prog w = .ok (.slice A' t c') w' ∧ w'.ownsRow H 31 3 (.slice A' t c') t ((O ++ D).flatMap ltC) ∧ w.grownBy w' v.ownBlock := by
  subst h1 hm ht
  obtain ⟨A', c', w', hrun, r1, r2, _⟩ := append_rd w H v O D hH ho B c hd (by omega) ty
  rw [List.length_append] at r1 hrun
  exact ⟨A', c', w', hrun, r1, r2⟩
theorem Tms.one (w : World) (x : Lt) : Tms (w.alloc (.cells #[.int .i64 x.1, .string x.2.1, .int .i64 x.2.2] 31)) (some ⟨w.heap.size, 0, none⟩) [x] := fun k hk => by
  obtain rfl : k = 0 := by simp at hk; exact hk
  have hb := Blk.new w 31 (ltC x)
  refine ⟨_, 0, rfl, hb.lt, fun j hj => ?_⟩
  have := hb.cell j
  rw [show 0 + 0 * 3 + j = j from by omega]
  exact this
theorem Tms.below {w w' : World} {A : Option Addr} {L : List Lt} (h : Tms w A L) (k : Below w.heap.size w w') : Tms w' A L := h.keep (.of_below (S := fun _ => False) k) (fun _ _ => id)
/-- the tail of a row that can be read -/
theorem Tms.tail {w : World} {A A2 : Option Addr} {c n : Nat} {L : List Lt} (h : Tms w A L) (hn : L.length ≤ c) (e : (if c = n then A else Option.map (fun y => y.add (n * 3)) A) = A2) : Tms w A2 (L.drop n) := by
  subst e
  by_cases hc : c = n
  · have : L.drop n = [] := List.drop_eq_nil_of_le (by omega)
    rw [this]
    exact Tms.nil _ _
  · rw [if_neg hc]
    cases A with
    | none =>
      cases L with
      | nil => simp; exact Tms.nil _ _
      | cons y ys => obtain ⟨_, _, e, _⟩ := h 0 (by simp); cases e
    | some x =>
      cases L with
      | nil => simp; exact Tms.nil _ _
      | cons y ys =>
        obtain ⟨g, o, e, _⟩ := h 0 (by simp)
        injection e with e
        subst e
        have := h.drop n
        rwa [← addr_add] at this

def RSetY (w : World) (r : Nat) (L' : List Lt) (e : Ending) (w' : World) : Prop := ∃ A' c', e = .returned (.int .i64 0) ∧ RT w' r A' c' L' ∧ (∀ i, blkOf A' i → w.heap.size ≤ i) ∧ Turns (fun i => i = r) w w'
theorem insL_len' (L : List Lt) (x : Lt) : (insL L x).length = L.length + 1 := insL_len L x
theorem rset_done {w w4 : World} {r : Nat} {A A4 : Option Addr} {c c4 : Nat} {L : List Lt} {x : Lt} (hr : RT w4 r A c L) (ho : w4.ownsRow w.heap.size 31 3 (.slice A4 (L.length + 1) c4) (L.length + 1) ((insL L x).flatMap ltC)) (hb : Below w.heap.size w w4) (hs : SrtL L) (hf : L.length + 1 ≤ 4096) :
    RSetY w r (insL L x) (.returned (.int .i64 0)) (w4.setCell ⟨r, 0, none⟩ (.slice A4 (L.length + 1) c4)) := by
  have hcap : L.length + 1 ≤ c4 ∧ c4 ≤ maxLen := by
    rcases ho.2 with ⟨e, e2⟩ | ⟨g, cap', cur, e, _, _, h5, h6, _⟩
    · omega
    · injection e with _ _ e3; subst e3; exact ⟨h5, h6⟩
  have hblk : ∀ i, blkOf A4 i → w.heap.size ≤ i ∧ (Value.slice A4 (L.length + 1) c4).ownBlock = some i := fun i ⟨x, e, e2⟩ => by
    rcases ho.2 with ⟨e3, e4⟩ | ⟨g, cap', cur, e3, hg, _⟩
    · omega
    · injection e3 with e5 _ _
      subst e5
      injection e with e
      subst e e2
      exact ⟨hg, rfl⟩
  have hne : ∀ i, blkOf A4 i → i ≠ r := fun i hi e => by
    subst e
    exact own_ne_blk ho (hblk _ hi).2 hr.blk (by decide) rfl
  have hrow : Tms w4 A4 (insL L x) := Tms.of_own ho (insL_len L x)
  have htu : Turns (fun i => i = r) w4 (w4.setCell ⟨r, 0, none⟩ (.slice A4 (L.length + 1) c4)) := Turns.of_set w4 ⟨r, 0, none⟩ _ rfl
  refine ⟨A4, c4, rfl, ⟨?_, hrow.keep htu hne, by rw [insL_len]; exact hcap, ins_srt hs x, by rw [insL_len]; exact hf⟩, fun i hi => (hblk i hi).1, ?_⟩
  · have := hr.blk.set 0 (.slice A4 (L.length + 1) c4)
    rw [insL_len]
    exact this
  · exact (Turns.of_below hb).then htu
set_option maxRecDepth 20000 in
set_option maxHeartbeats 4000000 in
theorem rtSet_ok (w : World) (r : Nat) (A : Option Addr) (c : Nat) (L : List Lt) (h : RT w r A c L) (due : Int) (o : ByteArray) (k : Int) (hk : 0 ≤ k) (hn : ¬ named L o k) (hf : L.length < 4096) :
    Calls Try.prog 25 #[.pointer (some ⟨r, 0, none⟩), .int .i64 due, .string o, .int .i64 k] w (RSetY w r (insL L (due, o, k))) := by
  have HF := Lib.hid (rtFind_no w r A c L h o k hn)
  have hc0 := h.c0
  have H := Lib.hid h
  have hcap := h.cap.1
  have hmx := h.cap.2
  have hlt := h.lt
  unfold maxLen at hmx
  have hk0 : ¬ k < 0 := by omega
  have hk1 : decide (k < 0) = false := by simpa using hk0
  have hf1 : ¬ (4096 : Int) ≤ (L.length : Int) := by omega
  have hf2 : (L.length : Int) ≤ 4096 := by omega
  clear h hn
  go_enter Try.func25, Try.ntmps25
  go_wp2_with (go_at_call 48; refine HF.out.mono ?_; rintro e w' ⟨rfl, rfl⟩)
  go_loop [9] (fun i => ∃ n : Nat, n ≤ L.length ∧ i = .int .i64 (n : Int) ∧ Hid (∀ j (hj : j < L.length), n ≤ j → due < L[j].1)) (fun i => (intOf i).toNat)
  case atStart => exact ⟨L.length, Nat.le_refl _, rfl, Lib.hid (fun j hj hj2 => by omega)⟩
  case round =>
    obtain ⟨n, hn, rfl, HN⟩ := hrel
    have hn1 : (n : Int) ≤ (L.length : Int) := by omega
    by_cases hgo : ∃ h0 : 0 < n, due < (L[n - 1]'(by omega)).1
    · obtain ⟨h0, hd⟩ := hgo
      have h0' : (0 : Int) < (n : Int) := by omega
      obtain ⟨g, og, rfl, hx, d0, _, _⟩ := H.out.at_ (i := n - 1) (by omega)
      have e1 : ((n : Int) - 1).toNat = n - 1 := by omega
      have e2 : (0 : Int) ≤ (n : Int) - 1 := by omega
      have e3 : (n : Int) - 1 < (L.length : Int) := by omega
      have hd1 : decide (due < (L[n - 1]'(by omega)).1) = true := decide_eq_true hd
      have e4 : (n : Int) - 1 = ((n - 1 : Nat) : Int) := by omega
      have HN2 : Hid (∀ j (hj : j < L.length), n - 1 ≤ j → due < L[j].1) := Lib.hid (fun j hj hj2 => by
        by_cases e : j = n - 1
        · subst e; exact hd
        · exact HN.out j hj (by omega))
      have HM : Hid (n - 1 ≤ L.length) := Lib.hid (by omega)
      have HM2 : Hid (n - 1 < n) := Lib.hid (by omega)
      clear hd HN
      generalize hy : L[n - 1] = y at *
      clear hy
      go_wp2_with fail
      go_round
      case rel => exact ⟨n - 1, HM.out, by first | rfl | exact congrArg (Value.int .i64) e4, HN2⟩
      case measure => have := HM2.out; simp [intOf]; omega
    · have hstop : Hid (∀ (h0 : 0 < n), (L[n - 1]'(by omega)).1 ≤ due) := Lib.hid (fun h0 => by
        have : ¬ due < (L[n - 1]'(by omega)).1 := fun h => hgo ⟨h0, h⟩
        omega)
      have HI : Hid (L.take n ++ [(due, o, k)] ++ L.drop n = insL L (due, o, k)) := Lib.hid (ins_cut H.out.srt (due, o, k) hn HN.out hstop.out)
      -- the three appends
      obtain ⟨A1, c1, w1, hrun1, ho1, hg1⟩ := append_rdm w' w'.heap.size (.slice none 0 0) [] (L.take n) 0 n n rfl (by rw [List.length_take]; omega) (by omega) (Nat.le_refl _) (World.ownsRow_nil _ _ _ _) A c (H.out.row.take n) (by omega) 28
      have B1 : Below w'.heap.size w' w1 := ⟨hg1.os, hg1.tape, hg1.output, hg1.size, fun i hi => hg1.block i hi (by intro e; cases e)⟩
      have R1 := H.out.bel B1
      have hs1 := B1.size
      have hc1 := R1.c0
      rw [List.nil_append] at ho1
      have B2 : Below w1.heap.size w1 (w1.alloc (.cells #[.int .i64 due, .string o, .int .i64 k] 31)) := (Below.refl _ _).alloc (Nat.le_refl _) _
      have ho1' := own_turns ho1 (.of_below (S := fun _ => False) B2) (fun _ _ => id)
      obtain ⟨A2, c2, w2, hrun2, ho2, hg2⟩ := append_rdm (w1.alloc (.cells #[.int .i64 due, .string o, .int .i64 k] 31)) w'.heap.size _ (L.take n) [(due, o, k)] n 1 (n + 1) (by rw [List.length_take]; omega) rfl rfl (Nat.le_trans hs1 B2.size) ho1' _ 1 (Tms.one w1 (due, o, k)) (by omega) 28
      have hlow : ∀ g, (Value.slice A1 n c1).ownBlock = some g → w'.heap.size ≤ g := fun g e => (own_geT ho1 e).1
      have B12 : Below w'.heap.size w' (w1.alloc (.cells #[.int .i64 due, .string o, .int .i64 k] 31)) := below_trans' B1 B2
      have B3 : Below w'.heap.size w' w2 := B12.grown hg2 B12.size (fun g e => hlow g e)
      have R2 := H.out.bel B3
      have hs2 := B3.size
      have hc2 := R2.c0
      obtain ⟨A3, hA3⟩ : ∃ A3, (if c = n then A else Option.map (fun y => y.add (n * 3)) A) = A3 := ⟨_, rfl⟩
      obtain ⟨A4, c4, w4, hrun4, ho4, hg4⟩ := append_rdm w2 w'.heap.size _ (L.take n ++ [(due, o, k)]) (L.drop n) (n + 1) (L.length - n) (L.length + 1) (by rw [List.length_append, List.length_take]; simp; omega) (by rw [List.length_drop]) (by omega) hs2 ho2 A3 (c - n) (R2.row.tail R2.cap.1 hA3) (by omega) 28
      have hlow2 : ∀ g, (Value.slice A2 (n + 1) c2).ownBlock = some g → w'.heap.size ≤ g := fun g e => (own_geT ho2 e).1
      have B4 : Below w'.heap.size w' w4 := B3.grown hg4 B3.size (fun g e => hlow2 g e)
      have R4 := H.out.bel B4
      have hc4 := R4.c0
      have hf4 := R4.blk.fz 0
      have hlt4 := R4.lt
      rw [HI.out] at ho4
      have HO := Lib.hid ho4
      have HB := Lib.hid B4
      have HR := Lib.hid R4
      have HC := Lib.hid (ho4.2)
      have r1 := Lib.hid hrun1
      have r2 := Lib.hid hrun2
      have r4 := Lib.hid hrun4
      have hlt1 := R1.lt
      have hlt2 := R2.lt
      clear hrun1 hrun2 hrun4 ho1 ho1' ho2 ho4 hg1 hg2 hg4 hlow hlow2 B1 B2 B3 B12 B4 R1 R2 R4
      have hcn : (n : Int) ≤ (c : Int) := by omega
      by_cases h0 : 0 < n
      · obtain ⟨g, og, rfl, hx, d0, _, _⟩ := H.out.at_ (i := n - 1) (by omega)
        have hd := hstop.out h0
        have h0' : (0 : Int) < (n : Int) := by omega
        have e1 : ((n : Int) - 1).toNat = n - 1 := by omega
        have e2 : (0 : Int) ≤ (n : Int) - 1 := by omega
        have e3 : (n : Int) - 1 < (L.length : Int) := by omega
        have hd1 : decide (due < (L[n - 1]'(by omega)).1) = false := decide_eq_false (by omega)
        clear hgo hd
        generalize hy : L[n - 1] = y at *
        clear hy
        have hA4 : (if c = n then some ⟨g, og, none⟩ else some ⟨g, og + n * 3, none⟩) = A3 := by rw [← hA3]; simp only [Option.map_some, addr_add]
        clear hA3
        go_upto_region 12 with (at_builtin; refine wpl_append_run rfl _ _ 28 rfl _ _ rfl rfl _ _ r1.out ?_)
        go_upto_region 13 with (at_builtin; refine wpl_append_run rfl _ _ 28 rfl _ _ rfl rfl _ _ r2.out ?_)
        go_wp2_with (at_builtin; refine wpl_append_run rfl _ _ 28 rfl _ _ rfl rfl _ _ r4.out ?_)
        go_ret
        exact rset_done HR.out HO.out HB.out H.out.srt (by have := hf; omega)
      · obtain rfl : n = 0 := by omega
        have hA4 : A = A3 := by
          rw [← hA3]
          cases A with
          | none => simp
          | some x => simp [Addr.add]
        subst hA4
        clear hA3 hgo
        simp only [Nat.sub_zero] at r4
        go_upto_region 12 with (at_builtin; refine wpl_append_run rfl _ _ 28 rfl _ _ rfl rfl _ _ r1.out ?_)
        go_upto_region 13 with (at_builtin; refine wpl_append_run rfl _ _ 28 rfl _ _ rfl rfl _ _ r2.out ?_)
        go_wp2_with (at_builtin; refine wpl_append_run rfl _ _ 28 rfl _ _ rfl rfl _ _ r4.out ?_)
        go_ret
        exact rset_done HR.out HO.out HB.out H.out.srt (by have := hf; omega)
def RNoY (w : World) (c : Int) (e : Ending) (w' : World) : Prop := e = .returned (.int .i64 c) ∧ w' = w
def FoundY (w : World) (e : Ending) (w' : World) : Prop := ∃ n : Nat, e = .returned (.int .i64 (n : Int)) ∧ w' = w
theorem rtFind_yes (w : World) (r : Nat) (A : Option Addr) (c : Nat) (L : List Lt) (h : RT w r A c L) (o : ByteArray) (k : Int) (hn : named L o k) :
    Calls Try.prog 48 #[.pointer (some ⟨r, 0, none⟩), .string o, .int .i64 k] w (FoundY w) := by
  have hex : ∃ x ∈ L, (fun x : Lt => decide (x.2.1 = o ∧ x.2.2 = k)) x = true := by
    obtain ⟨x, hx, e1, e2⟩ := hn
    exact ⟨x, hx, by simp [e1, e2]⟩
  have hlt := List.findIdx_lt_length_of_exists hex
  have hat := List.findIdx_getElem (w := hlt)
  have := rtFind w r A c L h o k (L.findIdx (fun x : Lt => decide (x.2.1 = o ∧ x.2.2 = k))) (Nat.le_of_lt hlt) (fun j hj hjn => by
    have := List.not_of_lt_findIdx hjn
    simpa using this) (fun _ => by simpa using hat)
  rw [if_pos hlt] at this
  exact this.mono fun _ _ ⟨he, hw⟩ => ⟨_, he, hw⟩
set_option maxRecDepth 20000 in
theorem rtSet_there (w : World) (r : Nat) (A : Option Addr) (c : Nat) (L : List Lt) (h : RT w r A c L) (due : Int) (o : ByteArray) (k : Int) (hk : 0 ≤ k) (hn : named L o k) :
    Calls Try.prog 25 #[.pointer (some ⟨r, 0, none⟩), .int .i64 due, .string o, .int .i64 k] w (RNoY w 6) := by
  have HF := Lib.hid (rtFind_yes w r A c L h o k hn)
  have hk0 : ¬ k < 0 := by omega
  have hk1 : decide (k < 0) = false := by simpa using hk0
  clear h hn
  go_enter Try.func25, Try.ntmps25
  go_wp2_with (go_at_call 48; refine HF.out.mono ?_; rintro e w' ⟨n, rfl, rfl⟩)
  go_ret
  exact ⟨rfl, rfl⟩
end Go.Proofs.Yteondokncalbnaa

namespace Go.Proofs.Yteondokncalbnaa
open Go.RowKit

set_option maxRecDepth 20000 in
set_option maxHeartbeats 8000000 in
theorem rtBytes (w : World) (r : Nat) (A : Option Addr) (c : Nat) (L : List Lt) (h : RT w r A c L) (hf : ∀ x ∈ L, FitL x) :
    Calls Try.prog 46 #[.pointer (some ⟨r, 0, none⟩)] w (BytesY w (tabB L)) := by
  have H := Lib.hid h
  have hlim := h.few
  have hcap := h.cap.1
  have hmx := h.cap.2
  unfold maxLen at hmx
  have HF := Lib.hid hf
  have HBn := Lib.hid (tmsB_le hf hlim)
  have hc0 := h.c0
  have HPu := Lib.hid (refPutUint_any w L.length (by omega))
  have hconv : IntKind.u64.wrap (L.length : Int) = (L.length : Int) := by rw [IntKind.wrap_u64]; omega
  clear h hf
  go_enter Try.func46, Try.ntmps46
  go_upto_region 2 with (go_at_call 61; refine HPu.out.mono ?_; rintro e w2 ⟨bv, rfl, ho2, hb2⟩)
  have R0 := Lib.hid ho2
  have B0 := Lib.hid hb2
  clear ho2 hb2 hc0 hconv
  rw [← tmsB_0 L] at R0
  obtain ⟨bA0, bC0, rfl⟩ := own_slice' R0.out
  go_wp2_with fail
  go_loopw [3, 4] (fun bv iv wr => ∃ (k : Nat) (bA : Option Addr) (bC : Nat), k ≤ L.length ∧ bv = .slice bA (tmsB L k).length bC ∧ iv = .int .i64 (k : Int) ∧ Hid (wr.ownsRow w.heap.size 5 1 (.slice bA (tmsB L k).length bC) (tmsB L k).length (Cd.bytesV (tmsB L k))) ∧ Hid (Below w.heap.size w wr)) (fun _ iv _ => L.length - (intOf iv).toNat)
  case atStart => exact ⟨0, bA0, bC0, by omega, rfl, rfl, R0, B0⟩
  case round =>
    obtain ⟨k, bA, bC, hk, rfl, rfl, hR, hB⟩ := hrel
    have Q0 := Lib.hid (H.out.bel hB.out)
    have hc0 := Q0.out.c0
    by_cases hlt : k < L.length
    · have hlt1 : (k : Int) < (L.length : Int) := by omega
      obtain ⟨g, og, rfl, hx, d0, _, _⟩ := Q0.out.at_ hlt
      have HLn : Hid ((tmsB L k ++ Cd.uB (Cd.zig L[k].1) ++ Cd.textB L[k].2.1.data.toList ++ Cd.uB L[k].2.2.toNat).length ≤ 100000000000) := Lib.hid (by rw [← tmsB_succ hlt]; have := HBn.out (k + 1) (by omega); omega)
      have HSu := Lib.hid (tmsB_succ hlt)
      have hfit := HF.out L[k] (List.getElem_mem hlt)
      obtain ⟨⟨hf1, hf2⟩, hf3, hf4, hf5⟩ := hfit
      have HAt : Hid (∀ W, RT W r (some ⟨g, og, none⟩) c L → W.cell? ⟨g, og + k * 3, none⟩ = some (.int .i64 L[k].1) ∧ W.cell? ⟨g, og + k * 3 + 1, none⟩ = some (.string L[k].2.1) ∧ W.cell? ⟨g, og + k * 3 + 2, none⟩ = some (.int .i64 L[k].2.2)) := Lib.hid (fun W hW => by
        obtain ⟨g', o', e, _, h1, h2, h3⟩ := hW.at_ hlt
        obtain ⟨rfl, rfl⟩ := addr_inj e
        exact ⟨h1, h2, h3⟩)
      generalize L[k] = y at *
      obtain ⟨xd, xo, xi⟩ := y
      simp only at hf1 hf2 hf3 hf4 hf5 HLn HSu HAt d0
      obtain ⟨n, rfl⟩ : ∃ n : Nat, xi = (n : Int) := ⟨xi.toNat, by omega⟩
      simp only [Int.toNat_natCast] at HLn HSu
      generalize tmsB L k = l at *
      have hwi : IntKind.u64.wrap (n : Int) = (n : Int) := by rw [IntKind.wrap_u64]; omega
      have HP2 := Lib.hid (refPutInt_any wr xd hf1 hf2)
      have HBd2 := Lib.hid ((by have h := HLn.out; rw [List.length_append, List.length_append, List.length_append] at h; omega : l.length + (Cd.uB (Cd.zig xd)).length ≤ 100000000000))
      go_upto_region 6 with (first | (go_at_call 62; refine HP2.out.mono ?_; rintro e X2a ⟨bv2, rfl, ho2, hb2⟩; obtain ⟨A2, c2, X2, l2, hl2, hrun2, hR2, hB2, hT2⟩ := more_bytes hR.out hB.out ho2 hb2 HBd2.out 47; have HL2 := Lib.hid hl2; have HRun2 := Lib.hid hrun2; have R2 := Lib.hid hR2; have B2 := Lib.hid hB2; clear hl2 hrun2 hR2 hB2 hT2 ho2 hb2) | (at_builtin; refine wpl_append_run rfl _ _ 47 rfl _ _ rfl rfl _ _ HRun2.out ?_))
      clear d0 hc0
      have Q2 := Lib.hid (H.out.bel B2.out)
      have hc0 := Q2.out.c0
      have hx2 := hx
      obtain ⟨_, d1, _⟩ := HAt.out X2 Q2.out
      have HP3 := Lib.hid (refPutText_any X2 xo (by omega))
      have HBd3 := Lib.hid ((by have h := HLn.out; rw [List.length_append, List.length_append, List.length_append] at h; rw [HL2.out, List.length_append]; omega : l2.length + (Cd.textB xo.data.toList).length ≤ 100000000000))
      go_upto_region 7 with (first | (go_at_call 63; refine HP3.out.mono ?_; rintro e X3a ⟨bv3, rfl, ho3, hb3⟩; obtain ⟨A3, c3, X3, l3, hl3, hrun3, hR3, hB3, hT3⟩ := more_bytes R2.out B2.out ho3 hb3 HBd3.out 47; have HL3 := Lib.hid hl3; have HRun3 := Lib.hid hrun3; have R3 := Lib.hid hR3; have B3 := Lib.hid hB3; clear hl3 hrun3 hR3 hB3 hT3 ho3 hb3) | (at_builtin; refine wpl_append_run rfl _ _ 47 rfl _ _ rfl rfl _ _ HRun3.out ?_))
      clear d1 hc0
      have Q3 := Lib.hid (H.out.bel B3.out)
      have hc0 := Q3.out.c0
      obtain ⟨_, _, d2⟩ := HAt.out X3 Q3.out
      have HP4 := Lib.hid (refPutUint_any X3 n (by omega))
      have HBd4 := Lib.hid ((by have h := HLn.out; rw [List.length_append, List.length_append, List.length_append] at h; rw [HL3.out, List.length_append, HL2.out, List.length_append]; omega : l3.length + (Cd.uB n).length ≤ 100000000000))
      go_upto_region 4 with (first | (go_at_call 61; refine HP4.out.mono ?_; rintro e X4a ⟨bv4, rfl, ho4, hb4⟩; obtain ⟨A4, c4, X4, l4, hl4, hrun4, hR4, hB4, hT4⟩ := more_bytes R3.out B3.out ho4 hb4 HBd4.out 47; have HL4 := Lib.hid hl4; have HRun4 := Lib.hid hrun4; have R4 := Lib.hid hR4; have B4 := Lib.hid hB4; clear hl4 hrun4 hR4 hB4 hT4 ho4 hb4) | (at_builtin; refine wpl_append_run rfl _ _ 47 rfl _ _ rfl rfl _ _ HRun4.out ?_))
      clear d2 hc0
      have HL5 : Hid (l4 = tmsB L (k + 1)) := Lib.hid (by rw [HSu.out, HL4.out, HL3.out, HL2.out])
      go_wp2_with fail
      go_roundw
      case measure => simp only [intOf]; omega
      case rel => exact ⟨k + 1, A4, c4, by omega, by rw [HL5.out], by go_num, by rw [← HL5.out]; exact R4, B4⟩
    · obtain rfl : k = L.length := by omega
      have hlt1 : ¬ (L.length : Int) < (L.length : Int) := by omega
      go_wp2_with fail
      go_ret
      have hR2 := hR.out
      rw [tmsB_all L] at hR2
      exact ⟨bA, bC, by rw [tmsB_all L]; rfl, hR2, hB.out⟩
end Go.Proofs.Yteondokncalbnaa
