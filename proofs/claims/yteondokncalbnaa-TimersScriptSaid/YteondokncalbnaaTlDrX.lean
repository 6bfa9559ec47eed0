/- TimersDropped: bytes, opened, filled, what is due (texts put together). -/
import Derived.Test.YteondokncalbnaaBlk
import Derived.Test.YteondokncalbnaaCodePuts
import Derived.Deep.AppendSrc
import Derived.Deep.Upon
import Derived.ArgAppend
import Derived.Maps.AppendAt
import Derived.Test.YteondokncalbnaaTlTwin
import Derived.Test.YteondokncalbnaaTlRead
import Derived.Test.YteondokncalbnaaTlOpen
import Derived.Test.YteondokncalbnaaTmAwake
import Derived.Deep.OwnRows
namespace Go.Proofs.Yteondokncalbnaa
open Go.RowKit

theorem bytesV_one (l : List UInt8) : ∀ u ∈ Cd.bytesV l, u.oneCell' = true := fun u hu => by
  obtain ⟨c, _, rfl⟩ := List.mem_map.1 hu
  rfl
theorem Bs.adds {w : World} {a : Addr} {n : Nat} {l : List UInt8} (h : Bs w (some a) n l) : ∀ j u, (Cd.bytesV l)[j]? = some u → w.cell? (a.add j) = some u := fun j u hj => by
  have hlt : j < l.length := by
    have := (List.getElem?_eq_some_iff.1 hj).1
    simpa [Cd.bytesV] using this
  obtain ⟨ad, e, _, hc⟩ := h.cell j hlt
  obtain rfl : a = ad := Option.some.inj e
  rw [hc]
  simp [Cd.bytesV, Cd.byteV, hlt] at hj
  rw [hj]
theorem Bs.none {w : World} {n : Nat} {l : List UInt8} (h : Bs w none n l) : n = 0 ∧ l = [] := by
  have hl : l = [] := by
    cases l with
    | nil => rfl
    | cons c t => obtain ⟨ad, e, _⟩ := h.cell 0 (by simp); cases e
  subst hl
  exact ⟨h.len, rfl⟩
theorem wpl_append_run {P : Program} {ops : Array Oper} {rest : List Oper} {o : Oper} {a : Act} {w : World} {Q : Exit → Act → World → Prop}
    (hg : o.guard = none) (s x : Operand) (t : TypeId) (hop : o.op = Op.call { callee := Callee.builtin Builtin.append, args := #[s, x], argTypes := #[t, t] }) (vs vx : Value) (hs : a.eval s = vs) (hx : a.eval x = vx)
    (v' : Value) (w' : World) (hrun : (Builtin.append_ #[t, t] o.type #[vs, vx]).run P w = .ok v' w') (hK : wpList P ops Q rest (a.put o.dst v') w') : wpList P ops Q (o :: rest) a w := by
  refine wpList_plain hg fun K' hK' => ?_
  unfold Oper.wp
  simp [execOp, hop, resolve, invoke, builtin, hs, hx, hrun, Result.andThen]
  exact hK' _ _ hK
theorem append_mine (w : World) (H : Nat) (v : Value) (l : List UInt8) (ho : w.ownsRow H 5 1 v l.length (Cd.bytesV l)) (hH : H ≤ w.heap.size) (B : Option Addr) (m c : Nat) (lb : List UInt8) (hs : Bs w B m lb) (hL : l.length + lb.length ≤ 100000000000) (ty : TypeId) :
    ∃ A' cap' w', (Builtin.append_ #[47, 47] ty #[v, .slice B m c]).run Try.prog w = .ok (.slice A' (l ++ lb).length cap') w' ∧ w'.ownsRow H 5 1 (.slice A' (l ++ lb).length cap') (l ++ lb).length (Cd.bytesV (l ++ lb)) ∧ w.grownBy w' v.ownBlock ∧
      ((Value.slice A' (l ++ lb).length cap').ownBlock = v.ownBlock ∨ (Value.slice A' (l ++ lb).length cap').ownBlock = some w.heap.size) := by
  obtain ⟨i0, hi, hz0, hz1, hz2⟩ := info_parts info_u8
  have hm := hs.len
  obtain ⟨A, cap, rfl⟩ := own_slice' ho
  by_cases h0 : m = 0
  · have hlb : lb = [] := List.eq_nil_of_length_eq_zero (by omega)
    subst hlb
    subst h0
    have hsrc : Src Try.prog i0.size 47 (.slice B 0 c) 0 [] w := by
      cases B with
      | none => exact Src.ofNil w Try.underlying47 c
      | some a => exact Src.ofSlice w Try.underlying47 a 0 c [] (by simp) (by simp) (by simp)
    have hle : l.length ≤ cap := by
      rcases ho.2 with ⟨e, e2⟩ | ⟨g, cap', cur, e, _, _, h5, _⟩
      · omega
      · injection e with _ _ e; omega
    have hrun := run_append_nothing w 47 47 ty 5 i0 Try.underlying47 hi A l.length cap hle _ hsrc
    refine ⟨A, cap, w, by rw [List.append_nil]; exact hrun, by rw [List.append_nil]; exact ho, ⟨rfl, rfl, rfl, Nat.le_refl _, fun _ _ _ => rfl⟩, .inl (by rw [List.append_nil])⟩
  · cases B with
    | none => exact absurd hs.none.1 h0
    | some a =>
      obtain ⟨v', w', hrun, r1, r2, _, r4⟩ := run_append_own_at (P := Try.prog) w H 47 ty 5 i0 (.int .u8 0) 1 1 Try.underlying47 hi hz0 hz1 hz2 rfl (by decide) _ l.length (Cd.bytesV l) ho a m c (Cd.bytesV lb) (by simp [Cd.bytesV]; omega) hs.adds (bytesV_one _) (by unfold maxLen; omega) (by omega) hH
      rw [← Cd.bytesV_append] at r1
      obtain ⟨A', c', rfl⟩ := own_slice' r1
      have e : l.length + m = (l ++ lb).length := by rw [List.length_append]; omega
      rw [e] at r1 r4 hrun
      exact ⟨A', c', w', hrun, r1, r2, r4⟩
end Go.Proofs.Yteondokncalbnaa

namespace Go.Proofs.Yteondokncalbnaa
open Go.RowKit

def tmsB (L : List Lt) (k : Nat) : List UInt8 := Cd.uB L.length ++ (L.take k).flatMap tmB
theorem tmsB_0 (L : List Lt) : tmsB L 0 = Cd.uB L.length := by simp [tmsB]
theorem tmsB_all (L : List Lt) : tmsB L L.length = tabB L := by simp [tmsB, tabB]
theorem tmsB_succ {L : List Lt} {k : Nat} (hk : k < L.length) : tmsB L (k + 1) = tmsB L k ++ Cd.uB (Cd.zig L[k].1) ++ Cd.textB L[k].2.1.data.toList ++ Cd.uB L[k].2.2.toNat := by
  unfold tmsB
  rw [List.take_succ_eq_append_getElem hk, List.flatMap_append]
  simp [tmB]
theorem tmB_len {x : Lt} (h : FitL x) : (tmB x).length ≤ 1000040 := by
  unfold tmB Cd.textB
  have h1 := Cd.uB_len10 (zig_fit h.1)
  have h2 := Cd.uB_len10 (n := x.2.1.data.toList.length) (by rw [size_toL']; have := h.2.1; omega)
  have h3 := Cd.uB_len10 (n := x.2.2.toNat) (by have := h.2.2; omega)
  simp only [List.length_append, size_toL'] at *
  have := h.2.1
  omega
theorem tmsB_len {L : List Lt} (h : ∀ x ∈ L, FitL x) (hl : L.length ≤ 4096) : ∀ k, k ≤ L.length → (tmsB L k).length ≤ 10 + 1000040 * k
  | 0, _ => by rw [tmsB_0]; have := Cd.uB_len10 (n := L.length) (by omega); omega
  | k + 1, hk => by
    have h1 := tmsB_len h hl k (by omega)
    have h2 := tmB_len (h L[k] (List.getElem_mem (by omega)))
    rw [tmsB_succ (by omega)]
    unfold tmB at h2
    simp only [List.length_append] at *
    omega
theorem tmsB_le {L : List Lt} (h : ∀ x ∈ L, FitL x) (hl : L.length ≤ 4096) (k : Nat) (hk : k ≤ L.length) : (tmsB L k).length ≤ 5000000000 := by
  have h1 := tmsB_len h hl k hk
  have h2 : 1000040 * k ≤ 1000040 * 4096 := Nat.mul_le_mul_left _ (by omega)
  omega
def BytesY (w : World) (l : List UInt8) (e : Ending) (w' : World) : Prop := ∃ A c, e = .returned (.slice A l.length c) ∧ w'.ownsRow w.heap.size 5 1 (.slice A l.length c) l.length (Cd.bytesV l) ∧ Below w.heap.size w w'
/-- bytes that a call made, behind a row of one's own -/
theorem more_bytes {w w1 w2 : World} {v v2 : Value} {l lb : List UInt8} (ho : w1.ownsRow w.heap.size 5 1 v l.length (Cd.bytesV l)) (hB : Below w.heap.size w w1) (h2 : w2.ownsRow w1.heap.size 5 1 v2 lb.length (Cd.bytesV lb)) (hb : Below w1.heap.size w1 w2) (hL : l.length + lb.length ≤ 100000000000) (ty : TypeId) :
    ∃ A' c' w3 l', l' = l ++ lb ∧ (Builtin.append_ #[47, 47] ty #[v, v2]).run Try.prog w2 = .ok (.slice A' l'.length c') w3 ∧ w3.ownsRow w.heap.size 5 1 (.slice A' l'.length c') l'.length (Cd.bytesV l') ∧ Below w.heap.size w w3 ∧ Turns (fun i => v.ownBlock = some i) w1 w3 := by
  have ho2 := own_turns ho (.of_below (S := fun _ => False) hb) (fun _ _ => id)
  obtain ⟨A2, c2, rfl⟩ := own_slice' h2
  have hs1 := hB.size
  have hs2 := hb.size
  obtain ⟨A', c', w3, hrun, h3, hg, _⟩ := append_mine w2 w.heap.size v l ho2 (by omega) A2 lb.length c2 lb (Bs.of_own h2 rfl) hL ty
  have hB2 : Below w.heap.size w w2 := below_trans' hB hb
  exact ⟨A', c', w3, _, rfl, hrun, h3, hB2.grown hg hB2.size (fun r e => (own_lo ho2 e).1), (Turns.of_below hb).then (.of_grown hg (fun r e => e))⟩
set_option maxRecDepth 20000 in
set_option maxHeartbeats 8000000 in
theorem bytesL (w : World) (t : Nat) (S : Nat → Prop) (L : List Lt) (N : Nat) (h : TL w t S L N) (hf : ∀ x ∈ L, FitL x) :
    Calls Try.prog 19 #[.pointer (some ⟨t, 0, none⟩)] w (BytesY w (tabB L)) := by
  have HT := Lib.hid h
  have hlim := h.lim
  have HF := Lib.hid hf
  have HBn := Lib.hid (tmsB_le hf hlim)
  obtain ⟨p, v, M, A, xs, nx, h1, _⟩ := h.ex
  have hm := Lib.hid (made1 w t p h1.c0)
  have HA := Lib.hid (allL w t S L N h)
  clear h h1 hf
  go_enter Try.func19, Try.ntmps19
  go_upto_region 4 with (first | (go_at_call 32; refine hm.out.mono ?_; rintro e w' ⟨rfl, rfl⟩) | (go_at_call 17; refine HA.out.mono ?_; rintro e w1 ⟨Aa, ca, rfl, ho, hb⟩))
  have HO := Lib.hid ho
  have HB := Lib.hid hb
  have hws := hb.size
  have HPu := Lib.hid (putUint_any w1 L.length (by omega))
  have hconv : IntKind.u64.wrap (L.length : Int) = (L.length : Int) := by rw [IntKind.wrap_u64]; omega
  clear ho hb HA
  go_upto_region 5 with (go_at_call 37; refine HPu.out.mono ?_; rintro e w2 ⟨bv, rfl, ho2, hb2⟩)
  have R0 := Lib.hid ho2
  have B0 := Lib.hid hb2
  have hws2 := hb2.size
  clear ho2 hb2
  rw [← tmsB_0 L] at R0
  obtain ⟨bA0, bC0, rfl⟩ := own_slice' R0.out
  go_wp2_with fail
  go_loopw [4, 18] (fun bv iv wr => ∃ (k : Nat) (bA : Option Addr) (bC : Nat), k ≤ L.length ∧ bv = .slice bA (tmsB L k).length bC ∧ iv = .int .i64 (k : Int) ∧ Hid (wr.ownsRow w1.heap.size 5 1 (.slice bA (tmsB L k).length bC) (tmsB L k).length (Cd.bytesV (tmsB L k))) ∧ Hid (Below w1.heap.size w1 wr)) (fun _ iv _ => L.length - (intOf iv).toNat)
  case atStart => exact ⟨0, bA0, bC0, by omega, rfl, rfl, R0, B0⟩
  case round =>
    obtain ⟨k, bA, bC, hk, rfl, rfl, hR, hB⟩ := hrel
    by_cases hlt : k < L.length
    · have hlt1 : (k : Int) < (L.length : Int) := by omega
      obtain ⟨g, c0, he, hvb, hg, hnc, hcm⟩ := own_at HO.out (by omega)
      injection he with he1 he2 he3
      subst he1 he3
      have hrow := own_turns HO.out (.of_below (S := fun _ => False) hB.out) (fun _ _ => id)
      obtain ⟨d0, d1, d2⟩ := ltC_cells hrow rfl k hlt
      have HLn : Hid ((tmsB L k ++ Cd.uB (Cd.zig L[k].1) ++ Cd.textB L[k].2.1.data.toList ++ Cd.uB L[k].2.2.toNat).length ≤ 100000000000) := Lib.hid (by rw [← tmsB_succ hlt]; have := HBn.out (k + 1) (by omega); omega)
      have HSu := Lib.hid (tmsB_succ hlt)
      have hfit := HF.out L[k] (List.getElem_mem hlt)
      unfold maxLen at hcm
      have HX : Hid (Blk (wr.alloc (.cells #[.int .i64 L[k].1, .string L[k].2.1, .int .i64 L[k].2.2] 31)) wr.heap.size 31 [.int .i64 L[k].1, .string L[k].2.1, .int .i64 L[k].2.2]) := Lib.hid (Blk.new wr 31 [.int .i64 L[k].1, .string L[k].2.1, .int .i64 L[k].2.2])
      have BX : Hid (Below wr.heap.size wr (wr.alloc (.cells #[.int .i64 L[k].1, .string L[k].2.1, .int .i64 L[k].2.2] 31))) := Lib.hid (Below.new wr _)
      have R1 := Lib.hid (own_turns hR.out (.of_below (S := fun _ => False) BX.out) (fun _ _ => id))
      have B1 := Lib.hid (below_trans' hB.out BX.out)
      clear hrow
      go_upto_region 8 with (fail)
      clear d0 d1 d2
      generalize wr.alloc (.cells #[.int .i64 L[k].1, .string L[k].2.1, .int .i64 L[k].2.2] 31) = X at *
      generalize wr.heap.size = bx at *
      obtain ⟨⟨hf1, hf2⟩, hf3, hf4, hf5⟩ := hfit
      generalize L[k] = x at *
      obtain ⟨xd, xo, xi⟩ := x
      simp only at hf1 hf2 hf3 hf4 hf5 HX HLn HSu
      obtain ⟨n, rfl⟩ : ∃ n : Nat, xi = (n : Int) := ⟨xi.toNat, by omega⟩
      simp only [Int.toNat_natCast] at HLn HSu
      have k0 := HX.out.cell 0
      have k1 := HX.out.cell 1
      have k2 := HX.out.cell 2
      simp only [List.getElem?_cons_succ, List.getElem?_cons_zero] at k0 k1 k2
      generalize tmsB L k = l at *
      have K1 := HX
      have hwi : IntKind.u64.wrap (n : Int) = (n : Int) := by rw [IntKind.wrap_u64]; omega
      have HP2 := Lib.hid (putInt_any X xd hf1 hf2)
      have HBd2 := Lib.hid ((by have h := HLn.out; rw [List.length_append, List.length_append, List.length_append] at h; omega : l.length + (Cd.uB (Cd.zig xd)).length ≤ 100000000000))
      go_upto_region 9 with (first | (go_at_call 38; refine HP2.out.mono ?_; rintro e X2a ⟨bv2, rfl, ho2, hb2⟩; obtain ⟨A2, c2, X2, l2, hl2, hrun2, hR2, hB2, hT2⟩ := more_bytes R1.out B1.out ho2 hb2 HBd2.out 47; have HL2 := Lib.hid hl2; have HRun2 := Lib.hid hrun2; have R2 := Lib.hid hR2; have B2 := Lib.hid hB2; have K2 := Lib.hid (K1.out.turns hT2 (fun e => own_ne_blk R1.out e K1.out (by decide) rfl)); clear hl2 hrun2 hR2 hB2 hT2 ho2 hb2) | (at_builtin; refine wpl_append_run rfl _ _ 47 rfl _ _ rfl rfl _ _ HRun2.out ?_))
      clear k0 k1 k2
      have k0 := K2.out.cell 0
      have k1 := K2.out.cell 1
      have k2 := K2.out.cell 2
      simp only [List.getElem?_cons_succ, List.getElem?_cons_zero] at k0 k1 k2
      have HP3 := Lib.hid (putText_any X2 xo (by omega))
      have HBd3 := Lib.hid ((by have h := HLn.out; rw [List.length_append, List.length_append, List.length_append] at h; rw [HL2.out, List.length_append]; omega : l2.length + (Cd.textB xo.data.toList).length ≤ 100000000000))
      go_upto_region 10 with (first | (go_at_call 39; refine HP3.out.mono ?_; rintro e X3a ⟨bv3, rfl, ho3, hb3⟩; obtain ⟨A3, c3, X3, l3, hl3, hrun3, hR3, hB3, hT3⟩ := more_bytes R2.out B2.out ho3 hb3 HBd3.out 47; have HL3 := Lib.hid hl3; have HRun3 := Lib.hid hrun3; have R3 := Lib.hid hR3; have B3 := Lib.hid hB3; have K3 := Lib.hid (K2.out.turns hT3 (fun e => own_ne_blk R2.out e K2.out (by decide) rfl)); clear hl3 hrun3 hR3 hB3 hT3 ho3 hb3) | (at_builtin; refine wpl_append_run rfl _ _ 47 rfl _ _ rfl rfl _ _ HRun3.out ?_))
      clear k0 k1 k2
      have k0 := K3.out.cell 0
      have k1 := K3.out.cell 1
      have k2 := K3.out.cell 2
      simp only [List.getElem?_cons_succ, List.getElem?_cons_zero] at k0 k1 k2
      have HP4 := Lib.hid (putUint_any X3 n (by omega))
      have HBd4 := Lib.hid ((by have h := HLn.out; rw [List.length_append, List.length_append, List.length_append] at h; rw [HL3.out, List.length_append, HL2.out, List.length_append]; omega : l3.length + (Cd.uB n).length ≤ 100000000000))
      go_upto_region 11 with (first | (go_at_call 37; refine HP4.out.mono ?_; rintro e X4a ⟨bv4, rfl, ho4, hb4⟩; obtain ⟨A4, c4, X4, l4, hl4, hrun4, hR4, hB4, hT4⟩ := more_bytes R3.out B3.out ho4 hb4 HBd4.out 47; have HL4 := Lib.hid hl4; have HRun4 := Lib.hid hrun4; have R4 := Lib.hid hR4; have B4 := Lib.hid hB4; have K4 := Lib.hid (K3.out.turns hT4 (fun e => own_ne_blk R3.out e K3.out (by decide) rfl)); clear hl4 hrun4 hR4 hB4 hT4 ho4 hb4) | (at_builtin; refine wpl_append_run rfl _ _ 47 rfl _ _ rfl rfl _ _ HRun4.out ?_))
      clear k0 k1 k2
      have k0 := K4.out.cell 0
      have k1 := K4.out.cell 1
      have k2 := K4.out.cell 2
      simp only [List.getElem?_cons_succ, List.getElem?_cons_zero] at k0 k1 k2
      have HL5 : Hid (l4 = tmsB L (k + 1)) := Lib.hid (by rw [HSu.out, HL4.out, HL3.out, HL2.out])
      clear k0 k1 k2
      go_wp2_with fail
      go_roundw
      case measure => simp only [intOf]; omega
      case rel => exact ⟨k + 1, A4, c4, by omega, by rw [HL5.out], by go_num, by rw [← HL5.out]; exact R4, B4⟩
    · obtain rfl : k = L.length := by omega
      have hlt1 : ¬ (L.length : Int) < (L.length : Int) := by omega
      go_wp2_with fail
      go_ret
      have hR2 := hR.out
      rw [tmsB_all] at hR2
      exact ⟨bA, bC, by rw [tmsB_all]; rfl, ownsRow_base' hR2 hws, below_trans' HB.out hB.out⟩
end Go.Proofs.Yteondokncalbnaa

namespace Go.Proofs.Yteondokncalbnaa
open Go.RowKit

theorem TL.fits {w : World} {t : Nat} {S : Nat → Prop} {L : List Lt} {N : Nat} (h : TL w t S L N) (hf : ∀ x ∈ L, FitL x) : rdTab (tabB L) = .ok (L, (tabB L).length) := rdTab_wrote L hf h.srt h.names h.lim
theorem tabB_le {L : List Lt} (hf : ∀ x ∈ L, FitL x) (hl : L.length ≤ 4096) : (tabB L).length ≤ 5000000000 := by
  rw [← tmsB_all]; exact tmsB_le hf hl L.length (Nat.le_refl _)
def OpenedY (w : World) (L : List Lt) (e : Ending) (w' : World) : Prop := ∃ t2 S2, e = .returned (.tuple #[.pointer (some ⟨t2, 0, none⟩), .bool true]) ∧ TL w' t2 S2 L L.length ∧ (∀ i, S2 i → w.heap.size ≤ i) ∧ Below w.heap.size w w'
theorem in_own {w : World} {H n c : Nat} {A : Option Addr} {l : List UInt8} (h : w.ownsRow H 5 1 (.slice A n c) n (Cd.bytesV l)) (hn : n = l.length) : In w A n c l := by
  subst hn
  rcases h.2 with ⟨e, h0⟩ | ⟨g, cap, cur, e, hg, hh, h1, h2, hs, ht⟩
  · injection e with e1 _ e2
    subst e1 e2
    have hl : l = [] := List.eq_nil_of_length_eq_zero h0
    subst hl
    exact ⟨Bs.nil _, (fun ad e _ => by cases e), ⟨Nat.le_refl _, Nat.zero_le _⟩⟩
  · injection e with e1 _ e2
    subst e1 e2
    exact ⟨Bs.of_own h rfl, (fun ad e _ => by injection e with e; subst e; exact (Array.getElem?_eq_some_iff.1 hh).1), h1, h2⟩
set_option maxRecDepth 20000 in
set_option maxHeartbeats 8000000 in
theorem opened_any (w : World) (t : Nat) (S : Nat → Prop) (L : List Lt) (N : Nat) (h : TL w t S L N) (hf : ∀ x ∈ L, FitL x) (hs : (tabB L).length ≤ 1000000) :
    Calls Try.prog 30 #[.pointer (some ⟨t, 0, none⟩)] w (OpenedY w L) := by
  have HR := Lib.hid (h.fits hf)
  have HBy := Lib.hid (bytesL w t S L N h hf)
  clear h hf
  go_enter Try.func30, Try.ntmps30
  go_upto_region 2 with (go_at_call 19; refine HBy.out.mono ?_; rintro e w1 ⟨A, c, rfl, ho, hb⟩)
  have HO := Lib.hid ho
  have HB := Lib.hid hb
  have HOp := open_any w1 A c (tabB L) (in_own ho rfl) hs
  unfold OpenY at HOp
  rw [HR.out] at HOp
  simp only at HOp
  have HOpe := Lib.hid HOp
  obtain ⟨l, hl⟩ : ∃ l, l = tabB L := ⟨_, rfl⟩
  rw [← hl] at HO HOpe hs
  clear ho hb HOp HR HBy
  rw [← hl]
  clear hl
  go_upto_region 3 with (go_at_call 20; refine HOpe.out.mono ?_; rintro e w2 ⟨⟨t2, S2, rfl, h2, hl2⟩, hb2⟩)
  have HT2 := Lib.hid h2
  have HL2 := Lib.hid hl2
  have HB2 := Lib.hid (below_trans' HB.out hb2)
  have HO2 := Lib.hid (own_turns HO.out (.of_below (S := fun _ => False) hb2) (fun _ _ => id))
  have hws := HB.out.size
  clear h2 hl2 hb2
  go_wp2_with fail
  go_loopw [8] (fun kv wv => ∃ (k : Nat) (xs : List Value), k ≤ l.length ∧ kv = .int .i64 (k : Int) ∧ Hid (wv.ownsRow w.heap.size 5 1 (.slice A l.length c) l.length xs) ∧ Hid (Turns (fun i => (Value.slice A l.length c).ownBlock = some i) w2 wv)) (fun kv _ => l.length - (intOf kv).toNat)
  case atStart => exact ⟨0, _, by omega, rfl, HO2, Lib.hid (Turns.refl _ _)⟩
  case round =>
    obtain ⟨k, xs, hk, rfl, hR, hT⟩ := hrel
    by_cases hkl : k < l.length
    · have hkl1 : (k : Int) < (l.length : Int) := by omega
      obtain ⟨bg, bcap, hbe, hbo, hbl, hb1, hb2⟩ := own_at hR.out (by omega)
      injection hbe with hbe1 _ hbe2
      subst hbe1 hbe2
      have hxl : k < xs.length := by have := hR.out.1; omega
      have hc := hR.out.cellAt k (by omega)
      rw [List.getElem?_eq_getElem hxl] at hc
      have hz := hR.out.frozenAt k
      have HR9 := Lib.hid ((hR.out.stored k (.int .u8 7)).1)
      have HT9 := Lib.hid (hT.out.set ⟨bg, k, none⟩ (.int .u8 7) (fun _ => rfl))
      unfold maxLen at hb2
      clear hR hT
      go_wp2_with fail
      go_roundw
      case measure => simp only [intOf]; omega
      case rel => exact ⟨k + 1, _, by omega, by go_num, HR9, HT9⟩
    · obtain rfl : k = l.length := by omega
      have hkl1 : ¬ (l.length : Int) < (l.length : Int) := by omega
      have hown := HO.out
      go_wp2_with fail
      go_ret2
      refine ⟨t2, S2, rfl, HT2.out.keep hT.out (fun i hi e => ?_), fun i hi => Nat.le_trans hws (HL2.out i hi), ?_⟩
      · have h1 := HL2.out i hi
        have h2 := (own_lo hown e).2
        omega
      · exact ((Turns.of_below (S := fun i => w.heap.size ≤ i) HB2.out).then (hT.out.mono (fun i _ e => (own_lo hown e).1))).below (Nat.le_refl _) (fun _ _ e => e)
end Go.Proofs.Yteondokncalbnaa

namespace Go.Proofs.Yteondokncalbnaa
open Go.RowKit

def bl (ts : Nat → Bool) (n : Nat) : List Value := (List.range n).map fun j => Value.bool (ts j)
def ups (ts : Nat → Bool) (i : Nat) : Nat → Bool := fun j => if j = i then true else ts j
theorem bl_len (ts : Nat → Bool) (n : Nat) : (bl ts n).length = n := by simp [bl]
theorem bl_at (ts : Nat → Bool) {n i : Nat} (h : i < n) : (bl ts n)[i]? = some (.bool (ts i)) := by simp [bl, h]
theorem bl_set (ts : Nat → Bool) (n i : Nat) : (bl ts n).set i (.bool true) = bl (ups ts i) n := by
  apply List.ext_getElem?
  intro j
  rw [List.getElem?_set]
  by_cases hj : j < n
  · rw [bl_at _ hj, bl_len]
    by_cases hi : i = j
    · subst hi; rw [if_pos rfl, if_pos hj, bl_at _ hj]; simp [ups]
    · rw [if_neg hi, bl_at _ hj]; simp [ups, Ne.symm hi]
  · rw [List.getElem?_eq_none (by rw [bl_len]; omega), List.getElem?_eq_none (l := bl (ups ts i) n) (by rw [bl_len]; omega), bl_len]
    by_cases hi : i = j
    · subst hi; simp [hj]
    · rw [if_neg hi]
theorem made_bl (n : Nat) : madeCells #[Value.bool false] n = (bl (fun _ => false) n).toArray := by
  apply Array.toList_inj.1
  rw [toList_madeCells_one]
  rw [show (bl (fun _ => false) n).toArray.toList = bl (fun _ => false) n from rfl]
  unfold bl
  rw [List.map_const', List.length_range]
theorem info_bool : (Try.prog.info? 4).map (fun i => (i.zero, i.size, i.bytes)) = some (some (.bool false), 1, 1) := by kernel_rfl

/-- behind i of the times -/
structure T7 (z g : Nat → Int) (n i : Nat) (xs : List Th) (ts : Nat → Bool) : Prop where
  sub : ∀ t ∈ xs, t.num < n ∧ t = tim z t.num
  on : ∀ j, j < n → (ts j = false ↔ ∃ t ∈ xs, t.num = j)
  late : ∀ j, j < n → (ts j = true ↔ ∃ k, k < i ∧ z j ≤ g k)
theorem T7.start {z g : Nat → Int} {n : Nat} {xs : List Th} (h : xs.Perm (tims z n)) : T7 z g n 0 xs (fun _ => false) where
  sub t ht := mem_tims.1 (h.mem_iff.1 ht)
  on j hj := ⟨fun _ => ⟨tim z j, h.mem_iff.2 (mem_tims.2 ⟨hj, rfl⟩), rfl⟩, fun _ => rfl⟩
  late j hj := ⟨(fun h => by cases h), fun ⟨k, hk, _⟩ => absurd hk (Nat.not_lt_zero _)⟩
/-- within the timers that came due -/
def T8 (ls : List Th) (ts0 ts : Nat → Bool) (k : Nat) : Prop := ∀ j, ts j = true ↔ ts0 j = true ∨ ∃ t ∈ ls.take k, t.num = j
theorem T8.start (ls : List Th) (ts : Nat → Bool) : T8 ls ts ts 0 := fun j => ⟨.inl, fun h => h.elim id fun ⟨t, ht, _⟩ => by simp at ht⟩
theorem T8.step {ls : List Th} {ts0 ts : Nat → Bool} {k : Nat} (h : T8 ls ts0 ts k) (hk : k < ls.length) : T8 ls ts0 (ups ts ls[k].num) (k + 1) := fun j => by
  unfold ups
  rw [List.take_succ_eq_append_getElem hk]
  by_cases e : j = ls[k].num
  · rw [if_pos e]
    exact ⟨fun _ => .inr ⟨ls[k], List.mem_append_right _ List.mem_cons_self, e.symm⟩, fun _ => rfl⟩
  · rw [if_neg e, h j]
    refine or_congr Iff.rfl ⟨fun ⟨t, ht, hn⟩ => ⟨t, List.mem_append_left _ ht, hn⟩, fun ⟨t, ht, hn⟩ => ?_⟩
    rcases List.mem_append.1 ht with ht | ht
    · exact ⟨t, ht, hn⟩
    · simp at ht; subst ht; exact absurd hn.symm e
theorem apart_of {now : Int} {xs0 ls xs : List Th} (ha : Apart xs0) (h : DueP now xs0 ls xs) : Apart (ls ++ xs) := ha.perm h.perm
theorem T8.fresh {z g : Nat → Int} {n i : Nat} {xs0 ls xs : List Th} {ts0 ts : Nat → Bool} {k : Nat} {now : Int} (h7 : T7 z g n i xs0 ts0) (hd : DueP now xs0 ls xs) (ha : Apart xs0) (h : T8 ls ts0 ts k) (hk : k < ls.length) :
    ls[k].num < n ∧ ls[k] = tim z ls[k].num ∧ z ls[k].num ≤ now ∧ ts ls[k].num = false := by
  have hm : ls[k] ∈ ls := List.getElem_mem hk
  have hm0 : ls[k] ∈ xs0 := hd.perm.mem_iff.1 (List.mem_append_left _ hm)
  obtain ⟨h1, h2⟩ := h7.sub _ hm0
  have hkey : ls[k].key = z ls[k].num := by
    have := congrArg Th.key h2
    exact this
  refine ⟨h1, h2, by rw [← hkey]; exact hd.due _ hm, ?_⟩
  cases hts : ts ls[k].num with
  | false => rfl
  | true =>
    exfalso
    rcases (h _).1 hts with h3 | ⟨t, ht, hn⟩
    · have := (h7.on _ h1).2 ⟨_, hm0, rfl⟩
      rw [h3] at this
      cases this
    · obtain ⟨q, hq, rfl⟩ := List.mem_iff_getElem.1 ht
      have hq1 : q < k := by simp at hq; omega
      rw [List.getElem_take] at hn
      have hd2 := apart_of ha hd
      unfold Apart at hd2
      rw [List.map_append, List.nodup_append] at hd2
      have hnd := hd2.1
      unfold List.Nodup at hnd
      rw [List.pairwise_map, List.pairwise_iff_getElem] at hnd
      exact hnd q k (by omega) hk hq1 hn
theorem DueP.prev {now : Int} {xs0 ls xs : List Th} (h : DueP now xs0 ls xs) {k : Nat} (hk : k + 1 < ls.length) : ls[k].key < ls[k + 1].key ∨ ls[k].key = ls[k + 1].key ∧ ls[k].num ≤ ls[k + 1].num := by
  have := (List.pairwise_iff_getElem.1 h.srt) k (k + 1) (by omega) hk (by omega)
  unfold Th.le at this
  omega
theorem T8.done {z g : Nat → Int} {n i : Nat} {xs0 ls xs : List Th} {ts0 ts : Nat → Bool} (h7 : T7 z g n i xs0 ts0) (hd : DueP (g i) xs0 ls xs) (ha : Apart xs0) (hl : ∀ b ∈ xs, g i < b.key) (h : T8 ls ts0 ts ls.length) :
    T7 z g n (i + 1) xs ts := by
  have h8 : ∀ j, ts j = true ↔ ts0 j = true ∨ ∃ t ∈ ls, t.num = j := fun j => by have := h j; rwa [List.take_of_length_le (Nat.le_refl _)] at this
  have hd2 := apart_of ha hd
  have hno : ∀ a ∈ ls, ∀ b ∈ xs, a.num ≠ b.num := fun a h1 b h2 => by
    unfold Apart at hd2
    rw [List.map_append, List.nodup_append] at hd2
    exact hd2.2.2 _ (List.mem_map.2 ⟨a, h1, rfl⟩) _ (List.mem_map.2 ⟨b, h2, rfl⟩)
  have hx0 : ∀ b ∈ xs, b ∈ xs0 := fun b hb => hd.perm.mem_iff.1 (List.mem_append_right _ hb)
  have hl0 : ∀ b ∈ ls, b ∈ xs0 := fun b hb => hd.perm.mem_iff.1 (List.mem_append_left _ hb)
  have hkey : ∀ b ∈ xs0, b.key = z b.num := fun b hb => congrArg Th.key (h7.sub b hb).2
  refine ⟨fun t ht => h7.sub t (hx0 t ht), fun j hj => ⟨fun hf => ?_, fun ⟨t, ht, hn⟩ => ?_⟩, fun j hj => ⟨fun ht => ?_, fun ⟨k, hk, hz⟩ => ?_⟩⟩
  · have hf0 : ts0 j = false := by
      cases h0 : ts0 j with
      | false => rfl
      | true => have := (h8 j).2 (.inl h0); rw [hf] at this; cases this
    obtain ⟨t, ht, hn⟩ := (h7.on j hj).1 hf0
    rcases List.mem_append.1 (hd.perm.mem_iff.2 ht) with ht | ht
    · have := (h8 j).2 (.inr ⟨t, ht, hn⟩); rw [hf] at this; cases this
    · exact ⟨t, ht, hn⟩
  · cases hts : ts j with
    | false => rfl
    | true =>
      exfalso
      rcases (h8 j).1 hts with h0 | ⟨a, h1, h2⟩
      · have := (h7.on j hj).2 ⟨t, hx0 t ht, hn⟩; rw [h0] at this; cases this
      · exact hno a h1 t ht (h2.trans hn.symm)
  · rcases (h8 j).1 ht with h0 | ⟨a, h1, h2⟩
    · obtain ⟨k, hk, hz⟩ := (h7.late j hj).1 h0
      exact ⟨k, by omega, hz⟩
    · exact ⟨i, by omega, by have := hd.due a h1; rw [hkey a (hl0 a h1), h2] at this; exact this⟩
  · by_cases e : k = i
    · subst e
      cases h0 : ts0 j with
      | true => exact (h8 j).2 (.inl h0)
      | false =>
        obtain ⟨t, ht, hn⟩ := (h7.on j hj).1 h0
        rcases List.mem_append.1 (hd.perm.mem_iff.2 ht) with h1 | h1
        · exact (h8 j).2 (.inr ⟨t, h1, hn⟩)
        · have := hl t h1
          rw [hkey t ht, hn] at this
          omega
    · exact (h8 j).2 (.inl ((h7.late j hj).2 ⟨k, by omega, hz⟩))

/-! ### memory -/
structure TW (w wr : World) (t p : Nat) (v : Value) (M A : Nat) (xs : List Th) (n tb : Nat) (ts : Nat → Bool) : Prop where
  tab : TabS wr t p v M A xs n
  row : Blk wr tb 4 (bl ts n)
  lo : ∀ i, TSet t p v M A i → w.heap.size ≤ i ∧ i ≠ tb
  tb : w.heap.size ≤ tb
  bel : Below w.heap.size w wr
theorem TW.make {w w1 w2 : World} {t p : Nat} {v : Value} {M A : Nat} {xs : List Th} {n : Nat} (hb : Below w.heap.size w w1) (hs : TabS w2 t p v M A xs n) (hl : ∀ i, TSet t p v M A i → w1.heap.size ≤ i) (hb2 : Below w1.heap.size w1 w2) :
    TW w (w2.alloc (.cells (madeCells #[.bool false] n) 4)) t p v M A xs n w2.heap.size (fun _ => false) :=
  ⟨hs.bel (Below.new _ _), by rw [made_bl]; exact Blk.new _ _ _, fun i hi => ⟨Nat.le_trans hb.size (hl i hi), fun e => by have := hs.lts i hi; omega⟩, Nat.le_trans hb.size hb2.size,
    (hb.trans (hb2.mono hb.size)).alloc (Nat.le_trans hb.size hb2.size) _⟩
theorem TW.bel' {w wr w' : World} {t p : Nat} {v : Value} {M A : Nat} {xs : List Th} {n tb : Nat} {ts : Nat → Bool} (h : TW w wr t p v M A xs n tb ts) (hb : Below wr.heap.size wr w') : TW w w' t p v M A xs n tb ts :=
  ⟨h.tab.bel hb, h.row.bel hb, h.lo, h.tb, h.bel.trans (hb.mono h.bel.size)⟩
theorem TW.due {w wr w' : World} {t p : Nat} {v v' : Value} {M A : Nat} {xs zs : List Th} {n tb : Nat} {ts : Nat → Bool} (h : TW w wr t p v M A xs n tb ts) (hs : TabS w' t p v' M A zs n) (ho : v'.ownBlock = v.ownBlock) (ht : Turns (TSet t p v M A) wr w') :
    TW w w' t p v' M A zs n tb ts :=
  ⟨hs, h.row.turns ht (fun e => (h.lo _ e).2 rfl), fun i hi => h.lo i (hi.imp id (Or.imp id fun hs => (HS.own ho).1 hs)), h.tb, h.bel.trans (ht.below h.bel.size fun i _ hs => (h.lo i hs).1)⟩
theorem TW.mark {w wr : World} {t p : Nat} {v : Value} {M A : Nat} {xs : List Th} {n tb : Nat} {ts : Nat → Bool} (h : TW w wr t p v M A xs n tb ts) (j : Nat) :
    TW w (wr.setCell ⟨tb, j, none⟩ (.bool true)) t p v M A xs n tb (ups ts j) :=
  ⟨h.tab.keep (Turns.of_set (S := fun i => i = tb) wr ⟨tb, j, none⟩ (.bool true) rfl) (fun i hi e => (h.lo i hi).2 e), by have := h.row.set j (.bool true); rwa [bl_set] at this, h.lo, h.tb,
    h.bel.trans ((Turns.of_set (S := fun i => i = tb) wr ⟨tb, j, none⟩ (.bool true) rfl).below h.bel.size (fun i _ e => by have := h.tb; omega))⟩
theorem tim_cells {w : World} {base n g cap : Nat} {ls : List Th} (h : w.ownsRow base 31 3 (.slice (some ⟨g, 0, none⟩) n cap) n (ls.flatMap tmC)) (hn : ls.length = n) {z : Nat → Int} (k : Nat) (hk : k < ls.length) (hx : ls[k] = tim z ls[k].num) :
    w.cell? ⟨g, k * 3, none⟩ = some (.int .i64 (z ls[k].num)) ∧ w.cell? ⟨g, k * 3 + 1, none⟩ = some (.string (ownr ls[k].num)) ∧ w.cell? ⟨g, k * 3 + 2, none⟩ = some (.int .i64 (ls[k].num : Int)) := by
  have hc : tmC ls[k] = [.int .i64 (z ls[k].num), .string (ownr ls[k].num), .int .i64 (ls[k].num : Int)] := by
    conv => lhs; rw [hx]
    rfl
  have hq : ∀ j, j < 3 → w.cell? ⟨g, k * 3 + j, none⟩ = (tmC ls[k])[j]? := fun j hj => by
    rw [h.cellAt _ (by omega), flat_get tmC 3 tmC_len ls k j hj, List.getElem?_eq_getElem hk]
    rfl
  rw [hc] at hq
  have h0 := hq 0 (by omega)
  rw [Nat.add_zero] at h0
  exact ⟨h0, hq 1 (by omega), hq 2 (by omega)⟩
end Go.Proofs.Yteondokncalbnaa

namespace Go.Proofs.Yteondokncalbnaa
open Go.RowKit

def tmL (z : Nat → Int) (n : Nat) : List Lt := (List.range n).map (fun j : Nat => (z j, ownr j, (j : Int)))
def FilledY (w : World) (z : Nat → Int) (n : Nat) (e : Ending) (w' : World) : Prop := ∃ t S L, e = .returned (.tuple #[.pointer (some ⟨t, 0, none⟩), .bool true]) ∧ TL w' t S L n ∧ L.Perm (tmL z n) ∧ (∀ i, S i → w.heap.size ≤ i) ∧ Below w.heap.size w w'
theorem filledL (w : World) (a : Option Addr) (n cap : Nat) (z : Nat → Int) (h : Ints w a n z) (hn : n ≤ 1000) :
    Calls Try.prog 10 #[.slice a n cap] w (FilledY w z n) := by
  refine (filled_any w a n cap z h hn).mono ?_
  rintro e w' ⟨t, rfl, p, v, M, A, xs, hs, hp, hl, hb⟩
  obtain ⟨ys, hy⟩ := sortedT_ex xs
  have hk : ∀ u ∈ xs, ∃ o k, u.v = timV u.key o k ∧ 0 ≤ k := fun u hu => by
    obtain ⟨_, e⟩ := mem_tims.1 (hp.mem_iff.1 hu)
    rw [e]
    exact ⟨_, _, rfl, by omega⟩
  have hT : TIs xs n (ys.map lt) := ⟨⟨ys, hy, rfl⟩, hk, fun u hu => (mem_tims.1 (hp.mem_iff.1 hu)).1, hs.st.apart⟩
  have hlen : (ys.map lt).length = n := by rw [List.length_map, hy.1.length_eq, List.length_map, hp.length_eq, tims_len]
  refine ⟨t, TSet t p v M A, ys.map lt, rfl, ⟨⟨p, v, M, A, xs, n, hs, hT, Nat.le_refl _, fun _ => Iff.rfl⟩, by omega⟩, ?_, hl, hb⟩
  refine (hy.1.map lt).trans ?_
  rw [List.map_map]
  refine (hp.map _).trans (List.Perm.of_eq ?_)
  unfold tims tmL
  rw [List.map_map]
  rfl
/-- what is filled in -/
structure Fill (z : Nat → Int) (n : Nat) (L : List Lt) : Prop where
  perm : L.Perm (tmL z n)
  srt : SrtL L
theorem Fill.is {z : Nat → Int} {n : Nat} {L : List Lt} (h : Fill z n L) {x : Lt} : x ∈ L ↔ ∃ j : Nat, j < n ∧ x = (z j, ownr j, (j : Int)) := by
  rw [h.perm.mem_iff]
  unfold tmL
  rw [List.mem_map]
  constructor
  · rintro ⟨j, hj, rfl⟩; exact ⟨j, List.mem_range.1 hj, rfl⟩
  · rintro ⟨j, hj, rfl⟩; exact ⟨j, List.mem_range.2 hj, rfl⟩
def ownI (k : Int) : ByteArray := if k.tmod 2 = 0 then ⟨#[97]⟩ else ⟨#[98]⟩
theorem ownr_I (j : Nat) : ownI (j : Int) = ownr j := by
  have e : (j : Int).tmod 2 = ((j % 2 : Nat) : Int) := by rw [Int.tmod_eq_emod_of_nonneg (by omega)]; omega
  unfold ownI ownr
  rw [e]
  by_cases h : j % 2 = 1
  · rw [if_neg (by omega), if_pos h]
  · rw [if_pos (by omega), if_neg h]
def outL (out : Nat → Bool) (L : List Lt) : List Lt := L.filter (fun x => !out x.2.2.toNat)
abbrev updB (out : Nat → Bool) (k : Nat) : Nat → Bool := ups out k
theorem named_out {z : Nat → Int} {n : Nat} {L : List Lt} (h : Fill z n L) (out : Nat → Bool) (k : Int) : named (outL out L) (ownI k) k ↔ (0 ≤ k ∧ k < (n : Int)) ∧ out k.toNat = false := by
  constructor
  · rintro ⟨x, hx, _, e⟩
    obtain ⟨h1, h2⟩ := List.mem_filter.1 hx
    obtain ⟨j, hj, rfl⟩ := h.is.1 h1
    simp only at e h2
    subst e
    refine ⟨by omega, ?_⟩
    simpa using h2
  · rintro ⟨⟨h1, h2⟩, h3⟩
    obtain ⟨j, rfl⟩ : ∃ j : Nat, k = (j : Int) := ⟨k.toNat, by omega⟩
    refine ⟨(z j, ownr j, (j : Int)), List.mem_filter.2 ⟨h.is.2 ⟨j, by omega, rfl⟩, ?_⟩, (ownr_I j).symm, rfl⟩
    simpa using h3
theorem drop_out {z : Nat → Int} {n : Nat} {L : List Lt} (h : Fill z n L) (out : Nat → Bool) (k : Nat) : dropL (outL out L) (ownI (k : Int)) (k : Int) = outL (updB out k) L := by
  unfold dropL outL
  rw [List.filter_filter]
  refine List.filter_congr (fun x hx => ?_)
  obtain ⟨j, hj, rfl⟩ := h.is.1 hx
  by_cases e : j = k
  · subst e
    simp [otherB, ups, ownr_I]
  · have : ¬ (j : Int) = (k : Int) := by omega
    simp [otherB, ups, e, this]
def aliveB (all : Bool) (out : Nat → Bool) (j : Nat) : Bool := !out j && (!all || decide (j % 2 = 0))
def aliveL (all : Bool) (out : Nat → Bool) (L : List Lt) : List Lt := L.filter (fun x => aliveB all out x.2.2.toNat)
theorem alive_all {z : Nat → Int} {n : Nat} {L : List Lt} (h : Fill z n L) (out : Nat → Bool) : dropA (outL out L) ⟨#[98]⟩ = aliveL true out L := by
  unfold dropA outL aliveL
  rw [List.filter_filter]
  refine List.filter_congr (fun x hx => ?_)
  obtain ⟨j, hj, rfl⟩ := h.is.1 hx
  have hne : (⟨#[97]⟩ : ByteArray) ≠ ⟨#[98]⟩ := by decide
  unfold owB aliveB ownr
  by_cases e : j % 2 = 1
  · have : ¬ j % 2 = 0 := by omega
    simp [e]
  · have e2 : j % 2 = 0 := by omega
    simp [e2, hne]
theorem alive_not (out : Nat → Bool) (L : List Lt) : outL out L = aliveL false out L := by
  unfold outL aliveL aliveB
  simp
/-- the greatest of the times -/
def mx (g : Nat → Int) : Nat → Int
  | 0 => -9223372036854775808
  | k + 1 => max (mx g k) (g k)
theorem lt_split {L : List Lt} (h : SrtL L) {a b : Int} (hab : a ≤ b) : ltE a L ++ ltE b (ltG a L) = ltE b L ∧ ltG b (ltG a L) = ltG b L := by
  induction L with
  | nil => exact ⟨rfl, rfl⟩
  | cons x L ih =>
    obtain ⟨h1, h2⟩ := List.pairwise_cons.1 h
    obtain ⟨i1, i2⟩ := ih h2
    by_cases e : x.1 ≤ a
    · have e2 : ¬ a < x.1 := by omega
      have e3 : x.1 ≤ b := by omega
      have e4 : ¬ b < x.1 := by omega
      unfold ltE ltG at *
      rw [List.filter_cons_of_pos (by simpa using e), List.filter_cons_of_neg (by simpa using e2), List.filter_cons_of_pos (by simpa using e3), List.filter_cons_of_neg (by simpa using e4), List.cons_append, i1]
      exact ⟨rfl, i2⟩
    · have hall : ∀ y ∈ x :: L, a < y.1 := fun y hy => by
        rcases List.mem_cons.1 hy with rfl | hy
        · omega
        · have := h1 y hy; omega
      have e1 : ltE a (x :: L) = [] := List.filter_eq_nil_iff.2 (fun y hy => by have := hall y hy; simp; omega)
      have e2 : ltG a (x :: L) = x :: L := List.filter_eq_self.2 (fun y hy => by have := hall y hy; simp; omega)
      rw [e1, e2]
      exact ⟨rfl, rfl⟩
theorem srt_filter {L : List Lt} (h : SrtL L) (P : Lt → Bool) : SrtL (L.filter P) := List.Pairwise.filter P h
def oneL (g : Nat → Int) (L : List Lt) (i : Nat) : List Lt := if i = 0 then [] else ltE (mx g i) L
def restL (g : Nat → Int) (L : List Lt) (i : Nat) : List Lt := if i = 0 then L else ltG (mx g i) L
theorem one_step (g : Nat → Int) {L : List Lt} (h : SrtL L) (i : Nat) : oneL g L i ++ ltE (mx g (i + 1)) (restL g L i) = oneL g L (i + 1) ∧ ltG (mx g (i + 1)) (restL g L i) = restL g L (i + 1) := by
  unfold oneL restL
  rw [if_neg (Nat.succ_ne_zero i), if_neg (Nat.succ_ne_zero i)]
  by_cases e : i = 0
  · subst e
    rw [if_pos rfl, if_pos rfl]
    exact ⟨rfl, rfl⟩
  · rw [if_neg e, if_neg e]
    exact lt_split h (by rw [mx]; omega)
def cntB (all : Bool) (out : Nat → Bool) (z : Nat → Int) (m : Nat) (last : Int) (j : Nat) : Bool := aliveB all out j && decide (0 < m) && decide (z j ≤ last)
def cntN (all : Bool) (out : Nat → Bool) (z : Nat → Int) (m : Nat) (last : Int) (i : Nat) : Nat := ((List.range i).filter (cntB all out z m last)).length
theorem cntN_succ (all : Bool) (out : Nat → Bool) (z : Nat → Int) (m : Nat) (last : Int) (i : Nat) : cntN all out z m last (i + 1) = cntN all out z m last i + (if cntB all out z m last i then 1 else 0) := by
  unfold cntN
  rw [List.range_succ, List.filter_append, List.length_append]
  congr 1
  by_cases h : cntB all out z m last i = true
  · simp [h]
  · simp [h]
theorem cntN_le (all : Bool) (out : Nat → Bool) (z : Nat → Int) (m : Nat) (last : Int) (i : Nat) : cntN all out z m last i ≤ i := by
  unfold cntN
  have := List.length_filter_le (cntB all out z m last) (List.range i)
  rw [List.length_range] at this
  exact this
theorem cnt_one {z : Nat → Int} {n : Nat} {L : List Lt} (h : Fill z n L) (all : Bool) (out : Nat → Bool) (g : Nat → Int) (m : Nat) : cntN all out z m (mx g m) n = (oneL g (aliveL all out L) m).length := by
  unfold oneL
  by_cases e : m = 0
  · subst e
    rw [if_pos rfl]
    unfold cntN
    have : (List.range n).filter (cntB all out z 0 (mx g 0)) = [] := List.filter_eq_nil_iff.2 (fun j _ => by simp [cntB])
    rw [this]
    rfl
  · rw [if_neg e]
    have hm : 0 < m := by omega
    unfold ltE aliveL cntN
    rw [List.filter_filter]
    have hp := (h.perm.filter (fun x => decide (x.1 ≤ mx g m) && aliveB all out x.2.2.toNat)).length_eq
    rw [hp]
    unfold tmL
    rw [List.filter_map, List.length_map]
    congr 1
    refine List.filter_congr (fun j _ => ?_)
    simp [cntB, hm, Bool.and_comm]
theorem mx_in {g : Nat → Int} {q : Nat} (h : ∀ i, i < q → -9223372036854775808 ≤ g i ∧ g i ≤ 9223372036854775807) : ∀ i, i ≤ q → -9223372036854775808 ≤ mx g i ∧ mx g i ≤ 9223372036854775807
  | 0, _ => by unfold mx; omega
  | i + 1, hi => by
    have h1 := mx_in h i (by omega)
    have h2 := h i (by omega)
    unfold mx
    omega
theorem tmB_len2 {x : Lt} (h : FitL x) (ho : x.2.1.size ≤ 1) : (tmB x).length ≤ 31 := by
  unfold tmB Cd.textB
  have h1 := Cd.uB_len10 (zig_fit h.1)
  have h2 := Cd.uB_len10 (n := x.2.1.data.toList.length) (by rw [size_toL']; have := h.2.1; omega)
  have h3 := Cd.uB_len10 (n := x.2.2.toNat) (by have := h.2.2; omega)
  simp only [List.length_append, size_toL'] at *
  omega
theorem tabB_len2 {L : List Lt} (h : ∀ x ∈ L, FitL x ∧ x.2.1.size ≤ 1) (hl : L.length ≤ 1000) : (tabB L).length ≤ 100000 := by
  have hf : ∀ (M : List Lt), (∀ x ∈ M, FitL x ∧ x.2.1.size ≤ 1) → (M.flatMap tmB).length ≤ 31 * M.length := by
    intro M
    induction M with
    | nil => intro _; simp
    | cons x M ih =>
      intro hM
      have h1 := tmB_len2 (hM x List.mem_cons_self).1 (hM x List.mem_cons_self).2
      have h2 := ih (fun y hy => hM y (List.mem_cons_of_mem _ hy))
      rw [List.flatMap_cons, List.length_append, List.length_cons]
      omega
  have h1 := hf L h
  have h2 := Cd.uB_len10 (n := L.length) (by omega)
  unfold tabB
  rw [List.length_append]
  omega
/-- those that are alive -/
structure Alv (z : Nat → Int) (n : Nat) (all : Bool) (out : Nat → Bool) (L2 : List Lt) : Prop where
  mem : ∀ x ∈ L2, ∃ j : Nat, j < n ∧ x = (z j, ownr j, (j : Int)) ∧ aliveB all out j = true
  srt : SrtL L2
  len : L2.length ≤ n
theorem Fill.alv {z : Nat → Int} {n : Nat} {L : List Lt} (h : Fill z n L) (all : Bool) (out : Nat → Bool) : Alv z n all out (aliveL all out L) where
  mem x hx := by
    obtain ⟨h1, h2⟩ := List.mem_filter.1 hx
    obtain ⟨j, hj, rfl⟩ := h.is.1 h1
    exact ⟨j, hj, rfl, by simpa using h2⟩
  srt := srt_filter h.srt _
  len := by
    have h1 := List.length_filter_le (fun x : Lt => aliveB all out x.2.2.toNat) L
    have h2 := h.perm.length_eq
    unfold tmL at h2
    rw [List.length_map, List.length_range] at h2
    unfold aliveL
    omega
theorem own_small (j : Nat) : (ownr j).size = 1 := by unfold ownr; split <;> rfl
theorem Alv.fit {z : Nat → Int} {n : Nat} {all : Bool} {out : Nat → Bool} {L2 : List Lt} (h : Alv z n all out L2) (hz : ∀ i, i < n → -9223372036854775808 ≤ z i ∧ z i ≤ 9223372036854775807) (hn : n ≤ 1000) : ∀ x ∈ L2, FitL x ∧ x.2.1.size ≤ 1 := fun x hx => by
  obtain ⟨j, hj, rfl, _⟩ := h.mem x hx
  have h1 := hz j hj
  have h2 := own_small j
  refine ⟨⟨h1, ?_, ?_, ?_⟩, ?_⟩
  · show (ownr j).size ≤ _; omega
  · show (0 : Int) ≤ (j : Int); omega
  · show (j : Int) ≤ _; omega
  · show (ownr j).size ≤ 1; omega
theorem oneL_0 (g : Nat → Int) (L : List Lt) : oneL g L 0 = [] := rfl
theorem restL_0 (g : Nat → Int) (L : List Lt) : restL g L 0 = L := rfl
theorem oneL_mem {g : Nat → Int} {L : List Lt} {i : Nat} {x : Lt} (h : x ∈ oneL g L i) : x ∈ L := by
  unfold oneL at h
  split at h
  · simp at h
  · exact (List.mem_filter.1 h).1
theorem oneL_len (g : Nat → Int) (L : List Lt) (i : Nat) : (oneL g L i).length ≤ L.length := by
  unfold oneL
  split
  · simp
  · exact List.length_filter_le _ _
end Go.Proofs.Yteondokncalbnaa

namespace Go.Proofs.Yteondokncalbnaa
open Go.RowKit

/-- the table under way and the row of what was due -/
structure DuW (W5 : World) (t n : Nat) (S3 : Nat → Prop) (wr : World) (S' : Nat → Prop) (R : List Lt) (v : Value) (O : List Lt) : Prop where
  tab : TL wr t S' R n
  new : ∀ i, S' i → S3 i ∨ W5.heap.size ≤ i
  turn : Turns S3 W5 wr
  row : wr.ownsRow W5.heap.size 31 3 v O.length (O.flatMap ltC)
  ne : ∀ g, v.ownBlock = some g → ¬ S' g
theorem DuW.start {W5 : World} {t n : Nat} {S3 : Nat → Prop} {L : List Lt} (h : TL W5 t S3 L n) : DuW W5 t n S3 W5 S3 L (.slice none 0 0) [] :=
  ⟨h, fun _ hi => .inl hi, Turns.refl _ _, ⟨rfl, .inl ⟨rfl, rfl⟩⟩, fun g e => by cases e⟩
theorem own_geT {w : World} {base e size n g : Nat} {v : Value} {xs : List Value} (h : w.ownsRow base e size v n xs) (hg : v.ownBlock = some g) : base ≤ g ∧ g < w.heap.size := by
  rcases h.2 with ⟨e, _⟩ | ⟨g', cap, cur, e, h1, h2, _⟩
  · rw [e] at hg; cases hg
  · rw [e] at hg; injection hg with hg; subst hg
    exact ⟨h1, (Array.getElem?_eq_some_iff.1 h2).1⟩
theorem ltC_one (D : List Lt) : ∀ u ∈ D.flatMap ltC, u.oneCell' = true := fun u hu => by
  obtain ⟨x, _, h⟩ := List.mem_flatMap.1 hu
  unfold ltC at h
  simp only [List.mem_cons, List.not_mem_nil, or_false] at h
  rcases h with rfl | rfl | rfl <;> rfl
theorem append_tms (w : World) (H : Nat) (v : Value) (O D : List Lt) (hH : H ≤ w.heap.size) (ho : w.ownsRow H 31 3 v O.length (O.flatMap ltC)) (K : Nat) (B : Option Addr) (c : Nat) (hd : w.ownsRow K 31 3 (.slice B D.length c) D.length (D.flatMap ltC)) (hL : O.length + D.length ≤ 100000) (ty : TypeId) :
    ∃ A' c' w', (Builtin.append_ #[28, 28] ty #[v, .slice B D.length c]).run Try.prog w = .ok (.slice A' (O ++ D).length c') w' ∧ w'.ownsRow H 31 3 (.slice A' (O ++ D).length c') (O ++ D).length ((O ++ D).flatMap ltC) ∧ w.grownBy w' v.ownBlock ∧
      ((Value.slice A' (O ++ D).length c').ownBlock = v.ownBlock ∨ (Value.slice A' (O ++ D).length c').ownBlock = some w.heap.size) := by
  obtain ⟨i0, hi, hz0, hz1, hz2⟩ := info_parts info_tmr
  by_cases h0 : D = []
  · subst h0
    obtain ⟨A, cap, rfl⟩ := own_slice' ho
    have hsrc : Src Try.prog i0.size 28 (.slice B 0 c) 0 [] w := by
      cases B with
      | none => exact Src.ofNil w Try.underlying28 c
      | some a => exact Src.ofSlice w Try.underlying28 a 0 c [] (by simp) (by simp) (by simp)
    have hle : O.length ≤ cap := by
      rcases ho.2 with ⟨e, e2⟩ | ⟨g, cap', cur, e, _, _, h5, _⟩
      · omega
      · injection e with _ _ e; omega
    have hrun := run_append_nothing w 28 28 ty 31 i0 Try.underlying28 hi A O.length cap hle _ hsrc
    refine ⟨A, cap, w, by rw [List.append_nil]; exact hrun, by rw [List.append_nil]; exact ho, ⟨rfl, rfl, rfl, Nat.le_refl _, fun _ _ _ => rfl⟩, .inl (by rw [List.append_nil])⟩
  · have hlen : 0 < D.length := List.length_pos_iff.2 h0
    rcases hd.2 with ⟨e, e2⟩ | ⟨g, cap', cur, e, _, _, h5, _⟩
    · omega
    · injection e with eB _ ec
      subst eB ec
      obtain ⟨v', w', hrun, r1, r2, _, r4⟩ := run_append_own_at (P := Try.prog) w H 28 ty 31 i0 (.agg #[.int .i64 0, .string ⟨#[]⟩, .int .i64 0]) 3 32 Try.underlying28 hi hz0 hz1 hz2 rfl (by decide) _ O.length (O.flatMap ltC) ho ⟨g, 0, none⟩ D.length c (D.flatMap ltC) (flat_len ltC 3 ltC_len D)
        (fun j u hu => by
          have hj : j < D.length * 3 := by
            have := (List.getElem?_eq_some_iff.1 hu).1
            rw [flat_len ltC 3 ltC_len] at this; exact this
          have := hd.cellAt j hj
          have e : (⟨g, 0, none⟩ : Addr).add j = ⟨g, j, none⟩ := by simp [Addr.add]; omega
          rw [e, this, hu]) (ltC_one D) (by unfold maxLen; omega) (by omega) hH
      rw [← List.flatMap_append] at r1
      obtain ⟨A', c', rfl⟩ := own_slice' r1
      have e : O.length + D.length = (O ++ D).length := by rw [List.length_append]
      rw [e] at r1 r4 hrun
      exact ⟨A', c', w', hrun, r1, r2, r4⟩
theorem DuW.step {W5 wr w1 : World} {t n : Nat} {S3 S' S'' : Nat → Prop} {R R' O D : List Lt} {v : Value} (h : DuW W5 t n S3 wr S' R v O) {B : Option Addr} {c : Nat}
    (hd : w1.ownsRow wr.heap.size 31 3 (.slice B D.length c) D.length (D.flatMap ltC)) (h2 : TL w1 t S'' R' n) (g : Grows wr S' S'') (k : Turns S' wr w1) (hL : O.length + D.length ≤ 100000) (ty : TypeId) :
    ∃ A' c' w2, (Builtin.append_ #[28, 28] ty #[v, .slice B D.length c]).run Try.prog w1 = .ok (.slice A' (O ++ D).length c') w2 ∧ DuW W5 t n S3 w2 S'' R' (.slice A' (O ++ D).length c') (O ++ D) := by
  have hs := h.turn.size
  have ho := own_turns h.row k h.ne
  obtain ⟨A', c', w2, hrun, r1, r2, r3⟩ := append_tms w1 W5.heap.size v O D (Nat.le_trans hs k.size) ho _ B c hd hL ty
  have hne : ∀ g, v.ownBlock = some g → ¬ S'' g := fun b hb hS => by
    rcases g b hS with e | e
    · exact h.ne b hb e
    · have := (own_geT h.row hb).2; omega
  have tg : Turns (fun i => v.ownBlock = some i) w1 w2 := Turns.of_grown r2 (fun r e => e)
  refine ⟨A', c', w2, hrun, h2.keep tg (fun i hi e => hne i e hi), fun i hi => ?_, ?_, r1, fun b hb hS => ?_⟩
  · rcases g i hi with e | e
    · exact h.new i e
    · exact .inr (by omega)
  · refine (h.turn.trans k (fun i hi e => ?_)).trans tg (fun i hi e => ?_)
    · rcases h.new i e with e | e
      · exact e
      · omega
    · have := (own_geT h.row e).1; omega
  · rcases r3 with e | e
    · exact hne b (e ▸ hb) hS
    · rw [e] at hb
      injection hb with hb
      have := h2.lts b hS
      omega
end Go.Proofs.Yteondokncalbnaa
