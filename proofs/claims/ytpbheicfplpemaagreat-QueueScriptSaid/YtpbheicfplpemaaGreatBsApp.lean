/- Bytes appended to a row of the call's own (for any seat). -/
import Derived.Test.YtpbheicfplpemaaGreatBlk
import Derived.Test.YtpbheicfplpemaaGreatCodePuts
import Derived.Deep.AppendSrc
import Derived.Deep.Upon
import Derived.ArgAppend
import Derived.Maps.AppendAt
namespace Go.Proofs.YtpbheicfplpemaaGreat
open Go.RowKit

theorem bytesV_one (l : List UInt8) : ∀ u ∈ Cd.bytesV l, u.oneCell' = true := fun u hu => by
  obtain ⟨c, _, rfl⟩ := List.mem_map.1 hu
  rfl
theorem Bs.adds {w : World} {a : Addr} {n : Nat} {l : List UInt8} (h : Bs w (some a) n l) : ∀ j u, (Cd.bytesV l)[j]? = some u → w.cell? (a.add j) = some u := fun j u hj => by
  have hlt : j < l.length := by
    have := (List.getElem?_eq_some_iff.1 hj).1
    simpa [Cd.bytesV] using this
  obtain ⟨ad, e, _, hc⟩ := h.cell j hlt
  obtain rfl : a = ad := Option.some.inj e
  rw [hc]
  simp [Cd.bytesV, Cd.byteV, hlt] at hj
  rw [hj]
theorem Bs.none {w : World} {n : Nat} {l : List UInt8} (h : Bs w none n l) : n = 0 ∧ l = [] := by
  have hl : l = [] := by
    cases l with
    | nil => rfl
    | cons c t => obtain ⟨ad, e, _⟩ := h.cell 0 (by simp); cases e
  subst hl
  exact ⟨h.len, rfl⟩
theorem wpl_append_run {P : Program} {ops : Array Oper} {rest : List Oper} {o : Oper} {a : Act} {w : World} {Q : Exit → Act → World → Prop}
    (hg : o.guard = none) (s x : Operand) (t : TypeId) (hop : o.op = Op.call { callee := Callee.builtin Builtin.append, args := #[s, x], argTypes := #[t, t] }) (vs vx : Value) (hs : a.eval s = vs) (hx : a.eval x = vx)
    (v' : Value) (w' : World) (hrun : (Builtin.append_ #[t, t] o.type #[vs, vx]).run P w = .ok v' w') (hK : wpList P ops Q rest (a.put o.dst v') w') : wpList P ops Q (o :: rest) a w := by
  refine wpList_plain hg fun K' hK' => ?_
  unfold Oper.wp
  simp [execOp, hop, resolve, invoke, builtin, hs, hx, hrun, Result.andThen]
  exact hK' _ _ hK
theorem append_mine (w : World) (H : Nat) (v : Value) (l : List UInt8) (ho : w.ownsRow H 5 1 v l.length (Cd.bytesV l)) (hH : H ≤ w.heap.size) (B : Option Addr) (m c : Nat) (lb : List UInt8) (hs : Bs w B m lb) (hL : l.length + lb.length ≤ 100000000000) (ty : TypeId) :
    ∃ A' cap' w', (Builtin.append_ #[22, 22] ty #[v, .slice B m c]).run Tryz.prog w = .ok (.slice A' (l ++ lb).length cap') w' ∧ w'.ownsRow H 5 1 (.slice A' (l ++ lb).length cap') (l ++ lb).length (Cd.bytesV (l ++ lb)) ∧ w.grownBy w' v.ownBlock ∧
      ((Value.slice A' (l ++ lb).length cap').ownBlock = v.ownBlock ∨ (Value.slice A' (l ++ lb).length cap').ownBlock = some w.heap.size) := by
  obtain ⟨i0, hi, hz0, hz1, hz2⟩ := info_parts info_u8
  have hm := hs.len
  obtain ⟨A, cap, rfl⟩ := own_slice' ho
  by_cases h0 : m = 0
  · have hlb : lb = [] := List.eq_nil_of_length_eq_zero (by omega)
    subst hlb
    subst h0
    have hsrc : Src Tryz.prog i0.size 22 (.slice B 0 c) 0 [] w := by
      cases B with
      | none => exact Src.ofNil w Tryz.underlying22 c
      | some a => exact Src.ofSlice w Tryz.underlying22 a 0 c [] (by simp) (by simp) (by simp)
    have hle : l.length ≤ cap := by
      rcases ho.2 with ⟨e, e2⟩ | ⟨g, cap', cur, e, _, _, h5, _⟩
      · omega
      · injection e with _ _ e; omega
    have hrun := run_append_nothing w 22 22 ty 5 i0 Tryz.underlying22 hi A l.length cap hle _ hsrc
    refine ⟨A, cap, w, by rw [List.append_nil]; exact hrun, by rw [List.append_nil]; exact ho, ⟨rfl, rfl, rfl, Nat.le_refl _, fun _ _ _ => rfl⟩, .inl (by rw [List.append_nil])⟩
  · cases B with
    | none => exact absurd hs.none.1 h0
    | some a =>
      obtain ⟨v', w', hrun, r1, r2, _, r4⟩ := run_append_own_at (P := Tryz.prog) w H 22 ty 5 i0 (.int .u8 0) 1 1 Tryz.underlying22 hi hz0 hz1 hz2 rfl (by decide) _ l.length (Cd.bytesV l) ho a m c (Cd.bytesV lb) (by simp [Cd.bytesV]; omega) hs.adds (bytesV_one _) (by unfold maxLen; omega) (by omega) hH
      rw [← Cd.bytesV_append] at r1
      obtain ⟨A', c', rfl⟩ := own_slice' r1
      have e : l.length + m = (l ++ lb).length := by rw [List.length_append]; omega
      rw [e] at r1 r4 hrun
      exact ⟨A', c', w', hrun, r1, r2, r4⟩
end Go.Proofs.YtpbheicfplpemaaGreat
