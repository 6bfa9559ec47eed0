/- bytes of a text; bytes behind a row of the call's own. -/
import Derived.Test.YtoljnklceghcdaaDkSteps
import Derived.Lib.ConvBytes
namespace Go.Proofs.Ytoljnklceghcdaa
open Go.RowKit Go.Maps Go.Sort Go.Shelf
variable {Xs : Nat → Prop}

/-- '[]byte(s)' -/
theorem conv_bytes (w : World) (l : List UInt8) (h : l.length ≤ 100000000) :
    ∃ c w', (convert 9 29 (strV l)).run Try.prog w = .ok (.slice (some ⟨w.heap.size, 0, none⟩) l.length c) w' ∧ Bs w' (some ⟨w.heap.size, 0, none⟩) l.length l ∧ Below w.heap.size w w' ∧ w'.heap.size = w.heap.size + 1 ∧ l.length ≤ c ∧ c ≤ maxLen ∧ (∀ i, i < l.length → w'.frozen? ⟨w.heap.size, i, none⟩ = false) := by
  have hs : (⟨l.toArray⟩ : ByteArray).size = l.length := by simp [ByteArray.size]
  have hr := Lib.run_convert_string_bytes (P := Try.prog) w 9 29 5 ⟨l.toArray⟩ Try.underlying9 Try.underlying29 Try.underlying5
  rw [hs] at hr
  refine ⟨_, _, hr, ⟨rfl, by unfold maxLen; omega, fun i hi => ⟨_, rfl, by rw [Lib.bytesWorld_size]; exact Nat.lt_succ_self _, ?_⟩⟩, ⟨rfl, rfl, rfl, by rw [Lib.bytesWorld_size]; omega, fun j hj => Lib.bytesWorld_at_old w _ _ j hj⟩, Lib.bytesWorld_size _ _ _, grownCap_ge _ _ _ _, grownCap_le_maxLen _ _ _ _ (by unfold maxLen; omega), fun i hi => ?_⟩
  · have e : (⟨w.heap.size, 0, none⟩ : Addr).add i = ⟨w.heap.size, i, none⟩ := by simp [Addr.add]; omega
    rw [e, Lib.bytesWorld_cell w _ _ i (by rw [hs]; exact hi)]
    simp [List.getD, hi]
  · have hb := Lib.bytesWorld_at_new w 5 ⟨l.toArray⟩
    have hsz : l.length ≤ (Lib.bytesCells w 5 ⟨l.toArray⟩).size := by simp [Lib.bytesCells]
    simp [World.frozen?, hb]
    omega
theorem wpl_conv_run {P : Program} {ops : Array Oper} {rest : List Oper} {o : Oper} {a : Act} {w : World} {Q : Exit → Act → World → Prop}
    (hg : o.guard = none) (s d : TypeId) (x : Operand) (hop : o.op = Op.convert s d x) (vx : Value) (hx : a.eval x = vx)
    (v' : Value) (w' : World) (hrun : (convert s d vx).run P w = .ok v' w') (hK : wpList P ops Q rest (a.put o.dst v') w') : wpList P ops Q (o :: rest) a w := by
  refine wpList_plain hg fun K' hK' => ?_
  unfold Oper.wp
  simp [execOp, hop, hx, hrun, Result.andThen]
  exact hK' _ _ hK
/-- bytes behind a row of the call's own -/
theorem append_mine (w : World) (H : Nat) (v : Value) (l : List UInt8) (ho : w.ownsRow H 5 1 v l.length (Cd.bytesV l)) (hH : H ≤ w.heap.size) (B : Option Addr) (m c : Nat) (lb : List UInt8) (hs : Bs w B m lb) (hL : l.length + lb.length ≤ 100000000) (ty : TypeId) :
    ∃ A' cap' w', (Builtin.append_ #[29, 29] ty #[v, .slice B m c]).run Try.prog w = .ok (.slice A' (l ++ lb).length cap') w' ∧ w'.ownsRow H 5 1 (.slice A' (l ++ lb).length cap') (l ++ lb).length (Cd.bytesV (l ++ lb)) ∧ w.grownBy w' v.ownBlock ∧
      ((Value.slice A' (l ++ lb).length cap').ownBlock = v.ownBlock ∨ (Value.slice A' (l ++ lb).length cap').ownBlock = some w.heap.size) := by
  obtain ⟨i0, hi, hz0, hz1, hz2⟩ := info_parts info_u8
  have hm := hs.len
  obtain ⟨A, cap, rfl⟩ := own_slice' ho
  by_cases h0 : m = 0
  · have hlb : lb = [] := List.eq_nil_of_length_eq_zero (by omega)
    subst hlb
    subst h0
    have hsrc : Src Try.prog i0.size 29 (.slice B 0 c) 0 [] w := by
      cases B with
      | none => exact Src.ofNil w Try.underlying29 c
      | some a => exact Src.ofSlice w Try.underlying29 a 0 c [] (by simp) (by simp) (by simp)
    have hle : l.length ≤ cap := by
      rcases ho.2 with ⟨e, e2⟩ | ⟨g, cap', cur, e, _, _, h5, _⟩
      · omega
      · injection e with _ _ e; omega
    have hrun := run_append_nothing w 29 29 ty 5 i0 Try.underlying29 hi A l.length cap hle _ hsrc
    refine ⟨A, cap, w, by rw [List.append_nil]; exact hrun, by rw [List.append_nil]; exact ho, ⟨rfl, rfl, rfl, Nat.le_refl _, fun _ _ _ => rfl⟩, .inl (by rw [List.append_nil])⟩
  · cases B with
    | none => exact absurd hs.none.1 h0
    | some a =>
      obtain ⟨v', w', hrun, r1, r2, _, r4⟩ := run_append_own_at (P := Try.prog) w H 29 ty 5 i0 (.int .u8 0) 1 1 Try.underlying29 hi hz0 hz1 hz2 rfl (by decide) _ l.length (Cd.bytesV l) ho a m c (Cd.bytesV lb) (by simp [Cd.bytesV]; omega) hs.adds (bytesV_one _) (by unfold maxLen; omega) (by omega) hH
      rw [← Cd.bytesV_append] at r1
      obtain ⟨A', c', rfl⟩ := own_slice' r1
      have e : l.length + m = (l ++ lb).length := by rw [List.length_append]; omega
      rw [e] at r1 r4 hrun
      exact ⟨A', c', w', hrun, r1, r2, r4⟩
end Go.Proofs.Ytoljnklceghcdaa
