/- disk: Read; a clone of bytes. -/
import Derived.Test.YteihedfmmiihiaaGreatDkOps
namespace Go.Proofs.YteihedfmmiihiaaGreat
open Go.RowKit
variable {Xs : Nat → Prop}

theorem own_empty (w : World) (base : Nat) (e : TypeId) (size : Nat) (hb : base ≤ w.heap.size) : (w.alloc (.cells #[] e)).ownsRow base e size (.slice (some ⟨w.heap.size, 0, none⟩) 0 0) 0 [] := by
  refine ⟨by simp, .inr ⟨w.heap.size, 0, #[], rfl, hb, heap_alloc_new w _, by omega, by unfold maxLen; omega, by simp, by simp⟩⟩
theorem wpl_append_run {P : Program} {ops : Array Oper} {rest : List Oper} {o : Oper} {a : Act} {w : World} {Q : Exit → Act → World → Prop}
    (hg : o.guard = none) (s x : Operand) (t : TypeId) (hop : o.op = Op.call { callee := Callee.builtin Builtin.append, args := #[s, x], argTypes := #[t, t] }) (vs vx : Value) (hs : a.eval s = vs) (hx : a.eval x = vx)
    (v' : Value) (w' : World) (hrun : (Builtin.append_ #[t, t] o.type #[vs, vx]).run P w = .ok v' w') (hK : wpList P ops Q rest (a.put o.dst v') w') : wpList P ops Q (o :: rest) a w := by
  refine wpList_plain hg fun K' hK' => ?_
  unfold Oper.wp
  simp [execOp, hop, resolve, invoke, builtin, hs, hx, hrun, Result.andThen]
  exact hK' _ _ hK
/-- bytes behind an empty row -/
theorem append_copy (w : World) (B : Option Addr) (m c : Nat) (lb : List UInt8) (hs : Bs w B m lb) (hL : lb.length ≤ 100000000) (ty : TypeId) :
    ∃ A' cap' w', (Builtin.append_ #[30, 30] ty #[.slice (some ⟨w.heap.size, 0, none⟩) 0 0, .slice B m c]).run Tryz.prog (w.alloc (.cells #[] 5)) = .ok (.slice A' lb.length cap') w' ∧ w'.ownsRow w.heap.size 5 1 (.slice A' lb.length cap') lb.length (Cd.bytesV lb) ∧ Below w.heap.size w w' := by
  obtain ⟨i0, hi, hz0, hz1, hz2⟩ := info_parts info_u8
  have hB := Below.new w (.cells #[] 5)
  have hs1 := hs.below hB
  have ho := own_empty w w.heap.size 5 1 (Nat.le_refl _)
  have hm := hs.len
  cases B with
  | none =>
    obtain ⟨h1, rfl⟩ := hs.none
    subst h1
    exact ⟨_, 0, _, run_append_nothing _ 30 30 ty 5 i0 Tryz.underlying30 hi _ 0 0 (Nat.le_refl _) _ (Src.ofNil _ Tryz.underlying30 c), ho, hB⟩
  | some a =>
    obtain ⟨v', w', hrun, r1, r2, _⟩ := run_append_own (P := Tryz.prog) (w.alloc (.cells #[] 5)) w.heap.size 30 ty 5 i0 (.int .u8 0) 1 1 Tryz.underlying30 hi hz0 hz1 hz2 rfl (by decide) _ 0 [] ho a m c (Cd.bytesV lb) (by simp [Cd.bytesV]; omega) hs1.adds (bytesV_one _) (by unfold maxLen; omega) (by omega) (by simp)
    rw [List.nil_append] at r1
    obtain ⟨A', c', rfl⟩ := own_slice' r1
    have e : 0 + m = lb.length := by omega
    rw [e] at r1 hrun
    exact ⟨A', c', w', hrun, r1, hB.grown r2 (by simp) (fun r e => by simp [Value.ownBlock] at e; omega)⟩
theorem fileField0 (A : Option Addr) (n c : Nat) (m : Int) (w : World) : (Instr.field 80 (.agg #[.slice A n c, .int .i64 m]) 0).run Tryz.prog w = .ok (.slice A n c) w := by kernel_rfl
/-- Read -/
def ReadY (w : World) (s : Dk) (k : ByteArray) (e : Ending) (w' : World) : Prop :=
  ∃ v, e = .returned (.tuple #[v, .int .i64 (thC s.off (s.p k).isSome)]) ∧ Below w.heap.size w w' ∧ (thC s.off (s.p k).isSome ≠ 0 → v = .slice none 0 0) ∧ (thC s.off (s.p k).isSome = 0 → w'.ownsRow w.heap.size 5 1 v (pl s.p k).1.length (Cd.bytesV (pl s.p k).1))
set_option maxRecDepth 20000 in
set_option maxHeartbeats 1000000 in
theorem readD (w : World) (d F N : Nat) (s : Dk) (h : s.Is Xs w d F N) (k : ByteArray) (hL : (pl s.p k).1.length ≤ 100000000) :
    Calls Tryz.prog 36 #[.pointer (some ⟨d, 0, none⟩), .string k] w (ReadY w s k) := by
  obtain ⟨off, fuse, p⟩ := s
  unfold Dk.Is at h
  simp only at h hL
  have HH := Lib.hid h
  have HT := Lib.hid (thereD w d F N off fuse p h k)
  clear h
  by_cases h0 : thC off (p k).isSome = 0
  · have hq : decide (thC off (p k).isSome = 0) = true := decide_eq_true h0
    rw [h0] at HT
    have H0 := Lib.hid h0
    clear h0 hq
    go_enter Tryz.func36, Tryz.ntmps36
    go_upto_region 4 with (go_at_call 48; refine HT.out.mono ?_; rintro e w2 ⟨rfl, hb2⟩; have HB2 := Lib.hid hb2; clear hb2)
    have hd2 := HH.out.bel HB2.out
    have HD2 := Lib.hid hd2
    obtain ⟨mv, n, hN, hm, hf⟩ := hd2.files
    obtain ⟨v, hv, hn, hlk⟩ := DS.look0 hm hf k
    obtain ⟨A, cap, rfl, _, hc1, hc2⟩ := hv.form
    obtain ⟨A', cap', w3, hrun, ho, hb3⟩ := append_copy w2 A _ cap _ hv.bs hL 30
    have l2 := (hlk (w2.alloc (.cells #[] 5)) (Below.new _ _)).2
    have c0 := (Below.new w2 (.cells #[] 5)).cell (p := ⟨d, 0, none⟩) hd2.lts.1
    rw [hd2.cells.1] at c0
    unfold fileV at l2
    have HR := Lib.hid hrun
    have HO := Lib.hid ho
    have HB3 := Lib.hid hb3
    have HDL := hd2.lts.1
    have hff := fileField0 A (pl p k).1.length cap ((pl p k).2 : Int)
    clear hrun ho hb3 hlk hv hf hm hd2
    go_wp2_with (at_builtin; refine wpl_append_run rfl _ _ 30 rfl _ _ rfl rfl _ _ HR.out ?_)
    go_ret2
    refine ⟨_, by rw [H0.out]; rfl, below_trans' HB2.out HB3.out, fun e => absurd H0.out e, fun _ => ?_⟩
    exact ⟨HO.out.1, by
      rcases HO.out.2 with h1 | ⟨g, cap, cur, e, h3, h4⟩
      · exact .inl h1
      · exact .inr ⟨g, cap, cur, e, Nat.le_trans HB2.out.size h3, h4⟩⟩
  · have H0 := Lib.hid h0
    have h5 : thC off (p k).isSome = 250 ∨ thC off (p k).isSome = 5 := by
      unfold thC at h0 ⊢
      revert h0
      cases off <;> cases (p k).isSome <;> simp
    clear h0
    rcases h5 with h5 | h5
    all_goals
      rw [h5] at HT
      have HC := Lib.hid h5
      clear h5
      go_enter Tryz.func36, Tryz.ntmps36
      go_wp2_with (go_at_call 48; refine HT.out.mono ?_; rintro e w2 ⟨rfl, hb2⟩; have HB2 := Lib.hid hb2; clear hb2)
      go_ret2
      exact ⟨_, by rw [HC.out]; rfl, HB2.out, fun _ => rfl, fun e => absurd e H0.out⟩
end Go.Proofs.YteihedfmmiihiaaGreat
