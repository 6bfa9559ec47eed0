/- check: a tree that came in (written by gen_cktreein.py). -/
import Derived.Test.YtmacmejpcpdnnaaOpenRows
import Derived.Test.YtmacmejpcpdnnaaCkSlots
import Derived.OpenShut
namespace Go.Proofs.Ytmacmejpcpdnnaa
open Go.RowKit Go.ChangeShapes Go.WideShapes Go.Deep

/-- a tree that came in -/
structure TreeIn (w : World) (a : Option Addr) (n c : Nat) (t : List Tw) : Prop where
  cap : n ≤ c ∧ c ≤ maxLen
  tw : Tws w w.heap.size a n t
theorem TreeIn.bel {w w' : World} {a : Option Addr} {n c : Nat} {t : List Tw} (h : TreeIn w a n c t) (hb : Below w.heap.size w w') : TreeIn w' a n c t :=
  ⟨h.cap, ⟨h.tw.len, fun i hi => by
    obtain ⟨b, o, e, h1, h2, c0, c1, c2, c3⟩ := h.tw.cell i hi
    exact ⟨b, o, e, Nat.lt_of_lt_of_le h2 hb.size, Nat.lt_of_lt_of_le h2 hb.size, (hb.cell (p := ⟨b, _, none⟩) h2).trans c0, (hb.cell (p := ⟨b, _, none⟩) h2).trans c1, (hb.cell (p := ⟨b, _, none⟩) h2).trans c2, (hb.cell (p := ⟨b, _, none⟩) h2).trans c3⟩, h.tw.wf⟩⟩
theorem bounds_u8 {n : Int} (h : (Lit.int .u8 n).wf = true) : 0 ≤ n ∧ n ≤ 255 := by
  simp [Lit.wf, IntKind.min, IntKind.max, IntKind.signed, IntKind.bits] at h
  omega
theorem twig_one : oneCellFields Try.prog (Try.prog.fieldsOf 34) = true := by kernel_rfl
theorem twig_cells : Try.prog.cellsOf 34 = (Try.prog.fieldsOf 34).size := by kernel_rfl
theorem twig_struct : Try.prog.underlying 34 = some (.struct (Try.prog.fieldsOf 34)) := by kernel_rfl
theorem twig_size : (Try.prog.fieldsOf 34).size = 4 := by kernel_rfl
theorem twig_t0 : ((Try.prog.fieldsOf 34)[0]?).map (fun f => f.type) = some 5 := by kernel_rfl
theorem twig_f0 : ∃ f, (Try.prog.fieldsOf 34)[0]? = some f ∧ f.type = 5 := Option.map_eq_some_iff.1 twig_t0
theorem twig_t1 : ((Try.prog.fieldsOf 34)[1]?).map (fun f => f.type) = some 3 := by kernel_rfl
theorem twig_f1 : ∃ f, (Try.prog.fieldsOf 34)[1]? = some f ∧ f.type = 3 := Option.map_eq_some_iff.1 twig_t1
theorem twig_t2 : ((Try.prog.fieldsOf 34)[2]?).map (fun f => f.type) = some 2 := by kernel_rfl
theorem twig_f2 : ∃ f, (Try.prog.fieldsOf 34)[2]? = some f ∧ f.type = 2 := Option.map_eq_some_iff.1 twig_t2
theorem twig_t3 : ((Try.prog.fieldsOf 34)[3]?).map (fun f => f.type) = some 9 := by kernel_rfl
theorem twig_f3 : ∃ f, (Try.prog.fieldsOf 34)[3]? = some f ∧ f.type = 9 := Option.map_eq_some_iff.1 twig_t3
theorem choose_lt {T : Type} [Inhabited T] {P : Nat → T → Prop} {n : Nat} (h : ∀ i, i < n → ∃ t, P i t) : ∃ f : Nat → T, ∀ i, i < n → P i (f i) := by
  refine ⟨fun i => if hi : i < n then Classical.choose (h i hi) else default, fun i hi => ?_⟩
  show P i (if hi : i < n then Classical.choose (h i hi) else default)
  rw [dif_pos hi]
  exact Classical.choose_spec (h i hi)
set_option maxHeartbeats 1600000 in
theorem tree_of {H : Type} {enc : TypeId × Value → H} {w : World} {base : Nat} {spare : Nat → Bool} {held : Bool} {fuel : Nat} {a : Option Addr} {n c : Nat} {x : DataW H × List MemPlace}
    (h : DataW.trod enc Try.prog w base spare held fuel 23 [.slice a n c] = some x) : ∃ t, TreeIn w a n c t := by
  rcases open_rows Try.underlying23 twig_struct twig_one twig_cells h with e | ⟨a', len, cap, e, hl, hm, hf⟩
  · simp at e
    obtain ⟨rfl, rfl, rfl⟩ := e
    exact ⟨[], ⟨⟨Nat.le_refl _, Nat.zero_le _⟩, ⟨rfl, fun i hi => absurd hi (Nat.not_lt_zero _), fun i hi => absurd hi (Nat.not_lt_zero _)⟩⟩⟩
  · simp at e
    obtain ⟨rfl, rfl, rfl⟩ := e
    obtain ⟨f0, g0, t0⟩ := twig_f0
    obtain ⟨f1, g1, t1⟩ := twig_f1
    obtain ⟨f2, g2, t2⟩ := twig_f2
    obtain ⟨f3, g3, t3⟩ := twig_f3
    rw [twig_size] at hf
    have key : ∀ i, i < n → ∃ s : Tw, (∃ b o, some a' = some (⟨b, o, none⟩ : Addr) ∧ b < w.heap.size ∧ w.cell? ⟨b, o + i * 4, none⟩ = some (.int .u8 s.op) ∧ w.cell? ⟨b, o + i * 4 + 1, none⟩ = some (.int .i64 s.kids) ∧ w.cell? ⟨b, o + i * 4 + 2, none⟩ = some (.int .i64 s.int) ∧ w.cell? ⟨b, o + i * 4 + 3, none⟩ = some (.string s.text)) ∧
        (-9223372036854775808 ≤ s.kids ∧ s.kids ≤ 9223372036854775807) ∧ (-9223372036854775808 ≤ s.int ∧ s.int ≤ 9223372036854775807) ∧ s.op ≤ 255 ∧ s.text.size ≤ maxLen := fun i hi => by
      obtain ⟨v, _, _, hz, _⟩ := hf 0 (by omega) 0 f0 g0
      have hs := spot_none (by simpa using hz)
      obtain ⟨v0, y0, n0, c0, k0⟩ := hf i hi 0 f0 g0
      obtain ⟨v1, y1, n1, c1, k1⟩ := hf i hi 1 f1 g1
      obtain ⟨v2, y2, n2, c2, k2⟩ := hf i hi 2 f2 g2
      obtain ⟨v3, y3, n3, c3, k3⟩ := hf i hi 3 f3 g3
      rw [t0] at k0
      rw [t1] at k1
      rw [t2] at k2
      rw [t3] at k3
      obtain ⟨z0, e0, _, q0⟩ := DataW.trod_int Try.underlying5 k0
      obtain ⟨z1, e1, _, q1⟩ := DataW.trod_int Try.underlying3 k1
      obtain ⟨z2, e2, _, q2⟩ := DataW.trod_int Try.underlying2 k2
      obtain ⟨z3, e3, _, q3⟩ := DataW.trod_string Try.underlying9 k3
      simp only [List.cons.injEq, and_true] at e0 e1 e2 e3
      subst e0 e1 e2 e3
      have hb := World.block_lt_of_cell? w _ c0
      rw [add_at hs] at hb c0 c1 c2 c3
      have b0 := bounds_u8 q0
      have b1 := bounds_i64 q1
      have b2 := bounds_i64 q2
      refine ⟨⟨z0.toNat, z1, z2, z3⟩, ⟨a'.block, a'.off, ?_, hb, ?_, ?_, ?_, ?_⟩, b1, b2, by simp only; omega, q3⟩
      · obtain ⟨b, o, s⟩ := a'
        simp only at hs
        subst hs
        rfl
      · rw [show ((z0.toNat : Nat) : Int) = z0 from by omega]; exact c0
      · rw [Nat.add_assoc]; exact c1
      · rw [Nat.add_assoc]; exact c2
      · rw [Nat.add_assoc]; exact c3
    obtain ⟨S, hS⟩ := choose_lt key
    refine ⟨(List.range n).map S, ⟨⟨hl, hm⟩, ⟨by simp, fun i hi => ?_, fun i hi => ?_⟩⟩⟩
    · have hi' : i < n := by simpa using hi
      obtain ⟨⟨b, o, e, hb, c0, c1, c2, c3⟩, _⟩ := hS i hi'
      have e2 : ((List.range n).map S)[i] = S i := by simp
      rw [e2]
      exact ⟨b, o, e, hb, hb, c0, c1, c2, c3⟩
    · have hi' : i < n := by simpa using hi
      have e2 : ((List.range n).map S)[i] = S i := by simp
      rw [e2]
      exact (hS i hi').2
end Go.Proofs.Ytmacmejpcpdnnaa
