/- wal: what the frame tells of the deeds that came in. -/
import Derived.Test.YteihedfmmiihiaaGreatWmK
namespace Go.Proofs.YteihedfmmiihiaaGreat
open Go.RowKit Go.ChangeShapes Go.WideShapes Go.Deep

theorem choose_to {α : Type} [Inhabited α] {n : Nat} {P : Nat → α → Prop} (h : ∀ i, i < n → ∃ x, P i x) : ∃ f : Nat → α, ∀ i, i < n → P i (f i) := by
  refine ⟨fun i => if hi : i < n then Classical.choose (h i hi) else default, fun i hi => ?_⟩
  simp only [hi, dif_pos]
  exact Classical.choose_spec (h i hi)
section
variable {H : Type} {enc : TypeId × Value → H} {w : World} {base : Nat} {spare : Nat → Bool} {held : Bool} {fuel : Nat} {v : Value} {x : DataW H × List MemPlace}
theorem nums_of (h : DataW.trod enc Tryz.prog w base spare held fuel 54 [v] = some x) : ∃ A n c z, v = .slice A n c ∧ KeepR w A n z ∧ n ≤ c ∧ c ≤ maxLen := by
  rcases open_ints Tryz.underlying54 Tryz.underlying3 (by kernel_rfl) h with ⟨hcs, _⟩ | ⟨a, l, c, zs, hcs, _, hl, hm, hz, _, hcell, hwz⟩
  · simp only [List.cons.injEq, and_true] at hcs
    exact ⟨none, 0, 0, fun _ => 0, hcs, KeepR.nil _ _, Nat.le_refl _, Nat.zero_le _⟩
  · simp only [List.cons.injEq, and_true] at hcs
    have hzl : l ≤ zs.length := by rw [hz]; split <;> omega
    refine ⟨some a, l, c, fun i => zs.getD i 0, hcs, ⟨fun i hi => ?_, fun i hi => ?_⟩, hl, hm⟩
    · have hc := hcell i (by omega)
      have h0 := hcell 0 (by omega)
      have hs := spot_none h0
      have hb := World.block_lt_of_cell? w _ hc
      rw [add_at hs] at hb hc
      refine ⟨a.block, a.off, ?_, hb, hc⟩
      obtain ⟨b, o, s⟩ := a
      simp only at hs
      subst hs
      rfl
    · have hiz : i < zs.length := by omega
      have e1 : zs.getD i 0 = zs[i] := by simp [List.getD, hiz]
      rw [e1]
      exact bounds_i64 (hwz zs[i] (List.getElem_mem hiz))
end
theorem deed_one : oneCellFields Tryz.prog (Tryz.prog.fieldsOf 56) = true := by kernel_rfl
theorem deed_cells : Tryz.prog.cellsOf 56 = (Tryz.prog.fieldsOf 56).size := by kernel_rfl
theorem deed_struct : Tryz.prog.underlying 56 = some (.struct (Tryz.prog.fieldsOf 56)) := by kernel_rfl
theorem deed_size : (Tryz.prog.fieldsOf 56).size = 5 := by kernel_rfl
theorem deed_t (j : Nat) (t : TypeId) (h : ((Tryz.prog.fieldsOf 56)[j]?).map (fun f => f.type) = some t) : ∃ f, (Tryz.prog.fieldsOf 56)[j]? = some f ∧ f.type = t := Option.map_eq_some_iff.1 h
/-- the deeds, in the world they came in -/
def Dees0 (w : World) (a : Option Addr) (n : Nat) (S : Nat → Dee) : Prop := Dees w w.heap.size a n S
def Keep0 (w : World) (a : Option Addr) (n c : Nat) (z : Nat → Int) : Prop := KeepIn w w.heap.size a n c z
set_option maxHeartbeats 1600000 in
theorem dees_of {H : Type} {enc : TypeId × Value → H} {w : World} {base : Nat} {spare : Nat → Bool} {held : Bool} {fuel : Nat} {a : Option Addr} {n c : Nat} {x : DataW H × List MemPlace}
    (h : DataW.trod enc Tryz.prog w base spare held fuel 51 [.slice a n c] = some x) : ∃ S, Dees0 w a n S := by
  rcases open_rows Tryz.underlying51 deed_struct deed_one deed_cells h with e | ⟨a', len, cap, e, hl, hm, hf⟩
  · simp at e
    obtain ⟨rfl, rfl, rfl⟩ := e
    exact ⟨fun _ => default, ⟨fun i hi => absurd hi (Nat.not_lt_zero _), fun i hi => absurd hi (Nat.not_lt_zero _), fun i hi => absurd hi (Nat.not_lt_zero _), Nat.zero_le _⟩⟩
  · simp at e
    obtain ⟨rfl, rfl, rfl⟩ := e
    obtain ⟨f0, g0, t0⟩ := deed_t 0 5 (by kernel_rfl)
    obtain ⟨f1, g1, t1⟩ := deed_t 1 2 (by kernel_rfl)
    obtain ⟨f2, g2, t2⟩ := deed_t 2 9 (by kernel_rfl)
    obtain ⟨f3, g3, t3⟩ := deed_t 3 3 (by kernel_rfl)
    obtain ⟨f4, g4, t4⟩ := deed_t 4 54 (by kernel_rfl)
    rw [deed_size] at hf
    have key : ∀ i, i < n → ∃ s : Dee, (∃ b o, some a' = some (⟨b, o, none⟩ : Addr) ∧ b < w.heap.size ∧ b < w.heap.size ∧ w.cell? ⟨b, o + i * 5, none⟩ = some (.int .u8 s.d) ∧ w.cell? ⟨b, o + i * 5 + 1, none⟩ = some (.int .i64 s.term) ∧ w.cell? ⟨b, o + i * 5 + 2, none⟩ = some (.string s.data) ∧ w.cell? ⟨b, o + i * 5 + 3, none⟩ = some (.int .i64 s.num) ∧ w.cell? ⟨b, o + i * 5 + 4, none⟩ = some (.slice s.kA s.kn s.kc)) ∧
        KeepIn w w.heap.size s.kA s.kn s.kc s.z ∧ s.Ok := fun i hi => by
      obtain ⟨v, _, _, hz, _⟩ := hf 0 (by omega) 0 f0 g0
      have hs := spot_none (by simpa using hz)
      obtain ⟨v0, y0, n0, c0, k0⟩ := hf i hi 0 f0 g0
      obtain ⟨v1, y1, n1, c1, k1⟩ := hf i hi 1 f1 g1
      obtain ⟨v2, y2, n2, c2, k2⟩ := hf i hi 2 f2 g2
      obtain ⟨v3, y3, n3, c3, k3⟩ := hf i hi 3 f3 g3
      obtain ⟨v4, y4, n4, c4, k4⟩ := hf i hi 4 f4 g4
      rw [t0] at k0
      rw [t1] at k1
      rw [t2] at k2
      rw [t3] at k3
      rw [t4] at k4
      obtain ⟨z0, e0, _, q0⟩ := DataW.trod_int Tryz.underlying5 k0
      obtain ⟨z1, e1, _, q1⟩ := DataW.trod_int Tryz.underlying2 k1
      obtain ⟨z2, e2, _, q2⟩ := DataW.trod_string Tryz.underlying9 k2
      obtain ⟨z3, e3, _, q3⟩ := DataW.trod_int Tryz.underlying3 k3
      obtain ⟨kA, kn, kc, kz, rfl, hb5, hk1, hk2⟩ := nums_of k4
      simp only [List.cons.injEq, and_true] at e0 e1 e2 e3
      subst e0 e1 e2 e3
      have hb := World.block_lt_of_cell? w _ c0
      rw [add_at hs] at hb c0 c1 c2 c3 c4
      have b0 := bounds_u8 q0
      have b1 := bounds_i64 q1
      have b3 := bounds_i64 q3
      refine ⟨⟨z0, z1, z2, z3, kA, kn, kc, kz⟩, ⟨a'.block, a'.off, ?_, hb, hb, c0, ?_, ?_, ?_, ?_⟩, ⟨hb5, hk1, hk2, fun b o e h0 => ?_⟩, ⟨by simp only; omega, by simp only; omega, by simp only; omega⟩⟩
      · obtain ⟨b, o, s⟩ := a'
        simp only at hs
        subst hs
        rfl
      · rw [Nat.add_assoc]; exact c1
      · rw [Nat.add_assoc]; exact c2
      · rw [Nat.add_assoc]; exact c3
      · rw [Nat.add_assoc]; exact c4
      · obtain ⟨b', o', e', hb', _⟩ := hb5.cell 0 h0
        simp only at e
        rw [e] at e'
        injection e' with e'
        injection e' with e'
        rw [e']
        exact hb'
    obtain ⟨S, hS⟩ := choose_to key
    exact ⟨S, ⟨fun i hi => (hS i hi).1, fun i hi => (hS i hi).2.1, fun i hi => (hS i hi).2.2, by omega⟩⟩
theorem keep_of {H : Type} {enc : TypeId × Value → H} {w : World} {base : Nat} {spare : Nat → Bool} {held : Bool} {fuel : Nat} {a : Option Addr} {n c : Nat} {x : DataW H × List MemPlace}
    (h : DataW.trod enc Tryz.prog w base spare held fuel 54 [.slice a n c] = some x) : ∃ z, Keep0 w a n c z := by
  obtain ⟨A, m, k, z, e, hk, h1, h2⟩ := nums_of h
  injection e with e1 e2 e3
  subst e1 e2 e3
  exact ⟨z, hk, h1, h2, fun b o e h0 => by
    obtain ⟨b', o', e', hb', _⟩ := hk.cell 0 h0
    rw [e] at e'
    injection e' with e'
    injection e' with e'
    rw [e']
    exact hb'⟩
end Go.Proofs.YteihedfmmiihiaaGreat
