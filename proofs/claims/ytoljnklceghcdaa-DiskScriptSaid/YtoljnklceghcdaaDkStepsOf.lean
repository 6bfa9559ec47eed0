/- disk: what the frame tells of the steps that came in. -/
import Derived.Test.YtoljnklceghcdaaDkSteps
namespace Go.Proofs.Ytoljnklceghcdaa
open Go.RowKit Go.ChangeShapes Go.WideShapes Go.Deep

theorem choose_to {α : Type} [Inhabited α] {n : Nat} {P : Nat → α → Prop} (h : ∀ i, i < n → ∃ x, P i x) : ∃ f : Nat → α, ∀ i, i < n → P i (f i) := by
  refine ⟨fun i => if hi : i < n then Classical.choose (h i hi) else default, fun i hi => ?_⟩
  simp only [hi, dif_pos]
  exact Classical.choose_spec (h i hi)
section
variable {H : Type} {enc : TypeId × Value → H} {w : World} {base : Nat} {spare : Nat → Bool} {held : Bool} {fuel : Nat} {v : Value} {x : DataW H × List MemPlace}
theorem bytes_of (h : DataW.trod enc Try.prog w base spare held fuel 29 [v] = some x) : ∃ A n c l, v = .slice A n c ∧ Bs w A n l ∧ n ≤ c ∧ c ≤ maxLen := by
  rcases open_ints Try.underlying29 Try.underlying5 (by kernel_rfl) h with ⟨hcs, _⟩ | ⟨a, l, c, zs, hcs, _, hl, hm, hz, _, hcell, hwz⟩
  · simp only [List.cons.injEq, and_true] at hcs
    exact ⟨none, 0, 0, [], hcs, Bs.nil w, Nat.le_refl _, Nat.zero_le _⟩
  · simp only [List.cons.injEq, and_true] at hcs
    have hzl : l ≤ zs.length := by rw [hz]; split <;> omega
    have hlen : ((zs.take l).map fun n => UInt8.ofNat n.toNat).length = l := by simp; omega
    refine ⟨some a, l, c, (zs.take l).map fun n => UInt8.ofNat n.toNat, hcs, ⟨hlen.symm, by rw [hlen]; omega, fun i hi => ?_⟩, hl, hm⟩
    have hi' : i < l := by rw [hlen] at hi; exact hi
    have hiz : i < zs.length := by omega
    have hc := hcell i hiz
    refine ⟨a, rfl, ?_, ?_⟩
    · have := World.block_lt_of_cell? w _ hc
      rwa [add_block] at this
    · rw [hc]
      have hb := bounds_u8 (hwz zs[i] (List.getElem_mem hiz))
      have e1 : zs.getD i 0 = zs[i] := by simp [List.getD, hiz]
      rw [e1]
      congr 2
      simp only [List.getElem_map, List.getElem_take]
      rw [UInt8.toNat_ofNat']
      omega
theorem nums_of (h : DataW.trod enc Try.prog w base spare held fuel 30 [v] = some x) : ∃ A n c z, v = .slice A n c ∧ KeepR w A n z ∧ n ≤ c ∧ c ≤ maxLen := by
  rcases open_ints Try.underlying30 Try.underlying3 (by kernel_rfl) h with ⟨hcs, _⟩ | ⟨a, l, c, zs, hcs, _, hl, hm, hz, _, hcell, hwz⟩
  · simp only [List.cons.injEq, and_true] at hcs
    exact ⟨none, 0, 0, fun _ => 0, hcs, KeepR.nil _ _, Nat.le_refl _, Nat.zero_le _⟩
  · simp only [List.cons.injEq, and_true] at hcs
    have hzl : l ≤ zs.length := by rw [hz]; split <;> omega
    refine ⟨some a, l, c, fun i => zs.getD i 0, hcs, ⟨fun i hi => ?_, fun i hi => ?_⟩, hl, hm⟩
    · have hc := hcell i (by omega)
      have h0 := hcell 0 (by omega)
      have hs := spot_none h0
      have hb := World.block_lt_of_cell? w _ hc
      rw [add_at hs] at hb hc
      refine ⟨a.block, a.off, ?_, hb, hc⟩
      obtain ⟨b, o, s⟩ := a
      simp only at hs
      subst hs
      rfl
    · have hiz : i < zs.length := by omega
      have e1 : zs.getD i 0 = zs[i] := by simp [List.getD, hiz]
      rw [e1]
      exact bounds_i64 (hwz zs[i] (List.getElem_mem hiz))
end
theorem step_one : oneCellFields Try.prog (Try.prog.fieldsOf 32) = true := by kernel_rfl
theorem step_cells : Try.prog.cellsOf 32 = (Try.prog.fieldsOf 32).size := by kernel_rfl
theorem step_struct : Try.prog.underlying 32 = some (.struct (Try.prog.fieldsOf 32)) := by kernel_rfl
theorem step_size : (Try.prog.fieldsOf 32).size = 6 := by kernel_rfl
theorem step_t (j : Nat) (t : TypeId) (h : ((Try.prog.fieldsOf 32)[j]?).map (fun f => f.type) = some t) : ∃ f, (Try.prog.fieldsOf 32)[j]? = some f ∧ f.type = t := Option.map_eq_some_iff.1 h
set_option maxHeartbeats 1600000 in
theorem steps_of {H : Type} {enc : TypeId × Value → H} {w : World} {base : Nat} {spare : Nat → Bool} {held : Bool} {fuel : Nat} {a : Option Addr} {n c : Nat} {x : DataW H × List MemPlace}
    (h : DataW.trod enc Try.prog w base spare held fuel 22 [.slice a n c] = some x) : ∃ S, Stps w a n S := by
  rcases open_rows Try.underlying22 step_struct step_one step_cells h with e | ⟨a', len, cap, e, hl, hm, hf⟩
  · simp at e
    obtain ⟨rfl, rfl, rfl⟩ := e
    exact ⟨fun _ => default, ⟨fun i hi => absurd hi (Nat.not_lt_zero _), fun i hi => absurd hi (Nat.not_lt_zero _), fun i hi => absurd hi (Nat.not_lt_zero _), fun i hi => absurd hi (Nat.not_lt_zero _), Nat.zero_le _⟩⟩
  · simp at e
    obtain ⟨rfl, rfl, rfl⟩ := e
    obtain ⟨f0, g0, t0⟩ := step_t 0 5 (by kernel_rfl)
    obtain ⟨f1, g1, t1⟩ := step_t 1 9 (by kernel_rfl)
    obtain ⟨f2, g2, t2⟩ := step_t 2 9 (by kernel_rfl)
    obtain ⟨f3, g3, t3⟩ := step_t 3 29 (by kernel_rfl)
    obtain ⟨f4, g4, t4⟩ := step_t 4 3 (by kernel_rfl)
    obtain ⟨f5, g5, t5⟩ := step_t 5 30 (by kernel_rfl)
    rw [step_size] at hf
    have key : ∀ i, i < n → ∃ s : Stp, (∃ b o, some a' = some (⟨b, o, none⟩ : Addr) ∧ b < w.heap.size ∧ w.cell? ⟨b, o + i * 6, none⟩ = some (.int .u8 s.d) ∧ w.cell? ⟨b, o + i * 6 + 1, none⟩ = some (.string s.name) ∧ w.cell? ⟨b, o + i * 6 + 2, none⟩ = some (.string s.to_) ∧ w.cell? ⟨b, o + i * 6 + 3, none⟩ = some (.slice s.dA s.dn s.dc) ∧ w.cell? ⟨b, o + i * 6 + 4, none⟩ = some (.int .i64 s.num) ∧ w.cell? ⟨b, o + i * 6 + 5, none⟩ = some (.slice s.kA s.kn s.kc)) ∧
        (Bs w s.dA s.dn s.data ∧ s.dn ≤ s.dc ∧ s.dc ≤ maxLen) ∧ (KeepR w s.kA s.kn s.z ∧ s.kn ≤ s.kc ∧ s.kc ≤ maxLen) ∧ (0 ≤ s.d ∧ s.d ≤ 255) ∧ (-9223372036854775808 ≤ s.num ∧ s.num ≤ 9223372036854775807) := fun i hi => by
      obtain ⟨v, _, _, hz, _⟩ := hf 0 (by omega) 0 f0 g0
      have hs := spot_none (by simpa using hz)
      obtain ⟨v0, y0, n0, c0, k0⟩ := hf i hi 0 f0 g0
      obtain ⟨v1, y1, n1, c1, k1⟩ := hf i hi 1 f1 g1
      obtain ⟨v2, y2, n2, c2, k2⟩ := hf i hi 2 f2 g2
      obtain ⟨v3, y3, n3, c3, k3⟩ := hf i hi 3 f3 g3
      obtain ⟨v4, y4, n4, c4, k4⟩ := hf i hi 4 f4 g4
      obtain ⟨v5, y5, n5, c5, k5⟩ := hf i hi 5 f5 g5
      rw [t0] at k0
      rw [t1] at k1
      rw [t2] at k2
      rw [t3] at k3
      rw [t4] at k4
      rw [t5] at k5
      obtain ⟨z0, e0, _, q0⟩ := DataW.trod_int Try.underlying5 k0
      obtain ⟨z1, e1, _, q1⟩ := DataW.trod_string Try.underlying9 k1
      obtain ⟨z2, e2, _, q2⟩ := DataW.trod_string Try.underlying9 k2
      obtain ⟨dA, dn, dc, dl, rfl, hb3, hd1, hd2⟩ := bytes_of k3
      obtain ⟨z4, e4, _, q4⟩ := DataW.trod_int Try.underlying3 k4
      obtain ⟨kA, kn, kc, kz, rfl, hb5, hk1, hk2⟩ := nums_of k5
      simp only [List.cons.injEq, and_true] at e0 e1 e2 e4
      subst e0 e1 e2 e4
      have hb := World.block_lt_of_cell? w _ c0
      rw [add_at hs] at hb c0 c1 c2 c3 c4 c5
      have b0 := bounds_u8 q0
      have b4 := bounds_i64 q4
      refine ⟨⟨z0, z1, z2, dA, dn, dc, dl, z4, kA, kn, kc, kz⟩, ⟨a'.block, a'.off, ?_, hb, c0, ?_, ?_, ?_, ?_, ?_⟩, ⟨hb3, hd1, hd2⟩, ⟨hb5, hk1, hk2⟩, by simp only; omega, by simp only; omega⟩
      · obtain ⟨b, o, s⟩ := a'
        simp only at hs
        subst hs
        rfl
      · rw [Nat.add_assoc]; exact c1
      · rw [Nat.add_assoc]; exact c2
      · rw [Nat.add_assoc]; exact c3
      · rw [Nat.add_assoc]; exact c4
      · rw [Nat.add_assoc]; exact c5
    obtain ⟨S, hS⟩ := choose_to key
    exact ⟨S, ⟨fun i hi => (hS i hi).1, fun i hi => (hS i hi).2.1, fun i hi => (hS i hi).2.2.1, fun i hi => (hS i hi).2.2.2, by omega⟩⟩
end Go.Proofs.Ytoljnklceghcdaa
