/- HeapScript at what the frame tells of a slice of steps that came in. -/
import Derived.Test.YtoihhckiacmfcaaRfScript
import Derived.Test.YtoihhckiacmfcaaHpSortsOf
import Derived.Test.YtoihhckiacmfcaaOpenRows
namespace Go.Proofs.Ytoihhckiacmfcaa
open Go.RowKit Go.ChangeShapes Go.WideShapes Go.Deep
theorem script_any (a0 : Option Addr) (n c0 : Nat) (d key num : Nat → Int) (w : World) (h0 : Stps w a0 n d key num) :
    Calls Try.prog 5 #[.slice a0 n c0] w fun e w' => e = .returned (.bool true) ∧ Below w.heap.size w w' := by
  by_cases hn : 120 < (n : Int)
  · exact script_long a0 n c0 w hn
  · exact script_short sortSays a0 n c0 d key num w h0 hn
theorem step_one : oneCellFields Try.prog (Try.prog.fieldsOf 45) = true := by kernel_rfl
theorem step_cells : Try.prog.cellsOf 45 = (Try.prog.fieldsOf 45).size := by kernel_rfl
theorem step_struct : Try.prog.underlying 45 = some (.struct (Try.prog.fieldsOf 45)) := by kernel_rfl
theorem step_size : (Try.prog.fieldsOf 45).size = 3 := by kernel_rfl
theorem step_t0 : ((Try.prog.fieldsOf 45)[0]?).map (fun f => f.type) = some 5 := by kernel_rfl
theorem step_f0 : ∃ f, (Try.prog.fieldsOf 45)[0]? = some f ∧ f.type = 5 := Option.map_eq_some_iff.1 step_t0
theorem step_t1 : ((Try.prog.fieldsOf 45)[1]?).map (fun f => f.type) = some 2 := by kernel_rfl
theorem step_f1 : ∃ f, (Try.prog.fieldsOf 45)[1]? = some f ∧ f.type = 2 := Option.map_eq_some_iff.1 step_t1
theorem step_t2 : ((Try.prog.fieldsOf 45)[2]?).map (fun f => f.type) = some 3 := by kernel_rfl
theorem step_f2 : ∃ f, (Try.prog.fieldsOf 45)[2]? = some f ∧ f.type = 3 := Option.map_eq_some_iff.1 step_t2
theorem steps_of {H : Type} {enc : TypeId × Value → H} {w : World} {base : Nat} {spare : Nat → Bool} {held : Bool} {fuel : Nat} {a : Option Addr} {n c : Nat} {x : DataW H × List MemPlace}
    (h : DataW.trod enc Try.prog w base spare held fuel 38 [.slice a n c] = some x) : ∃ d key num, Stps w a n d key num := by
  rcases open_rows Try.underlying38 step_struct step_one step_cells h with e | ⟨a', len, cap, e, hl, hm, hf⟩
  · simp at e
    obtain ⟨rfl, rfl, rfl⟩ := e
    exact ⟨fun _ => 0, fun _ => 0, fun _ => 0, ⟨fun i hi => absurd hi (Nat.not_lt_zero _)⟩⟩
  · simp at e
    obtain ⟨rfl, rfl, rfl⟩ := e
    obtain ⟨f0, g0, t0⟩ := step_f0
    obtain ⟨f1, g1, t1⟩ := step_f1
    obtain ⟨f2, g2, t2⟩ := step_f2
    rw [step_size] at hf
    refine ⟨fun i => intOf ((w.cell? (a'.add (i * 3 + 0))).getD undef), fun i => intOf ((w.cell? (a'.add (i * 3 + 1))).getD undef), fun i => intOf ((w.cell? (a'.add (i * 3 + 2))).getD undef), ⟨fun i hi => ?_⟩⟩
    obtain ⟨v, _, _, hz, _⟩ := hf 0 (by omega) 0 f0 g0
    have hs := spot_none (by simpa using hz)
    obtain ⟨v0, y0, n0, c0, k0⟩ := hf i hi 0 f0 g0
    obtain ⟨v1, y1, n1, c1, k1⟩ := hf i hi 1 f1 g1
    obtain ⟨v2, y2, n2, c2, k2⟩ := hf i hi 2 f2 g2
    rw [t0] at k0
    rw [t1] at k1
    rw [t2] at k2
    obtain ⟨z0, e0, _, _⟩ := DataW.trod_int Try.underlying5 k0
    obtain ⟨z1, e1, _, _⟩ := DataW.trod_int Try.underlying2 k1
    obtain ⟨z2, e2, _, _⟩ := DataW.trod_int Try.underlying3 k2
    simp only [List.cons.injEq, and_true] at e0 e1 e2
    subst e0 e1 e2
    rw [c0, c1, c2]
    have hb := World.block_lt_of_cell? w _ c0
    rw [add_at hs] at hb c0 c1 c2
    refine ⟨a'.block, a'.off, ?_, hb, c0, ?_, ?_⟩
    · obtain ⟨b, o, s⟩ := a'
      simp only at hs
      subst hs
      rfl
    · rw [Nat.add_assoc]; exact c1
    · rw [Nat.add_assoc]; exact c2
end Go.Proofs.Ytoihhckiacmfcaa
