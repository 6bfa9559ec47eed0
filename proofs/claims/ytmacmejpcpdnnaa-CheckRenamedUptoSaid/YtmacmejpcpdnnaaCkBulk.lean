/- check: of a tree whose bulk is bounded no text is longer. -/
import Derived.Test.YtmacmejpcpdnnaaCkTreeIn
namespace Go.Proofs.Ytmacmejpcpdnnaa
open Go.RowKit Go.ChangeShapes Go.WideShapes Go.Deep

section
variable {H : Type} {enc : TypeId × Value → H} {P : Program} {w : World} {base : Nat} {spare : Nat → Bool} {held : Bool}
theorem open_rowsD {t e : TypeId} {fs : Array Field} {fuel : Nat} {cs : List Value} {x : DataW H × List MemPlace} (ht : P.underlying t = some (.slice e)) (he : P.underlying e = some (.struct fs))
    (hone : oneCellFields P fs = true) (hC : P.cellsOf e = fs.size) (h : DataW.trod enc P w base spare held fuel t cs = some x) :
    cs = [.slice none 0 0] ∨
    ∃ (a : Addr) (len cap : Nat) (D : Nat → DataW H) (rest : List (DataW H)), cs = [.slice (some a) len cap] ∧ x.1 = .slice ((List.range len).map D) rest ∧
      ∀ i, i < len → ∃ ys : List (DataW H × List MemPlace), D i = .agg (ys.map (·.1)) ∧ ∀ (j : Nat) (f : Field), fs[j]? = some f → ∃ (v : Value) (y : DataW H × List MemPlace) (n : Nat), w.cell? (a.add (i * fs.size + j)) = some v ∧ DataW.trod enc P w base spare held n f.type [v] = some y ∧ ys[j]? = some y := by
  rcases open_slice ht h with h0 | ⟨a, len, cap, m, n, D, Pl, hcs, hb, hl, hm, hmm, hx, hi⟩
  · exact .inl h0.1
  · refine .inr ⟨a, len, cap, D, _, hcs, by rw [hx], fun i hil => ?_⟩
    have him : i < m := by rw [hmm]; split <;> omega
    obtain ⟨cs', hc, ht'⟩ := hi i him
    rw [hC] at hc
    obtain ⟨ys, n', hn', hy, hlen, hyl, hf⟩ := DataW.trod_struct he ht'
    obtain ⟨_, hcl, hat⟩ := World.cells?_some hc
    injection hy with hy _
    refine ⟨ys, hy, fun j f hj => ?_⟩
    obtain ⟨ho, hk⟩ := hone_of hone j f hj
    have hjl : j < fs.size := (Array.getElem?_eq_some_iff.1 hj).1
    have hcell := hat j hjl
    have hv : cs'[j]? = some (cs'[j]'(by omega)) := List.getElem?_eq_getElem (by omega)
    have h1 := hf j f hj
    rw [ho, hk] at h1
    have hone' : (cs'.drop j).take 1 = [cs'[j]'(by omega)] := by
      rw [List.drop_eq_getElem_cons (by omega)]
      rfl
    rw [hone'] at h1
    have hys : ys[j]? = some (ys[j]'(by omega)) := List.getElem?_eq_getElem (by omega)
    refine ⟨_, _, n', ?_, h1.trans hys, hys⟩
    rw [← Go.Deep.add_add, hcell, hv]
end
theorem part_le {H : Type} {d : DataW H} {l : List (DataW H)} (h : d ∈ l) : Rows.uptoBulk d ≤ Rows.uptoBulkAll l := by
  induction l with
  | nil => cases h
  | cons x r ih =>
    simp only [Rows.uptoBulkAll]
    cases List.mem_cons.1 h with
    | inl e => subst e; omega
    | inr e => have := ih e; omega
theorem text_le {H : Type} {enc : TypeId × Value → H} {w : World} {base : Nat} {spare : Nat → Bool} {held : Bool} {fuel : Nat} {a : Option Addr} {n c : Nat} {x : DataW H × List MemPlace} {t : List Tw}
    (h : DataW.trod enc Try.prog w base spare held fuel 23 [.slice a n c] = some x) (hT : TreeIn w a n c t) : ∀ i (hi : i < t.length), t[i].text.size ≤ Rows.uptoBulk x.1 := by
  intro i hi
  have hin : i < n := by rw [← hT.tw.len]; exact hi
  rcases open_rowsD Try.underlying23 twig_struct twig_one twig_cells h with e | ⟨a', len, cap, D, rest, e, hx, hf⟩
  · simp at e
    omega
  · simp at e
    obtain ⟨rfl, rfl, rfl⟩ := e
    obtain ⟨f3, g3, t3⟩ := twig_f3
    obtain ⟨ys, hD, hy⟩ := hf i hin
    rw [twig_size] at hy
    obtain ⟨v, y, m, hc, ht, hyj⟩ := hy 3 f3 g3
    rw [t3] at ht
    obtain ⟨s, e1, e2, _⟩ := DataW.trod_string Try.underlying9 ht
    simp only [List.cons.injEq, and_true] at e1
    subst e1
    obtain ⟨b, o, ea, _, _, _, _, _, c3⟩ := hT.tw.cell i hi
    injection ea with ea
    subst ea
    rw [add_at rfl] at hc
    have c3' : w.cell? ⟨b, o + (i * 4 + 3), none⟩ = some (.string t[i].text) := by rw [show o + (i * 4 + 3) = o + i * 4 + 3 from by omega]; exact c3
    rw [c3'] at hc
    injection hc with hc
    injection hc with hc
    have m1 : y.1 ∈ ys.map (·.1) := List.mem_map.2 ⟨y, List.mem_of_getElem? hyj, rfl⟩
    have m2 : D i ∈ (List.range n).map D := List.mem_map.2 ⟨i, List.mem_range.2 hin, rfl⟩
    have l1 := part_le m1
    have l2 := part_le m2
    rw [hD] at l2
    rw [hx]
    rw [e2] at l1
    simp only [Rows.uptoBulk] at l1 l2 ⊢
    have hs : s.data.toList.length = s.size := rfl
    rw [hc]
    omega
end Go.Proofs.Ytmacmejpcpdnnaa
