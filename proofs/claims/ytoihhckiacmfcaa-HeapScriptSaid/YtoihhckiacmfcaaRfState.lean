/- HeapScript: the two heaps side by side in memory. -/
import Derived.Test.YtoihhckiacmfcaaRfRem
import Derived.Test.YtoihhckiacmfcaaHpFill
namespace Go.Proofs.Ytoihhckiacmfcaa
open Go.RowKit

structure ScS (w wr : World) (p : Nat) (v : Value) (M : Nat) (xs : List Th) (r : Nat) (rv : Value) (rs : List Tri) (nx : Nat) : Prop where
  hp : HStI wr p v M xs nx
  rf : RS wr r rv rs nx
  cor : Cor xs rs nx
  hlo : ∀ i, HS p v M i → w.heap.size ≤ i
  rlo : ∀ i, RSet r rv i → w.heap.size ≤ i
  dis : ∀ i, HS p v M i → ¬ RSet r rv i
  bel : Below w.heap.size w wr
section
variable {w wr w1 w2 : World} {p : Nat} {v v' : Value} {M : Nat} {xs zs : List Th} {r : Nat} {rv rv' : Value} {rs ss : List Tri} {nx nx' : Nat}
theorem ScS.bel' (h : ScS w wr p v M xs r rv rs nx) (hb : Below wr.heap.size wr w1) : ScS w w1 p v M xs r rv rs nx :=
  ⟨h.hp.bel hb, h.rf.bel hb, h.cor, h.hlo, h.rlo, h.dis, h.bel.trans (hb.mono h.bel.size)⟩
/-- the document's heap behind a deed done to the program's -/
theorem ScS.ref1 (h : ScS w wr p v M xs r rv rs nx) (ht : Turns (HS p v M) wr w1) : RS w1 r rv rs nx := h.rf.keep ht fun i hi hs => h.dis i hs hi
theorem ScS.step (h : ScS w wr p v M xs r rv rs nx) (hs : HStI w1 p v' M zs nx') (hn : Next wr v v') (ht : Turns (HS p v M) wr w1) (hr : RS w2 r rv' ss nx') (hn2 : NextR w1 rv rv') (ht2 : Turns (RSet r rv) w1 w2) (hc : Cor zs ss nx') :
    ScS w w2 p v' M zs r rv' ss nx' := by
  have b1 : Below w.heap.size w w1 := h.bel.trans (ht.below h.bel.size fun i _ hs => h.hlo i hs)
  have b2 : Below w.heap.size w w2 := b1.trans (ht2.below b1.size fun i _ hs => h.rlo i hs)
  have d1 : ∀ i, HS p v' M i → ¬ RSet r rv i := fun i hi hs => by
    have hl := h.rf.lts i hs
    exact h.dis i (HS.next hn hl hi) hs
  have hl1 := hs.lts
  refine ⟨hs.keep ht2 d1, hr, hc, HS.lo h.hlo hn h.bel.size, hn2.lo h.rlo b1.size, ?_, b2⟩
  rintro i hi (rfl | hs2)
  · exact d1 _ hi (.inl rfl)
  · rcases hn2 i hs2 with e | e
    · exact d1 i hi (.inr e)
    · have := hl1 i hi; omega
theorem ScS.same (h : ScS w wr p v M xs r rv rs nx) : ∀ {w' : World}, w' = wr → ScS w w' p v M xs r rv rs nx := fun e => e ▸ h
/-- the program's heap is copied, and the elder one turned -/
theorem ScS.copy {p' M' : Nat} (h : ScS w wr p v M xs r rv rs nx) (hs : HStI w1 p' v' M' xs nx) (hlo : ∀ i, HS p' v' M' i → wr.heap.size ≤ i) (hb : Below wr.heap.size wr w1) (ht : Turns (HS p v M) w1 w2) :
    ScS w w2 p' v' M' xs r rv rs nx := by
  have hlt := h.hp.lts
  have hrl := h.rf.lts
  have b1 : Below w.heap.size w w1 := h.bel.trans (hb.mono h.bel.size)
  refine ⟨hs.keep ht (fun i hi e => by have := hlo i hi; have := hlt i e; omega), (h.rf.bel hb).keep ht (fun i hi hs => h.dis i hs hi), h.cor, fun i hi => Nat.le_trans h.bel.size (hlo i hi), h.rlo, fun i hi e => by have := hlo i hi; have := hrl i e; omega, b1.trans (ht.below b1.size fun i _ hs => h.hlo i hs)⟩
theorem ScS.lenI (h : ScS w wr p v M xs r rv rs nx) : rs.length = xs.length := h.cor.len
end
/-! ### the two answers are one -/
theorem tri_vals {xs : List Th} {rs : List Tri} {nx q j : Nat} (hc : Cor xs rs nx) (hj : j < xs.length) (e : gR rs q = tri (gT xs j)) :
    (gT xs j).key = (gR rs q).1 ∧ ((gT xs j).num : Int) = (gR rs q).2.1 ∧ (gT xs j).v 0 = .int .i64 (gR rs q).2.2 := by
  obtain ⟨a, ha⟩ := hc.int _ (mem_gT hj)
  rw [e]
  refine ⟨rfl, rfl, ?_⟩
  unfold tri
  rw [ha]
  rfl
theorem num_in {xs : List Th} {rs : List Tri} {nx : Nat} (hc : Cor xs rs nx) (k : Int) : (∃ j, j < xs.length ∧ ((gT xs j).num : Int) = k) ∨ ((∀ t ∈ xs, (t.num : Int) ≠ k) ∧ ∀ x ∈ rs, x.2.1 ≠ k) := by
  by_cases h : ∃ j, j < xs.length ∧ ((gT xs j).num : Int) = k
  · exact .inl h
  · refine .inr ⟨fun t ht e => ?_, fun x hx e => ?_⟩
    · obtain ⟨j, hj, rfl⟩ := List.mem_iff_getElem.1 ht
      exact h ⟨j, hj, by rw [gT_of hj]; exact e⟩
    · obtain ⟨t, ht, rfl⟩ := List.mem_map.1 (hc.perm.mem_iff.2 hx)
      obtain ⟨j, hj, rfl⟩ := List.mem_iff_getElem.1 ht
      exact h ⟨j, hj, by rw [gT_of hj]; exact e⟩
/-- a slice of steps that came in -/
structure Stps (w : World) (a : Option Addr) (n : Nat) (d key num : Nat → Int) : Prop where
  cell : ∀ i, i < n → ∃ b o, a = some ⟨b, o, none⟩ ∧ b < w.heap.size ∧ w.cell? ⟨b, o + i * 3, none⟩ = some (.int .u8 (d i)) ∧ w.cell? ⟨b, o + i * 3 + 1, none⟩ = some (.int .i64 (key i)) ∧ w.cell? ⟨b, o + i * 3 + 2, none⟩ = some (.int .i64 (num i))
theorem Stps.bel {w w' : World} {a : Option Addr} {n : Nat} {d key num : Nat → Int} (h : Stps w a n d key num) (hb : Below w.heap.size w w') : Stps w' a n d key num :=
  ⟨fun i hi => by
    obtain ⟨b, o, e, hx, c0, c1, c2⟩ := h.cell i hi
    have hk : ∀ j, w'.cell? ⟨b, j, none⟩ = w.cell? ⟨b, j, none⟩ := fun j => hb.cell (p := ⟨b, j, none⟩) hx
    exact ⟨b, o, e, Nat.lt_of_lt_of_le hx hb.size, (hk _).trans c0, (hk _).trans c1, (hk _).trans c2⟩⟩
end Go.Proofs.Ytoihhckiacmfcaa
