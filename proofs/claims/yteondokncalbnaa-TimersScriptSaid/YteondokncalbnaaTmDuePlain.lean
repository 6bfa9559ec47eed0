/- timers: what Due takes, in plain Lean. -/
import Derived.Test.YteondokncalbnaaTmTable
namespace Go.Proofs.Yteondokncalbnaa
open Go.RowKit

/-- what came due of xs0: ls, in order; xs is left -/
structure DueP (now : Int) (xs0 ls xs : List Th) : Prop where
  perm : (ls ++ xs).Perm xs0
  srt : ls.Pairwise Th.le
  low : ∀ a ∈ ls, ∀ b ∈ xs, a.le b
  due : ∀ a ∈ ls, a.key ≤ now
theorem DueP.start (now : Int) (xs : List Th) : DueP now xs [] xs := ⟨.refl _, List.Pairwise.nil, by simp, by simp⟩
theorem DueP.step {now : Int} {xs0 ls xs zs : List Th} (h : DueP now xs0 ls xs) (hh : Heap xs) (h0 : 0 < xs.length) (hp : (gT xs 0 :: zs).Perm xs) (hd : (gT xs 0).key ≤ now) : DueP now xs0 (ls ++ [gT xs 0]) zs := by
  have hx := mem_gT h0
  have hz : ∀ b ∈ zs, b ∈ xs := fun b hb => hp.mem_iff.1 (List.mem_cons_of_mem _ hb)
  have hl : ∀ b ∈ xs, (gT xs 0).le b := fun b hb => by
    obtain ⟨j, hj, rfl⟩ := List.mem_iff_getElem.1 hb
    have := hh.least j hj
    rwa [gT_of hj] at this
  refine ⟨?_, ?_, ?_, ?_⟩
  · rw [List.append_assoc]
    exact (hp.append_left ls).trans h.perm
  · rw [List.pairwise_append]
    refine ⟨h.srt, by simp, fun a ha b hb => ?_⟩
    simp at hb
    subst hb
    exact h.low a ha _ hx
  · intro a ha b hb
    rcases List.mem_append.1 ha with ha | ha
    · exact h.low a ha b (hz b hb)
    · simp at ha; subst ha; exact hl b (hz b hb)
  · intro a ha
    rcases List.mem_append.1 ha with ha | ha
    · exact h.due a ha
    · simp at ha; subst ha; exact hd
/-- what is left is due later -/
theorem later {now : Int} {xs : List Th} (hh : Heap xs) (hd : 0 < xs.length → ¬ (gT xs 0).key ≤ now) : ∀ b ∈ xs, now < b.key := fun b hb => by
  obtain ⟨j, hj, rfl⟩ := List.mem_iff_getElem.1 hb
  have := hh.least j hj
  rw [gT_of hj] at this
  have := hd (by omega)
  unfold Th.le at *
  omega
/-- a timer's cells -/
def tmC (t : Th) : List Value := [t.v 0, t.v 1, t.v 2]
theorem tmC_len (t : Th) : (tmC t).length = 3 := rfl
theorem info_tm : (Try.prog.info? 31).map (fun i => (i.zero, i.size, i.bytes)) = some (some (.agg #[.int .i64 0, .string ⟨#[]⟩, .int .i64 0]), 3, 32) := by kernel_rfl
def nk (xs : List Th) : Int := if 0 < xs.length then (gT xs 0).key else 0
def isB (xs : List Th) : Bool := decide (0 < xs.length)
theorem nk_pos {xs : List Th} (h : 0 < xs.length) : nk xs = (gT xs 0).key := if_pos h
theorem isB_pos {xs : List Th} (h : 0 < xs.length) : isB xs = true := decide_eq_true h
theorem isB_nil : isB [] = false := rfl
theorem nextTab (w : World) (t p : Nat) (v : Value) (M A : Nat) (xs : List Th) (nx : Nat) (h : TabS w t p v M A xs nx) : Calls Try.prog 12 #[.pointer (some ⟨t, 0, none⟩)] w fun e w' => e = .returned (.tuple #[.int .i64 (nk xs), .bool (isB xs)]) ∧ Below w.heap.size w w' := by
  by_cases h0 : 0 < xs.length
  · rw [nk_pos h0, isB_pos h0]
    exact next1 w t p v M A xs nx h h0
  · obtain rfl : xs = [] := List.eq_nil_of_length_eq_zero (by omega)
    exact next0 w t p v M A nx h

theorem TabS.popped {wq w2 wX w3 : World} {t p : Nat} {v' v2 : Value} {M A : Nat} {xs zs : List Th} {nx : Nat} {x : Th} {m : Nm → Option Value} (h : TabS wq t p v' M A xs nx) (hs : HStT w2 p v2 M zs nx) (ho : v2.ownBlock = v'.ownBlock) (ht : Turns (HS p v' M) wq w2)
    (hb : Below w2.heap.size w2 wX) (hp : (x :: zs).Perm xs) (hP : TabP xs m) (hm : MapIs kNm w3 A (fun k' => if k' = nmOf x then none else m k') (if (m (nmOf x)).isSome then xs.length - 1 else xs.length)) (hT : MapTurn wX w3 A) :
    TabS w3 t p v2 M A zs nx ∧ Turns (TSet t p v' M A) wq w3 := by
  have e1 : (m (nmOf x)).isSome = true := by rw [hP.is x (hp.mem_iff.1 List.mem_cons_self)]; rfl
  have e2 := hp.length_eq
  rw [List.length_cons] at e2
  rw [e1, if_pos rfl, show xs.length - 1 = zs.length from by omega] at hm
  have TA : Turns (fun i => i = A) wX w3 := .of_map hT rfl
  have TQ : Turns (TSet t p v' M A) wq w3 := ((ht.mono (fun i _ e => .inr (.inr e))).then (.of_below hb)).trans TA (fun i _ e => .inr (.inl e))
  have hHS : ∀ i, HS p v2 M i ↔ HS p v' M i := fun i => HS.own ho
  refine ⟨⟨?_, ?_, ⟨_, hm, hP.out h.st.apart hp⟩, fun e => h.ft ((hHS t).1 e), fun e => h.fa ((hHS A).1 e), h.ta⟩, TQ⟩
  · exact ((h.blk.turns ht h.ft).bel hb).turns TA h.ta
  · exact (hs.bel hb).keep TA (fun i hi e => h.fa ((hHS A).1 (e ▸ hi)))
end Go.Proofs.Yteondokncalbnaa
