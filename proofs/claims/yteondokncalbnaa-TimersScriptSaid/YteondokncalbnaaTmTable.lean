/- timers: a table in memory; New, made, Next, Len. -/
import Derived.Test.YteondokncalbnaaTmPlain
namespace Go.Proofs.Yteondokncalbnaa
open Go.RowKit

/-- what belongs to a table -/
def TSet (t p : Nat) (v : Value) (M A : Nat) : Nat → Prop := fun i => i = t ∨ i = A ∨ HS p v M i
structure TabS (w : World) (t p : Nat) (v : Value) (M A : Nat) (xs : List Th) (nx : Nat) : Prop where
  blk : Blk w t 39 [.pointer (some ⟨p, 0, none⟩), .map (some A)]
  st : HStT w p v M xs nx
  at_ : ∃ m, MapIs kNm w A m xs.length ∧ TabP xs m
  ft : ¬ HS p v M t
  fa : ¬ HS p v M A
  ta : t ≠ A
section
variable {w w' : World} {t p : Nat} {v v' : Value} {M A : Nat} {xs : List Th} {nx : Nat}
theorem TabS.keep {S : Nat → Prop} (h : TabS w t p v M A xs nx) (k : Turns S w w') (hS : ∀ i, TSet t p v M A i → ¬ S i) : TabS w' t p v M A xs nx := by
  obtain ⟨m, h1, h2⟩ := h.at_
  exact ⟨h.blk.turns k (hS t (.inl rfl)), h.st.keep k (fun i hi => hS i (.inr (.inr hi))), ⟨m, h1.turns k (hS A (.inr (.inl rfl))), h2⟩, h.ft, h.fa, h.ta⟩
theorem TabS.bel (h : TabS w t p v M A xs nx) (k : Below w.heap.size w w') : TabS w' t p v M A xs nx := h.keep (.of_below (S := fun _ => False) k) (fun _ _ => id)
theorem TabS.lts (h : TabS w t p v M A xs nx) : ∀ i, TSet t p v M A i → i < w.heap.size := by
  rintro i (rfl | rfl | hi)
  · exact h.blk.lt
  · obtain ⟨m, h1, _⟩ := h.at_; exact h1.lt
  · exact h.st.lts i hi
theorem HS.own {v v' : Value} (e : v'.ownBlock = v.ownBlock) {i : Nat} : HS p v' M i ↔ HS p v M i := by unfold HS; rw [e]
end

set_option maxRecDepth 20000 in
theorem newTab (w : World) : Calls Try.prog 23 #[] w fun e w' => ∃ t p M A, e = .returned (.pointer (some ⟨t, 0, none⟩)) ∧ TabS w' t p (.slice none 0 0) M A [] 0 ∧ (∀ i, TSet t p (.slice none 0 0) M A i → w.heap.size ≤ i) ∧ Below w.heap.size w w' := by
  have hmm := @run_makeMap Try.prog
  go_enter Try.func23, Try.ntmps23
  go_wp2_with fail
  refine (newT w).mono ?_
  rintro e w1 ⟨p, M, rfl, h0, hp, hM, hb⟩
  have H0 := Lib.hid h0
  have HB := Lib.hid hb
  have HP := Lib.hid hp
  have HM := Lib.hid hM
  clear h0 hb hp hM
  go_wp2_with fail
  go_ret
  have hl := H0.out.lts
  have hs := HB.out.size
  refine ⟨_, p, M, w1.heap.size, rfl, ⟨Blk.new2 w1 _ 39 [.pointer (some ⟨p, 0, none⟩), .map (some w1.heap.size)], H0.out.bel (Below.new2 w1 _ _), ⟨_, (MapIs.empty kNm w1).alloc _, TabP.nil⟩, fun h => by have := hl _ h; omega, fun h => by have := hl _ h; omega, by omega⟩, ?_, HB.out.trans ((Below.new2 w1 _ _).mono hs)⟩
  rintro i (rfl | rfl | rfl | rfl | hi)
  · omega
  · exact hs
  · exact HP.out
  · exact HM.out
  · simp [Value.ownBlock] at hi

set_option maxRecDepth 20000 in
theorem made1 (w : World) (t p : Nat) (hc : w.cell? ⟨t, 0, none⟩ = some (.pointer (some ⟨p, 0, none⟩))) : Calls Try.prog 32 #[.pointer (some ⟨t, 0, none⟩)] w fun e w' => e = .returned (.bool true) ∧ w' = w := by
  go_enter Try.func32, Try.ntmps32
  go_wp2_with fail
  go_ret
  exact ⟨rfl, rfl⟩
theorem made_nil (w : World) : Calls Try.prog 32 #[.pointer none] w fun e w' => e = .returned (.bool false) ∧ w' = w := by
  go_enter Try.func32, Try.ntmps32
  go_wp2_with fail
  go_ret
  exact ⟨rfl, rfl⟩
theorem made_zero (w : World) (t : Nat) (hc : w.cell? ⟨t, 0, none⟩ = some (.pointer none)) : Calls Try.prog 32 #[.pointer (some ⟨t, 0, none⟩)] w fun e w' => e = .returned (.bool false) ∧ w' = w := by
  go_enter Try.func32, Try.ntmps32
  go_wp2_with fail
  go_ret
  exact ⟨rfl, rfl⟩

theorem TabS.c0 {w : World} {t p : Nat} {v : Value} {M A : Nat} {xs : List Th} {nx : Nat} (h : TabS w t p v M A xs nx) : w.cell? ⟨t, 0, none⟩ = some (.pointer (some ⟨p, 0, none⟩)) := by
  have := h.blk.cell 0
  simpa using this
theorem TabS.c1 {w : World} {t p : Nat} {v : Value} {M A : Nat} {xs : List Th} {nx : Nat} (h : TabS w t p v M A xs nx) : w.cell? ⟨t, 1, none⟩ = some (.map (some A)) := by
  have := h.blk.cell 1
  simpa using this

set_option maxRecDepth 20000 in
theorem lenTab (w : World) (t p : Nat) (v : Value) (M A : Nat) (xs : List Th) (nx : Nat) (h : TabS w t p v M A xs nx) : Calls Try.prog 13 #[.pointer (some ⟨t, 0, none⟩)] w fun e w' => e = .returned (.int .i64 (xs.length : Int)) ∧ w' = w := by
  have hm := Lib.hid (made1 w t p h.c0)
  have c1 := h.c1
  obtain ⟨m, h1, _⟩ := h.at_
  have H1 := Lib.hid h1
  clear h h1
  go_enter Try.func13, Try.ntmps13
  go_wp2_with (first | (go_at_call 32; refine hm.out.mono ?_; rintro e w' ⟨rfl, rfl⟩) | (at_len; refine wpl_len _ rfl _ 37 rfl Try.underlying37 H1.out rfl ?_))
  go_ret
  exact ⟨rfl, rfl⟩

set_option maxRecDepth 20000 in
theorem next0 (w : World) (t p : Nat) (v : Value) (M A : Nat) (nx : Nat) (h : TabS w t p v M A [] nx) : Calls Try.prog 12 #[.pointer (some ⟨t, 0, none⟩)] w fun e w' => e = .returned (.tuple #[.int .i64 0, .bool false]) ∧ Below w.heap.size w w' := by
  have hm := Lib.hid (made1 w t p h.c0)
  have hk := Lib.hid (peek0T w p v M nx h.st)
  have c0 := h.c0
  clear h
  go_enter Try.func12, Try.ntmps12
  go_wp2_with (go_at_call 32; refine hm.out.mono ?_; rintro e w' ⟨rfl, rfl⟩)
  refine hk.out.mono ?_
  rintro e w1 ⟨rfl, hb⟩
  have HB := Lib.hid hb
  clear hb
  go_wp2_with fail
  go_ret2
  exact ⟨rfl, HB.out.trans ((Below.new w1 _).mono HB.out.size)⟩

set_option maxRecDepth 20000 in
theorem next1 (w : World) (t p : Nat) (v : Value) (M A : Nat) (xs : List Th) (nx : Nat) (h : TabS w t p v M A xs nx) (h0 : 0 < xs.length) : Calls Try.prog 12 #[.pointer (some ⟨t, 0, none⟩)] w fun e w' => e = .returned (.tuple #[.int .i64 (gT xs 0).key, .bool true]) ∧ Below w.heap.size w w' := by
  have hm := Lib.hid (made1 w t p h.c0)
  have hk := peek1T w p v M xs nx h.st h0
  obtain ⟨m, _, hP⟩ := h.at_
  obtain ⟨o, k, hv, _⟩ := hP.form _ (mem_gT h0)
  rw [hv] at hk
  simp only [timV] at hk
  have HK := Lib.hid hk
  have c0 := h.c0
  clear h hP hv hk
  generalize gT xs 0 = x at *
  go_enter Try.func12, Try.ntmps12
  go_wp2_with (go_at_call 32; refine hm.out.mono ?_; rintro e w' ⟨rfl, rfl⟩)
  refine HK.out.mono ?_
  rintro e w1 ⟨rfl, hb⟩
  have HB := Lib.hid hb
  clear hb
  go_wp2_with fail
  go_ret2
  exact ⟨rfl, HB.out.trans ((Below.new w1 _).mono HB.out.size)⟩
end Go.Proofs.Yteondokncalbnaa
