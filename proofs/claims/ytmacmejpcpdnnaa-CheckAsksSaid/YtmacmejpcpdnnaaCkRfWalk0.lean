/- check: what the document's walk wants: small laws, a copy of the variables that are seen. -/
import Derived.Test.YtmacmejpcpdnnaaCkRfMake
namespace Go.Proofs.Ytmacmejpcpdnnaa
open Go.RowKit Go.Deep

theorem wrongR_made (s : RS) (a e : Nat) : (wrongR s a e).made = s.made := by unfold wrongR; split <;> rfl
theorem useR_made (x : Tw) (a : Nat) (l : Vrs) (s : RS) : (useR x a l s).made = s.made := by
  unfold useR
  split
  · split
    · rw [wrongR_made]
    · rfl
  · rfl
theorem mkR_made (x : Tw) (a : Nat) (l : Vrs) (s : RS) : (mkR x a l s).made = s.made + 1 := rfl
theorem d_made : ∀ (f : Fo) (a : Nat) (l : Vrs) (s : RS), (dE f a l s).made ≤ s.made + f.size ∧ (dB f a l s).made ≤ s.made + f.size := by
  intro f
  induction f with
  | nil => intro a l s; exact ⟨by simp [dE], by simp [dB]⟩
  | cons x k r ihk ihr =>
    intro a l s
    have h1 : (if x.op = 3 then dB k (a + 1) l (useR x a l s) else dE k (a + 1) l (useR x a l s)).made ≤ s.made + k.size := by
      split
      · have := (ihk (a + 1) l (useR x a l s)).2; rw [useR_made] at this; exact this
      · have := (ihk (a + 1) l (useR x a l s)).1; rw [useR_made] at this; exact this
    refine ⟨?_, ?_⟩
    · simp only [dE, Fo.size]
      have := (ihr (a + (1 + k.size)) l (if x.op = 3 then dB k (a + 1) l (useR x a l s) else dE k (a + 1) l (useR x a l s))).1
      omega
    · simp only [dB, Fo.size]
      split
      · have h2 := (ihk (a + 1) l (mkR x a l s)).1
        rw [mkR_made] at h2
        have := (ihr (a + (1 + k.size)) (l ++ [(x.text, (s.made : Int))]) (dE k (a + 1) l (mkR x a l s))).2
        omega
      · have := (ihr (a + (1 + k.size)) l (if x.op = 3 then dB k (a + 1) l (useR x a l s) else dE k (a + 1) l (useR x a l s))).2
        omega
theorem dE_cons (x : Tw) (k r : Fo) (a : Nat) (l : Vrs) (s : RS) : dE (.cons x k r) a l s = dE r (a + (1 + k.size)) l (dE (.cons x k .nil) a l s) := by simp only [dE]
theorem dB_cons (x : Tw) (k r : Fo) (a : Nat) (l : Vrs) (s : RS) (h : x.op ≠ 4) : dB (.cons x k r) a l s = dB r (a + (1 + k.size)) l (dE (.cons x k .nil) a l s) := by simp only [dB, dE]; rw [if_neg h]
theorem info_var : (Try.prog.info? 56).map (fun i => (i.zero, i.size, i.bytes)) = some (some (.agg #[.string ⟨#[]⟩, .int .i64 0]), 2, 24) := by kernel_rfl
theorem vrC_one (l : Vrs) : ∀ u ∈ l.flatMap vrC, u.oneCell' = true := by
  intro u hu
  obtain ⟨x, _, hx⟩ := List.mem_flatMap.1 hu
  simp [vrC] at hx
  rcases hx with rfl | rfl <;> rfl
theorem vs_news {w : World} {b c : Nat} {l : Vrs} (h : Vs w (some ⟨b, 0, none⟩) c l) : ∀ j u, (l.flatMap vrC)[j]? = some u → w.cell? ((⟨b, 0, none⟩ : Addr).add j) = some u := by
  intro j u hu
  have hj : j < l.length * 2 := by
    have := (List.getElem?_eq_some_iff.1 hu).1
    rwa [flat_len vrC 2 vrC_len] at this
  have hi : j / 2 < l.length := by omega
  have hr : j % 2 < 2 := Nat.mod_lt _ (by decide)
  have he : j = j / 2 * 2 + j % 2 := by omega
  rw [he, flat_get vrC 2 vrC_len l (j / 2) (j % 2) hr, List.getElem?_eq_getElem hi] at hu
  obtain ⟨b2, e2, _, c0, c1⟩ := h.cell (j / 2) hi
  injection e2 with e2
  injection e2 with e2 _ _
  subst e2
  rw [add_at rfl]
  have hrr : j % 2 = 0 ∨ j % 2 = 1 := by omega
  rcases hrr with hr | hr <;> rw [hr] at he hu <;> simp [vrC] at hu <;> subst hu
  · rw [show 0 + j = j / 2 * 2 from by omega]; exact c0
  · rw [show 0 + j = j / 2 * 2 + 1 from by omega]; exact c1
theorem vcopy_run (w : World) (base g : Nat) (hown : w.ownsRow base 56 2 (.slice (some ⟨g, 0, none⟩) 0 0) 0 []) (hb : base ≤ w.heap.size) (A : Option Addr) (c : Nat) (l : Vrs) (hv : Vs w A c l) (hn : l.length ≤ 100000) (ty : TypeId) :
    ∃ v' w', (Builtin.append_ #[54, 54] ty #[.slice (some ⟨g, 0, none⟩) 0 0, .slice A l.length c]).run Try.prog w = .ok v' w' ∧ w'.ownsRow base 56 2 v' l.length (l.flatMap vrC) ∧ Below base w w' := by
  obtain ⟨i0, hi, hz0, hz1, hz2⟩ := info_parts info_var
  have hgb : base ≤ g := (row_lo (g := g) hown rfl).1
  by_cases h0 : l.length = 0
  · have hl0 : l = [] := List.eq_nil_of_length_eq_zero h0
    subst hl0
    have hsrc : Src Try.prog i0.size 54 (.slice A 0 c) 0 [] w := by
      cases A with
      | none => exact Src.ofNil w Try.underlying54 c
      | some a => exact Src.ofSlice w Try.underlying54 a 0 c [] (by simp) (by simp) (by simp)
    have hrun := run_append_nothing w 54 54 ty 56 i0 Try.underlying54 hi (some ⟨g, 0, none⟩) 0 0 (Nat.le_refl _) _ hsrc
    exact ⟨_, w, hrun, hown, Below.refl _ _⟩
  · obtain ⟨b, ea, _⟩ := hv.cell 0 (by omega)
    subst ea
    obtain ⟨v', w', hrun, r1, r2, _, _⟩ := run_append_own_at (P := Try.prog) w base 54 ty 56 i0 (.agg #[.string ⟨#[]⟩, .int .i64 0]) 2 24 Try.underlying54 hi hz0 hz1 hz2 rfl (by decide) (.slice (some ⟨g, 0, none⟩) 0 0) 0 [] hown ⟨b, 0, none⟩ l.length c (l.flatMap vrC) (by rw [flat_len vrC 2 vrC_len]) (vs_news hv) (vrC_one l) (by unfold maxLen; omega) (by omega) hb
    refine ⟨v', w', hrun, ?_, (Below.refl _ _).grown r2 hb (fun r e => ?_)⟩
    · simpa using r1
    · simp only [Value.ownBlock, Option.some.injEq] at e
      have e' : g = r := e
      omega
theorem wpl_vcopy {ops : Array Oper} {rest : List Oper} {o : Oper} {a : Act} {Q : Exit → Act → World → Prop} (w : World) (hgd : o.guard = none) (s x : Operand)
    (ho : o.op = .call { callee := .builtin .append, args := #[s, x], argTypes := #[54, 54] }) (base g : Nat) (hs : a.eval s = .slice (some ⟨g, 0, none⟩) 0 0) (hown : w.ownsRow base 56 2 (.slice (some ⟨g, 0, none⟩) 0 0) 0 []) (hb : base ≤ w.heap.size)
    (A : Option Addr) (c : Nat) (l : Vrs) (hx : a.eval x = .slice A l.length c) (hv : Vs w A c l) (hn : l.length ≤ 100000)
    (h : ∀ v' w', w'.ownsRow base 56 2 v' l.length (l.flatMap vrC) → Below base w w' → wpList Try.prog ops Q rest (a.put o.dst v') w') :
    wpList Try.prog ops Q (o :: rest) a w := by
  refine wpList_plain hgd fun K hK => ?_
  obtain ⟨v', w', hr, h2, h3⟩ := vcopy_run w base g hown hb A c l hv hn o.type
  unfold Oper.wp execOp
  simp only [ho, resolve, invoke, builtin, Sem.run_bind, Sem.run_pure, Result.andThen_ok, List.map_toArray, List.map_cons, List.map_nil, hs, hx, hr]
  exact hK _ _ (h v' w' h2 h3)
/-- what a walk's call says -/
def RwY (w : World) (base p : Nat) (a : Option Addr) (n c : Nat) (t : List Tw) (g cL : Nat) (s' : RS) (e : Ending) (w' : World) : Prop := e = .returned (.tuple #[]) ∧ RSt w' base p a n c t g cL s' ∧ Turns (RSet p g) w w'
end Go.Proofs.Ytmacmejpcpdnnaa
