/- check: a tree's twigs, appended to an empty tree. -/
import Derived.Test.YtmacmejpcpdnnaaCkAwake
import Derived.Deep.Upon
namespace Go.Proofs.Ytmacmejpcpdnnaa
open Go.RowKit Go.Deep

theorem info_twig : (Try.prog.info? 34).map (fun i => (i.zero, i.size, i.bytes)) = some (some (.agg #[.int .u8 0, .int .i64 0, .int .i64 0, .string ⟨#[]⟩]), 4, 40) := by kernel_rfl
theorem twC_len (x : Tw) : (twC x).length = 4 := rfl
theorem twC_one (t : List Tw) : ∀ u ∈ t.flatMap twC, u.oneCell' = true := by
  intro u hu
  obtain ⟨x, _, hx⟩ := List.mem_flatMap.1 hu
  simp [twC] at hx
  rcases hx with rfl | rfl | rfl | rfl <;> rfl
theorem tws_news {w : World} {B n : Nat} {b o : Nat} {t : List Tw} (h : Tws w B (some ⟨b, o, none⟩) n t) : ∀ j u, (t.flatMap twC)[j]? = some u → w.cell? ((⟨b, o, none⟩ : Addr).add j) = some u := by
  intro j u hu
  have hj : j < t.length * 4 := by
    have := (List.getElem?_eq_some_iff.1 hu).1
    rwa [flat_len twC 4 twC_len] at this
  have hi : j / 4 < t.length := by omega
  have hr : j % 4 < 4 := Nat.mod_lt _ (by decide)
  have he : j = j / 4 * 4 + j % 4 := by omega
  rw [he, flat_get twC 4 twC_len t (j / 4) (j % 4) hr, List.getElem?_eq_getElem hi] at hu
  obtain ⟨b2, o2, e2, _, _, c0, c1, c2, c3⟩ := h.cell (j / 4) hi
  injection e2 with e2
  injection e2 with e2 e3 _
  subst e2 e3
  rw [add_at rfl]
  have hrr : j % 4 = 0 ∨ j % 4 = 1 ∨ j % 4 = 2 ∨ j % 4 = 3 := by omega
  rcases hrr with hr | hr | hr | hr <;> rw [hr] at he hu <;> simp [twC] at hu <;> subst hu
  · rw [show o + j = o + j / 4 * 4 from by omega]; exact c0
  · rw [show o + j = o + j / 4 * 4 + 1 from by omega]; exact c1
  · rw [show o + j = o + j / 4 * 4 + 2 from by omega]; exact c2
  · rw [show o + j = o + j / 4 * 4 + 3 from by omega]; exact c3
/-- an owned row of twigs is a tree that came in -/
theorem tree_own {w : World} {base : Nat} {v : Value} {t : List Tw} (h : w.ownsRow base 34 4 v t.length (t.flatMap twC)) (wf : ∀ i (hi : i < t.length), (-9223372036854775808 ≤ t[i].kids ∧ t[i].kids ≤ 9223372036854775807) ∧ (-9223372036854775808 ≤ t[i].int ∧ t[i].int ≤ 9223372036854775807) ∧ t[i].op ≤ 255 ∧ t[i].text.size ≤ maxLen) :
    ∃ A c, v = .slice A t.length c ∧ TreeIn w A t.length c t := by
  rcases Nat.eq_zero_or_pos t.length with h0 | h0
  · rcases h.2 with ⟨rfl, _⟩ | ⟨g, cap, cur, rfl, _, h4, h5, h6, _⟩
    · exact ⟨none, 0, by rw [h0], ⟨by omega, by unfold maxLen; omega⟩, ⟨rfl, fun i hi => by omega, wf⟩⟩
    · exact ⟨_, cap, rfl, ⟨h5, h6⟩, ⟨rfl, fun i hi => by omega, wf⟩⟩
  · obtain ⟨g, cap, rfl, _, hg, h1, h2⟩ := own_at h h0
    have hc : ∀ i (hi : i < t.length) j, j < 4 → w.cell? ⟨g, i * 4 + j, none⟩ = (twC t[i])[j]? := by
      intro i hi j hj
      rw [h.cellAt (i * 4 + j) (by omega), flat_get twC 4 twC_len t i j hj, List.getElem?_eq_getElem hi]
      rfl
    refine ⟨_, cap, rfl, ⟨h1, h2⟩, ⟨rfl, fun i hi => ⟨g, 0, rfl, hg, hg, ?_, ?_, ?_, ?_⟩, wf⟩⟩
    · rw [Nat.zero_add]; exact hc i hi 0 (by decide)
    · rw [Nat.zero_add]; exact hc i hi 1 (by decide)
    · rw [Nat.zero_add]; exact hc i hi 2 (by decide)
    · rw [Nat.zero_add]; exact hc i hi 3 (by decide)
theorem copy_run (w : World) (base g : Nat) (hown : w.ownsRow base 34 4 (.slice (some ⟨g, 0, none⟩) 0 0) 0 []) (hb : base ≤ w.heap.size) (a : Option Addr) (n c : Nat) (t : List Tw) (ht : TreeIn w a n c t) (hn : n ≤ 100000) (ty : TypeId) :
    ∃ v' w', (Builtin.append_ #[23, 23] ty #[.slice (some ⟨g, 0, none⟩) 0 0, .slice a n c]).run Try.prog w = .ok v' w' ∧ w'.ownsRow base 34 4 v' t.length (t.flatMap twC) ∧ Below base w w' := by
  obtain ⟨i0, hi, hz0, hz1, hz2⟩ := info_parts info_twig
  have hl := ht.tw.len
  have hgb : base ≤ g := (row_lo (g := g) hown rfl).1
  by_cases h0 : n = 0
  · subst h0
    have ht0 : t = [] := List.eq_nil_of_length_eq_zero hl
    subst ht0
    have hsrc : Src Try.prog i0.size 23 (.slice a 0 c) 0 [] w := by
      cases a with
      | none => exact Src.ofNil w Try.underlying23 c
      | some a => exact Src.ofSlice w Try.underlying23 a 0 c [] (by simp) (by simp) (by simp)
    have hrun := run_append_nothing w 23 23 ty 34 i0 Try.underlying23 hi (some ⟨g, 0, none⟩) 0 0 (Nat.le_refl _) _ hsrc
    exact ⟨_, w, hrun, hown, Below.refl _ _⟩
  · obtain ⟨b, o, ea, _⟩ := ht.tw.cell 0 (by omega)
    subst ea
    obtain ⟨v', w', hrun, r1, r2, _, _⟩ := run_append_own_at (P := Try.prog) w base 23 ty 34 i0 (.agg #[.int .u8 0, .int .i64 0, .int .i64 0, .string ⟨#[]⟩]) 4 40 Try.underlying23 hi hz0 hz1 hz2 rfl (by decide) (.slice (some ⟨g, 0, none⟩) 0 0) 0 [] hown ⟨b, o, none⟩ n c (t.flatMap twC) (by rw [flat_len twC 4 twC_len, hl]) (tws_news ht.tw) (twC_one t) (by unfold maxLen; omega) (by omega) hb
    refine ⟨v', w', hrun, ?_, (Below.refl _ _).grown r2 hb (fun r e => ?_)⟩
    · rw [hl]
      simpa using r1
    · simp only [Value.ownBlock, Option.some.injEq] at e
      have e' : g = r := e
      omega
theorem wpl_copy {ops : Array Oper} {rest : List Oper} {o : Oper} {a : Act} {Q : Exit → Act → World → Prop} (w : World) (hgd : o.guard = none) (s x : Operand)
    (ho : o.op = .call { callee := .builtin .append, args := #[s, x], argTypes := #[23, 23] }) (base g : Nat) (hs : a.eval s = .slice (some ⟨g, 0, none⟩) 0 0) (hown : w.ownsRow base 34 4 (.slice (some ⟨g, 0, none⟩) 0 0) 0 []) (hb : base ≤ w.heap.size)
    (A : Option Addr) (n c : Nat) (hx : a.eval x = .slice A n c) (t : List Tw) (ht : TreeIn w A n c t) (hn : n ≤ 100000)
    (h : ∀ v' w', w'.ownsRow base 34 4 v' t.length (t.flatMap twC) → Below base w w' → wpList Try.prog ops Q rest (a.put o.dst v') w') :
    wpList Try.prog ops Q (o :: rest) a w := by
  refine wpList_plain hgd fun K hK => ?_
  obtain ⟨v', w', hr, h2, h3⟩ := copy_run w base g hown hb A n c t ht hn o.type
  unfold Oper.wp execOp
  simp only [ho, resolve, invoke, builtin, Sem.run_bind, Sem.run_pure, Result.andThen_ok, List.map_toArray, List.map_cons, List.map_nil, hs, hx, hr]
  exact hK _ _ (h v' w' h2 h3)
end Go.Proofs.Ytmacmejpcpdnnaa
