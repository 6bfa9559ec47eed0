/- timers: a table in memory as a list; New, Set. -/
import Derived.Test.YteondokncalbnaaTsAll
import Derived.Test.YteondokncalbnaaTlPlain
import Derived.Test.YteondokncalbnaaTmAwake
namespace Go.Proofs.Yteondokncalbnaa
open Go.RowKit

structure TL (w : World) (t : Nat) (S : Nat → Prop) (L : List Lt) (N : Nat) : Prop where
  ex : ∃ p v M A xs nx, TabS w t p v M A xs nx ∧ TIs xs nx L ∧ nx ≤ N ∧ ∀ i, S i ↔ TSet t p v M A i
  lim : L.length ≤ 4096
section
variable {w w' : World} {t : Nat} {S : Nat → Prop} {L : List Lt} {N : Nat}
theorem TL.keep {T : Nat → Prop} (h : TL w t S L N) (k : Turns T w w') (hS : ∀ i, S i → ¬ T i) : TL w' t S L N := by
  obtain ⟨p, v, M, A, xs, nx, h1, h2, h3, h4⟩ := h.ex
  exact ⟨⟨p, v, M, A, xs, nx, h1.keep k (fun i hi => hS i ((h4 i).2 hi)), h2, h3, h4⟩, h.lim⟩
theorem TL.bel (h : TL w t S L N) (k : Below w.heap.size w w') : TL w' t S L N := h.keep (.of_below (S := fun _ => False) k) (fun _ _ => id)
theorem TL.lts (h : TL w t S L N) : ∀ i, S i → i < w.heap.size := fun i hi => by
  obtain ⟨p, v, M, A, xs, nx, h1, h2, h3, h4⟩ := h.ex
  exact h1.lts i ((h4 i).1 hi)
theorem TL.srt (h : TL w t S L N) : SrtL L := by
  obtain ⟨p, v, M, A, xs, nx, h1, h2, h3, h4⟩ := h.ex
  exact h2.srt
theorem TL.ids (h : TL w t S L N) : ∀ x ∈ L, 0 ≤ x.2.2 := fun x hx => by
  obtain ⟨p, v, M, A, xs, nx, h1, h2, h3, h4⟩ := h.ex
  obtain ⟨u, hu, e1, e2⟩ := (h2.mem x).1 hx
  obtain ⟨o, k, e3, hk⟩ := h2.key u hu
  rw [e3] at e1
  have := congrFun e1 2
  simp [timV] at this
  omega
theorem TL.wide (h : TL w t S L N) {M : Nat} (hM : N ≤ M) : TL w t S L M := by
  obtain ⟨p, v, M', A, xs, nx, h1, h2, h3, h4⟩ := h.ex
  exact ⟨⟨p, v, M', A, xs, nx, h1, h2, by omega, h4⟩, h.lim⟩
theorem TL.names (h : TL w t S L N) : (L.map (·.2)).Nodup := by
  obtain ⟨p, v, M', A, xs, nx, h1, h2, h3, h4⟩ := h.ex
  obtain ⟨m, _, hP⟩ := h1.at_
  obtain ⟨ys, hs, rfl⟩ := h2.ys
  rw [List.map_map]
  have e : ((ys.map ((·.2) ∘ lt))).Perm ((xs.map tri).map ((·.2) ∘ lt)) := hs.1.map _
  refine e.nodup_iff.2 ?_
  rw [List.map_map]
  have ha := h2.apart
  unfold Apart at ha
  unfold List.Nodup at *
  rw [List.pairwise_map] at ha ⊢
  refine ha.imp_of_mem (fun {a b} ha hb hab e => hab ?_)
  obtain ⟨o1, k1, e1, _⟩ := h2.key a ha
  obtain ⟨o2, k2, e2, _⟩ := h2.key b hb
  have f1 := hP.is a ha
  have f2 := hP.is b hb
  have n1 : nmOf a = (o1, k1) := by unfold nmOf; rw [e1]; rfl
  have n2 : nmOf b = (o2, k2) := by unfold nmOf; rw [e2]; rfl
  simp only [Function.comp_apply, tri_key e1, tri_key e2, lt] at e
  rw [n1, e] at f1
  rw [n2] at f2
  rw [f1] at f2
  injection f2 with f2
  injection f2 with _ f2
  omega
theorem TL.few (h : TL w t S L N) : L.length ≤ 1000000 := by
  obtain ⟨p, v, M', A, xs, nx, h1, h2, h3, h4⟩ := h.ex
  rw [h2.len]
  have := h1.st.len
  have := h1.st.few
  omega
end
theorem newL (w : World) : Calls Try.prog 23 #[] w fun e w' => ∃ t S, e = .returned (.pointer (some ⟨t, 0, none⟩)) ∧ TL w' t S [] 0 ∧ (∀ i, S i → w.heap.size ≤ i) ∧ Below w.heap.size w w' := by
  refine (newTab w).mono ?_
  rintro e w' ⟨t, p, M, A, rfl, h, hl, hb⟩
  exact ⟨t, TSet t p (.slice none 0 0) M A, rfl, ⟨⟨p, _, M, A, [], 0, h, TIs.nil, Nat.le_refl _, fun _ => Iff.rfl⟩, by simp⟩, hl, hb⟩
/-- a name among a list's -/
def named (L : List Lt) (o : ByteArray) (k : Int) : Prop := ∃ x ∈ L, x.2.1 = o ∧ x.2.2 = k
theorem TIs.name {xs : List Th} {nx : Nat} {L : List Lt} (h : TIs xs nx L) (o : ByteArray) (k : Int) : named L o k ↔ ∃ t ∈ xs, nmOf t = (o, k) := by
  constructor
  · rintro ⟨x, hx, rfl, rfl⟩
    obtain ⟨t, ht, e1, e2⟩ := (h.mem x).1 hx
    exact ⟨t, ht, by unfold nmOf; rw [e1]; rfl⟩
  · rintro ⟨t, ht, e⟩
    obtain ⟨o', k', e1, _⟩ := h.key t ht
    have e2 : nmOf t = (o', k') := by unfold nmOf; rw [e1]; rfl
    rw [e2] at e
    injection e with e3 e4
    subst e3 e4
    exact ⟨(t.key, o', k'), (h.mem _).2 ⟨t, ht, e1, rfl⟩, rfl, rfl⟩
/-- a set that belongs to the table, or to new memory -/
def Grows (w : World) (S S' : Nat → Prop) : Prop := ∀ i, S' i → S i ∨ w.heap.size ≤ i
theorem TSet.grows {t p M A : Nat} {v v' : Value} {w : World} (n : Next w v v') : Grows w (TSet t p v M A) (TSet t p v' M A) := by
  rintro i (hi | hi | hi)
  · exact .inl (.inl hi)
  · exact .inl (.inr (.inl hi))
  · by_cases hl : i < w.heap.size
    · exact .inl (.inr (.inr (HS.next n hl hi)))
    · exact .inr (by omega)
theorem insL_len (L : List Lt) (x : Lt) : (insL L x).length = L.length + 1 := by
  unfold insL
  have h : (L.filter (fun y => decide (y.1 ≤ x.1))).length + (L.filter (fun y => decide (x.1 < y.1))).length = L.length := by
    induction L with
    | nil => rfl
    | cons y L ih =>
      rw [List.filter_cons, List.filter_cons]
      by_cases e : y.1 ≤ x.1
      · have : ¬ x.1 < y.1 := by omega
        simp [e, this]; omega
      · have : x.1 < y.1 := by omega
        simp [e, this]; omega
  simp only [List.length_append, List.length_cons, List.length_nil]
  omega
theorem setL (w : World) (t : Nat) (S : Nat → Prop) (L : List Lt) (N : Nat) (h : TL w t S L N) (due : Int) (o : ByteArray) (k : Int) (hk : 0 ≤ k) (hn : ¬ named L o k) (hf : L.length < 4096) (hN : N < 1000000) :
    Calls Try.prog 14 #[.pointer (some ⟨t, 0, none⟩), .int .i64 due, .string o, .int .i64 k] w fun e w' => e = .returned (.int .i64 0) ∧ ∃ S', TL w' t S' (insL L (due, o, k)) (N + 1) ∧ Grows w S S' ∧ Turns S w w' := by
  obtain ⟨p, v, M, A, xs, nx, h1, h2, h3, h4⟩ := h.ex
  refine (set1 w t p v M A xs nx h1 due o k hk (fun u hu e => hn ((h2.name o k).2 ⟨u, hu, e⟩)) (by rw [← h2.len]; exact hf) (by omega)).mono ?_
  rintro e w' ⟨rfl, zs, v', hp, hs, hnx, ht⟩
  exact ⟨rfl, TSet t p v' M A, ⟨⟨p, v', M, A, zs, nx + 1, hs, h2.set due o k hk hp, by omega, fun _ => Iff.rfl⟩, by rw [insL_len]; omega⟩, fun i hi => (TSet.grows hnx i hi).imp (h4 i).2 id, ht.mono (fun i _ e => (h4 i).2 e)⟩
set_option maxRecDepth 20000 in
theorem set_arg (w : World) (t : Nat) (S : Nat → Prop) (L : List Lt) (N : Nat) (h : TL w t S L N) (due : Int) (o : ByteArray) (k : Int) (hk : k < 0) :
    Calls Try.prog 14 #[.pointer (some ⟨t, 0, none⟩), .int .i64 due, .string o, .int .i64 k] w fun e w' => e = .returned (.int .i64 1) ∧ w' = w := by
  obtain ⟨p, v, M, A, xs, nx, h1, _⟩ := h.ex
  have hm := Lib.hid (made1 w t p h1.c0)
  have hk1 : decide (k < 0) = true := by simpa using hk
  clear h h1
  go_enter Try.func14, Try.ntmps14
  go_wp2_with (go_at_call 32; refine hm.out.mono ?_; rintro e w' ⟨rfl, rfl⟩)
  go_ret
  exact ⟨rfl, rfl⟩
set_option maxRecDepth 20000 in
set_option maxHeartbeats 4000000 in
theorem set_no (w : World) (t : Nat) (S : Nat → Prop) (L : List Lt) (N : Nat) (h : TL w t S L N) (due : Int) (o : ByteArray) (k : Int) (hk : 0 ≤ k) (hn : named L o k ∨ L.length = 4096) :
    Calls Try.prog 14 #[.pointer (some ⟨t, 0, none⟩), .int .i64 due, .string o, .int .i64 k] w fun e w' => ∃ c : Int, e = .returned (.int .i64 c) ∧ (named L o k → c = 6) ∧ (¬ named L o k → c = 7) ∧ Below w.heap.size w w' := by
  obtain ⟨p, v, M, A, xs, nx, h1, h2, _, _⟩ := h.ex
  have hm := Lib.hid (made1 w t p h1.c0)
  obtain ⟨m, hmp, hP⟩ := h1.at_
  have hk0 : ¬ k < 0 := by omega
  have hk1 : decide (k < 0) = false := by simpa using hk0
  have HL := Lib.hid h2.len
  have W1 : Blk (w.alloc (.cells #[.string o, .int .i64 k] 70)) w.heap.size 70 [.string o, .int .i64 k] := Blk.new w 70 [.string o, .int .i64 k]
  have hB1 := Below.new w (.cells #[.string o, .int .i64 k] 70)
  have H1 := Lib.hid (h1.bel hB1)
  have M1 := Lib.hid (hmp.below hB1)
  have a0 := W1.cell 0
  have a1 := W1.cell 1
  simp only [List.getElem?_cons_succ, List.getElem?_cons_zero] at a0 a1
  have c0' := H1.out.c0
  have c1' := H1.out.c1
  by_cases hnm : named L o k
  · obtain ⟨u, hu, eu⟩ := (h2.name o k).1 hnm
    have hno : m (o, k) = some (.int .i64 (u.num : Int)) := by rw [← eu]; exact hP.is u hu
    have HNO := Lib.hid hno
    have HNM := Lib.hid hnm
    clear h h1 h2 hmp hP hno hn hnm hk0 eu hu
    go_enter Try.func14, Try.ntmps14
    go_wp2_with (go_at_call 32; refine hm.out.mono ?_; rintro e w' ⟨rfl, rfl⟩)
    generalize w'.alloc (.cells #[.string o, .int .i64 k] 70) = W at *
    generalize hb : w'.heap.size = b at *
    have HBQ := Lib.hid hb
    have hlk : ∀ n, (Instr.lookup 37 (.map (some A)) (.agg #[.string o, .int .i64 k]) true).run Try.prog (W.drewN n) = .ok (.tuple #[.int .i64 (u.num : Int), .bool true]) (W.drewN n) := fun n => by
      have := MapIs.lookup (t := 37) (e := 3) (M1.out.below (below_drewN' (Below.refl W.heap.size W) n)) name_keys Try.underlying37 (zeroIntE _) (o, k) true
      rw [HNO.out] at this
      exact this
    clear hb
    go_quiet (fail)
    have hB2 : Hid (Below b w' (W.drewN nq)) := Lib.hid (below_drewN' hB1 nq)
    go_wp2_with fail
    go_ret
    exact ⟨6, rfl, fun _ => rfl, fun h => absurd HNM.out h, by rw [HBQ.out]; exact hB2.out⟩
  · have hfull : xs.length = 4096 := by rw [← h2.len]; exact hn.resolve_left hnm
    have hno := hP.no (o, k) (fun u hu e => hnm ((h2.name o k).2 ⟨u, hu, e⟩))
    have HNO := Lib.hid hno
    have HNM := Lib.hid hnm
    have hne : ((xs.length : Int) == 4096) = true := beq_iff_eq.2 (by omega)
    have HFU := Lib.hid hfull
    clear h h1 h2 hmp hP hno hn hnm hk0 hfull
    go_enter Try.func14, Try.ntmps14
    go_wp2_with (go_at_call 32; refine hm.out.mono ?_; rintro e w' ⟨rfl, rfl⟩)
    generalize w'.alloc (.cells #[.string o, .int .i64 k] 70) = W at *
    generalize hb : w'.heap.size = b at *
    have HBQ := Lib.hid hb
    have hlk : ∀ n, (Instr.lookup 37 (.map (some A)) (.agg #[.string o, .int .i64 k]) true).run Try.prog (W.drewN n) = .ok (.tuple #[.int .i64 0, .bool false]) (W.drewN n) := fun n => by
      have := MapIs.lookup (t := 37) (e := 3) (M1.out.below (below_drewN' (Below.refl W.heap.size W) n)) name_keys Try.underlying37 (zeroIntE _) (o, k) true
      rw [HNO.out] at this
      exact this
    clear hb
    go_quiet (fail)
    have M2 := Lib.hid (M1.out.below (below_drewN' (Below.refl W.heap.size W) nq))
    have H2 := Lib.hid (H1.out.bel (below_drewN' (Below.refl W.heap.size W) nq))
    have hB2 : Hid (Below b w' (W.drewN nq)) := Lib.hid (below_drewN' hB1 nq)
    clear hlk W1 hB1 a0 a1 c0' c1' M1 H1
    generalize W.drewN nq = V at *
    have c1'' := H2.out.c1
    go_wp2_with (at_len; refine wpl_len _ rfl _ 37 rfl Try.underlying37 M2.out rfl ?_)
    go_ret
    exact ⟨7, rfl, fun h => absurd h HNM.out, fun _ => rfl, by rw [HBQ.out]; exact hB2.out⟩
end Go.Proofs.Yteondokncalbnaa
