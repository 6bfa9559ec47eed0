/- A loop over a map: what has come, each key once; at the operation, fenced and not. -/
import Derived.Test.YteihedfmmiihiaaGreatBlk
import Derived.Maps.RangeRun
import Derived.Sort.MapsRangeIn
import Derived.RangeFuncSeq
namespace Go.Proofs.YteihedfmmiihiaaGreat
open Go.MapKept Go.RowKit
open Go.ChangeMaps (setBlock)

/-- a loop over map b, its iterator r, under way: 'ks' have come, 'cnt' are to come -/
def Rng {K : Type} (kv : K → Value) (w : World) (b r : Nat) (m : K → Option Value) (n : Nat) (ks : List K) (cnt : Nat) : Prop :=
  ∃ es clock since seen c0, w.heap[b]? = some (.map es clock) ∧ Stamped es clock ∧ es.size = n ∧ (∀ x ∈ es.toList, ∃ k, x.key = kv k) ∧
    (∀ k v, m k = some v ↔ ∃ (i : Nat) (x : MapEntry), es[i]? = some x ∧ x.key = kv k ∧ x.val = v) ∧
    w.heap[r]? = some (.mapIter (some b) since seen c0) ∧ (∀ x ∈ es.toList, x.born < since) ∧ since ≤ c0 ∧ since ≤ clock ∧ (leftOf es seen).size = cnt ∧
    ks.Nodup ∧ (∀ x ∈ es.toList, ∀ k, x.key = kv k → (k ∈ ks ↔ seen.contains x.born = true)) ∧ ks.length + cnt ≤ n ∧ ∀ k ∈ ks, m k ≠ none

section
variable {K : Type} {P : Program} {kv : K → Value} {w w' : World} {b r n cnt : Nat} {m : K → Option Value} {ks : List K} {kt e t : TypeId}
theorem Rng.isMap (h : Rng kv w b r m n ks cnt) : MapIs kv w b m n := by
  obtain ⟨es, clock, since, seen, c0, hb, S, hn, hk, hm, _⟩ := h
  exact ⟨es, clock, hb, S, hn, hk, hm⟩
theorem Rng.left_eq (h : Rng kv w b r m n ks cnt) : w.rangeLeft b r = cnt := by
  obtain ⟨es, clock, since, seen, c0, hb, S, hn, hk, hm, hr, _, _, _, hc, _⟩ := h
  simp only [World.rangeLeft, hb, hr]
  exact hc
theorem Rng.len (h : Rng kv w b r m n ks cnt) : ks.length + cnt ≤ n := by
  obtain ⟨_, _, _, _, _, _, _, _, _, _, _, _, _, _, _, _, _, h, _⟩ := h
  exact h
theorem Rng.nodup (h : Rng kv w b r m n ks cnt) : ks.Nodup := by
  obtain ⟨_, _, _, _, _, _, _, _, _, _, _, _, _, _, _, h, _⟩ := h
  exact h
theorem Rng.dom (h : Rng kv w b r m n ks cnt) : ∀ k ∈ ks, m k ≠ none := by
  obtain ⟨_, _, _, _, _, _, _, _, _, _, _, _, _, _, _, _, _, _, h⟩ := h
  exact h
theorem Rng.keep (h : Rng kv w b r m n ks cnt) (h1 : w'.heap[b]? = w.heap[b]?) (h2 : w'.heap[r]? = w.heap[r]?) : Rng kv w' b r m n ks cnt := by
  obtain ⟨es, clock, since, seen, c0, hb, S, hn, hk, hm, hr, rest⟩ := h
  exact ⟨es, clock, since, seen, c0, h1.trans hb, S, hn, hk, hm, h2.trans hr, rest⟩
theorem Rng.lts (h : Rng kv w b r m n ks cnt) : b < w.heap.size ∧ r < w.heap.size := by
  obtain ⟨es, clock, since, seen, c0, hb, S, hn, hk, hm, hr, rest⟩ := h
  exact ⟨(Array.getElem?_eq_some_iff.1 hb).1, (Array.getElem?_eq_some_iff.1 hr).1⟩
theorem Rng.walks (h : Rng kv w b r m n ks cnt) (k : KeepsWalks w w') : Rng kv w' b r m n ks cnt := by
  obtain ⟨es, clock, since, seen, c0, hb, S, hn, hk, hm, hr, rest⟩ := h
  exact ⟨es, clock, since, seen, c0, k.same _ _ hb rfl, S, hn, hk, hm, k.same _ _ hr rfl, rest⟩
theorem Rng.below (h : Rng kv w b r m n ks cnt) (hb : Below w.heap.size w w') : Rng kv w' b r m n ks cnt := h.keep (hb.block b h.lts.1) (hb.block r h.lts.2)
theorem Rng.turns {S : Nat → Prop} (h : Rng kv w b r m n ks cnt) (k : Turns S w w') (h1 : ¬ S b) (h2 : ¬ S r) : Rng kv w' b r m n ks cnt := h.keep (k.block b h.lts.1 h1) (k.block r h.lts.2 h2)
theorem Rng.iter (h : Rng kv w b r m n ks cnt) : ∃ o : Obj, w.heap[r]? = some o ∧ o.isWalk = true := by
  obtain ⟨es, clock, since, seen, c0, hb, S, hn, hk, hm, hr, rest⟩ := h
  exact ⟨_, hr, rfl⟩

/-- 'range m' -/
theorem MapIs.range (h : MapIs kv w b m n) (ht : P.underlying t = some (.map kt e)) :
    (Instr.range t (.map (some b))).run P w = .ok (.pointer (some ⟨w.heap.size, 0, none⟩)) (w.alloc (.mapIter (some b) (match w.heap[b]? with | some (.map _ c) => c | _ => 0) #[] (match w.heap[b]? with | some (.map _ c) => c | _ => 0))) ∧
      Rng kv (w.alloc (.mapIter (some b) (match w.heap[b]? with | some (.map _ c) => c | _ => 0) #[] (match w.heap[b]? with | some (.map _ c) => c | _ => 0))) b w.heap.size m n [] n := by
  have hlt := h.lt
  obtain ⟨es, clock, hb, S, hn, hk, hm⟩ := h
  rw [hb]
  refine ⟨run_range_map w t kt e b es clock ht hb, es, clock, clock, #[], clock, ((heap_alloc w _).2 b hlt).trans hb, S, hn, hk, hm, (heap_alloc w _).1, S.1, Nat.le_refl _, Nat.le_refl _, by rw [← hn]; simp [leftOf], List.nodup_nil, ?_, by simp, by simp⟩
  intro x _ k _
  simp

/-- the step -/
theorem Rng.next (h : Rng kv w b r m n ks cnt) (inj : ∀ a b, kv a = kv b → a = b) (ty : TypeId) :
    (cnt = 0 ∧ (∀ k v, m k = some v → k ∈ ks) ∧ (Instr.next (.pointer (some ⟨r, 0, none⟩)) false ty).run P w = .ok (.tuple #[.bool false]) w) ∨
    ∃ k v w' cnt', m k = some v ∧ k ∉ ks ∧ (Instr.next (.pointer (some ⟨r, 0, none⟩)) false ty).run P w = .ok (.tuple #[.bool true, kv k, v]) w' ∧
      Rng kv w' b r m n (ks ++ [k]) cnt' ∧ cnt' < cnt ∧ w.grownBy w' (some r) ∧ w'.heap.size = w.heap.size ∧ (Instr.entry (.pointer (some ⟨r, 0, none⟩))).run P w' = .ok (.tuple #[kv k, v]) w' := by
  obtain ⟨es, clock, since, seen, c0, hb, S, hn, hk, hm, hr, hold, hsc, hsk, hc, hnd, hin, hlen, hdom⟩ := h
  have hne : r ≠ b := by rintro rfl; rw [hb] at hr; cases hr
  rcases run_next_at (P := P) w ty r b since c0 seen es clock hr hb hold hsc with ⟨h0, hrun⟩ | ⟨e, he, w1, hal, hrun⟩
  · refine .inl ⟨by omega, fun k v hkv => ?_, hrun⟩
    obtain ⟨i, x, hx, hxk, _⟩ := (hm k v).1 hkv
    have hxm := Array.mem_toList_iff.2 (Array.mem_of_getElem? hx)
    exact (hin x hxm k hxk).2 (all_seen es seen h0 x hxm)
  · obtain ⟨hem, hes⟩ := mem_left he
    obtain ⟨k, hkk⟩ := hk e hem
    have hr1 : w1.heap[r]? = some (.mapIter (some b) since seen c0) := by rcases hal with rfl | rfl <;> exact hr
    have hb1 : w1.heap[b]? = some (.map es clock) := by rcases hal with rfl | rfl <;> exact hb
    have hset := heap_set (o' := .mapIter (some b) since (seen.push e.born) clock) hr1
    have hb' : (setBlock w1 r (.mapIter (some b) since (seen.push e.born) clock)).heap[b]? = some (.map es clock) := (hset.2 b (fun e1 => hne e1.symm)).trans hb1
    have hni : k ∉ ks := fun hi => by rw [(hin e hem k hkk).1 hi] at hes; cases hes
    obtain ⟨i, hi⟩ := List.getElem?_of_mem hem
    rw [Array.getElem?_toList] at hi
    have hmk : m k = some e.val := (hm k e.val).2 ⟨i, e, hi, hkk, rfl⟩
    have hsh := left_shrinks es seen e he
    have hent := run_entry_at (P := P) _ r b since seen es clock e hset.1 hb' hem S.2.1
    rw [hkk] at hrun hent
    refine .inr ⟨k, e.val, _, _, hmk, hni, hrun, ⟨es, clock, since, seen.push e.born, clock, hb', S, hn, hk, hm, hset.1, hold, hsk, hsk, rfl, ?_, ?_, ?_, ?_⟩, by rw [← hc]; exact hsh, ?_, ?_, hent⟩
    · exact List.nodup_append.2 ⟨hnd, by simp, by rintro a ha b hb rfl; simp at hb; subst hb; exact hni ha⟩
    · intro x hx k' hxk
      rw [List.mem_append, hin x hx k' hxk, contains_push]
      by_cases hbe : x.born = e.born
      · have hxe : x = e := born_inj S.2.1 hx hem hbe
        subst hxe
        have := inj _ _ (hkk.symm.trans hxk)
        subst this
        simp
      · have : k' ≠ k := by
          rintro rfl
          obtain ⟨j, hj⟩ := List.getElem?_of_mem hx
          rw [Array.getElem?_toList] at hj
          obtain rfl := key_once S hi hj (hkk.trans hxk.symm)
          rw [hi] at hj
          cases hj
          exact hbe rfl
        have hbf : (x.born == e.born) = false := by simpa using hbe
        simp [this, hbf]
    · simp only [List.length_append, List.length_singleton]; omega
    · intro k' hk'
      rcases List.mem_append.1 hk' with h1 | h1
      · exact hdom k' h1
      · simp at h1; subst h1; rw [hmk]; simp
    · rcases hal with rfl | rfl <;> exact ⟨rfl, rfl, rfl, by simp [setBlock], fun i _ hi => hset.2 i (fun e1 => hi (by rw [e1]))⟩
    · rcases hal with rfl | rfl <;> simp [setBlock]
end

/-! ### at the operation -/
section
variable {K : Type} {P : Program} {kv : K → Value} {b r n cnt : Nat} {m : K → Option Value} {ks : List K} {kt e t : TypeId} (w : World) {ops : Array Oper} {rest : List Oper} {o : Oper} {a : Act} {Q : Exit → Act → World → Prop}
theorem wpl_range (hg : o.guard = none) (x : Operand) (t : TypeId) (hop : o.op = Op.range t x) (ht : P.underlying t = some (.map kt e)) (hm : a.eval x = .map (some b)) (h : MapIs kv w b m n)
    (hK : ∀ w', Rng kv w' b w.heap.size m n [] n → w.grownBy w' none → w'.heap.size = w.heap.size + 1 → wpList P ops Q rest (a.put o.dst (.pointer (some ⟨w.heap.size, 0, none⟩))) w') : wpList P ops Q (o :: rest) a w := by
  refine wpList_plain hg fun K' hK' => ?_
  obtain ⟨hrun, hr⟩ := h.range (P := P) ht
  unfold Oper.wp
  simp [execOp, hop, hm, hrun, Result.andThen]
  exact hK' _ _ (hK _ hr (World.grownBy_alloc w _ none) (by simp))
theorem wpl_next (hg : o.guard = none) (x : Operand) (hop : o.op = Op.next x false) (inj : ∀ a b, kv a = kv b → a = b) (hx : a.eval x = .pointer (some ⟨r, 0, none⟩)) (h : Rng kv w b r m n ks cnt)
    (hDone : cnt = 0 → (∀ k v, m k = some v → k ∈ ks) → wpList P ops Q rest (a.put o.dst (.tuple #[.bool false])) w)
    (hMore : ∀ (k : K) (v : Value) (w' : World) (cnt' : Nat), m k = some v → k ∉ ks → Rng kv w' b r m n (ks ++ [k]) cnt' → cnt' < cnt → w.grownBy w' (some r) → w'.heap.size = w.heap.size → (Instr.entry (.pointer (some ⟨r, 0, none⟩))).run P w' = .ok (.tuple #[kv k, v]) w' →
      wpList P ops Q rest (a.put o.dst (.tuple #[.bool true, kv k, v])) w') : wpList P ops Q (o :: rest) a w := by
  refine wpList_plain hg fun K' hK' => ?_
  unfold Oper.wp
  rcases h.next (P := P) inj o.type with ⟨h0, hl, hrun⟩ | ⟨k, v, w', cnt', h1, h2, hrun, h3, h4, h5, h6, h7⟩
  · simp [execOp, hop, hx, hrun, Result.andThen]
    exact hK' _ _ (hDone h0 hl)
  · simp [execOp, hop, hx, hrun, Result.andThen]
    exact hK' _ _ (hMore k v w' cnt' h1 h2 h3 h4 h5 h6 h7)
variable {F : Fence} {nn : Nat}
theorem wpi_range (hg : o.guard = none) (x : Operand) (t : TypeId) (hop : o.op = Op.range t x) (ht : P.underlying t = some (.map kt e)) (hm : a.eval x = .map (some b)) (h : MapIs kv w b m n)
    (hK : ∀ w', Rng kv w' b w.heap.size m n [] n → w.grownBy w' none → w'.heap.size = w.heap.size + 1 → wpListIn F nn P ops Q rest (a.put o.dst (.pointer (some ⟨w.heap.size, 0, none⟩))) w') : wpListIn F nn P ops Q (o :: rest) a w := by
  refine wpListIn_plain hg fun K' hK' => ?_
  obtain ⟨hrun, hr⟩ := h.range (P := P) ht
  unfold Oper.wpIn
  refine ⟨by simp [Oper.about, hop], ?_⟩
  rw [Oper.semAt_plain F _ _ (by rw [hop]; intro c hc'; cases hc')]
  simp [execOp, hop, hm, hrun, Result.andThen]
  exact hK' _ _ (hK _ hr (World.grownBy_alloc w _ none) (by simp))
theorem wpi_next (hg : o.guard = none) (x : Operand) (hop : o.op = Op.next x false) (inj : ∀ a b, kv a = kv b → a = b) (hx : a.eval x = .pointer (some ⟨r, 0, none⟩)) (h : Rng kv w b r m n ks cnt)
    (hDone : cnt = 0 → (∀ k v, m k = some v → k ∈ ks) → wpListIn F nn P ops Q rest (a.put o.dst (.tuple #[.bool false])) w)
    (hMore : ∀ (k : K) (v : Value) (w' : World) (cnt' : Nat), m k = some v → k ∉ ks → Rng kv w' b r m n (ks ++ [k]) cnt' → cnt' < cnt → w.grownBy w' (some r) → w'.heap.size = w.heap.size → (Instr.entry (.pointer (some ⟨r, 0, none⟩))).run P w' = .ok (.tuple #[kv k, v]) w' →
      wpListIn F nn P ops Q rest (a.put o.dst (.tuple #[.bool true, kv k, v])) w') : wpListIn F nn P ops Q (o :: rest) a w := by
  refine wpListIn_plain hg fun K' hK' => ?_
  unfold Oper.wpIn
  refine ⟨by simp [Oper.about, hop], ?_⟩
  rw [Oper.semAt_plain F _ _ (by rw [hop]; intro c hc'; cases hc')]
  rcases h.next (P := P) inj o.type with ⟨h0, hl, hrun⟩ | ⟨k, v, w', cnt', h1, h2, hrun, h3, h4, h5, h6, h7⟩
  · simp [execOp, hop, hx, hrun, Result.andThen]
    exact hK' _ _ (hDone h0 hl)
  · simp [execOp, hop, hx, hrun, Result.andThen]
    exact hK' _ _ (hMore k v w' cnt' h1 h2 h3 h4 h5 h6 h7)
end
end Go.Proofs.YteihedfmmiihiaaGreat
