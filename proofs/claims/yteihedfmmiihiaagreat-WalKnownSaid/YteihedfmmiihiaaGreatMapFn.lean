/- Maps as functions of their keys: what a look-up, an update, a delete, len and a clone do. -/
import Derived.Maps.OwnSet
import Derived.WalkKit
import Derived.ProofKit
namespace Go.Proofs.YteihedfmmiihiaaGreat
open Go.MapKept Go.RowKit

/-- what a key's type must give -/
structure KeyLaw {K : Type} (P : Program) (kt : TypeId) (kv : K → Value) : Prop where
  inj : ∀ a b, kv a = kv b → a = b
  check : ∀ (e : Bool) (k : K) (w : World), (Instr.checkKey e 10000 kt (kv k)).run P w = .ok () w
  find : ∀ (k : K) (w : World) (l : List MapEntry), (∀ x ∈ l, ∃ k', x.key = kv k') →
    ((Instr.findKey kt (kv k) l).run P w = .ok none w ∧ ∀ x ∈ l, x.key ≠ kv k) ∨ ∃ j e, (Instr.findKey kt (kv k) l).run P w = .ok (some (j, e.val)) w ∧ l[j]? = some e ∧ e.key = kv k
  stays : ∀ (k : K) (w : World), (Instr.keyThatStays (kv k) (kv k)).run P w = .ok (kv k) w

theorem plain_keys {K : Type} {P : Program} {kt : TypeId} {kv : K → Value} {d : TypeDesc} (hd : P.underlying kt = some d) (hk : ∀ k, IsKey d (kv k)) (inj : ∀ a b, kv a = kv b → a = b) : KeyLaw P kt kv where
  inj := inj
  check e k w := run_checkKey hd (hk k) e 9999
  find k w l hl := by
    rcases findNow_spec (hk k) l 0 (fun x hx => by obtain ⟨k', e⟩ := hl x hx; rw [e]; exact hk k') with ⟨h1, h2⟩ | ⟨j, e, h1, h2, h3⟩
    · exact .inl ⟨run_findKey hd h1, h2⟩
    · exact .inr ⟨j, e, by rw [run_findKey hd h1]; simp, h2, h3⟩
  stays k w := run_keyThatStays (hk k)
def kInt (i : Int) : Value := .int .i64 i
def kStr (s : ByteArray) : Value := .string s
theorem int_keys {P : Program} {kt : TypeId} (h : P.underlying kt = some (.int .i64)) : KeyLaw P kt kInt :=
  plain_keys h (fun _ => rfl) (fun a b e => by unfold kInt at e; injection e)
theorem str_keys {P : Program} {kt : TypeId} (h : P.underlying kt = some .string) : KeyLaw P kt kStr :=
  plain_keys h (fun _ => trivial) (fun a b e => by unfold kStr at e; injection e)

/-- block r is a map of n entries that answers as m -/
def MapIs {K : Type} (kv : K → Value) (w : World) (r : Nat) (m : K → Option Value) (n : Nat) : Prop :=
  ∃ es clock, w.heap[r]? = some (.map es clock) ∧ Stamped es clock ∧ es.size = n ∧ (∀ x ∈ es.toList, ∃ k, x.key = kv k) ∧
    ∀ k v, m k = some v ↔ ∃ (i : Nat) (x : MapEntry), es[i]? = some x ∧ x.key = kv k ∧ x.val = v
/-- nothing but a map's entries has turned -/
def MapTurn (w w' : World) (r : Nat) : Prop := ∃ es clock es' clock', w.heap[r]? = some (.map es clock) ∧ w' = { w with heap := w.heap.setIfInBounds r (.map es' clock') }
theorem MapTurn.other {w w' : World} {r : Nat} (h : MapTurn w w' r) {g : Nat} (hg : g ≠ r) : w'.heap[g]? = w.heap[g]? := by
  obtain ⟨es, clock, es', clock', hb, rfl⟩ := h
  exact (heap_set hb).2 g hg
theorem MapTurn.size {w w' : World} {r : Nat} (h : MapTurn w w' r) : w'.heap.size = w.heap.size := by
  obtain ⟨es, clock, es', clock', hb, rfl⟩ := h
  simp
theorem MapTurn.grown {w w' : World} {r : Nat} (h : MapTurn w w' r) : w.grownBy w' (some r) := by
  have ho := fun g hg => h.other (g := g) hg
  have hs := h.size
  obtain ⟨es, clock, es', clock', hb, rfl⟩ := h
  exact ⟨rfl, rfl, rfl, by rw [hs]; exact Nat.le_refl _, fun i _ hi => ho i (fun e => hi (by rw [e]))⟩
theorem MapTurn.cell {w w' : World} {r : Nat} (h : MapTurn w w' r) (p : Addr) : w'.cell? p = w.cell? p := by
  by_cases hp : p.block = r
  · have h1 : w.cell? p = none := by
      obtain ⟨es, clock, es', clock', hb, rfl⟩ := h
      simp [World.cell?, hp, hb]
    have h2 : w'.cell? p = none := by
      obtain ⟨es, clock, es', clock', hb, rfl⟩ := h
      simp [World.cell?, hp, (heap_set hb).1]
    rw [h1, h2]
  · have := h.other hp
    simp [World.cell?, this]
theorem MapTurn.frozen {w w' : World} {r : Nat} (h : MapTurn w w' r) (p : Addr) : w'.frozen? p = w.frozen? p := by
  by_cases hp : p.block = r
  · obtain ⟨es, clock, es', clock', hb, rfl⟩ := h
    simp [World.frozen?, hp, hb, (heap_set hb).1]
  · have := h.other hp
    simp [World.frozen?, this]

section
variable {K : Type} {P : Program} {kv : K → Value} {w : World} {r n : Nat} {m : K → Option Value} {kt e t : TypeId}

theorem MapIs.lt (h : MapIs kv w r m n) : r < w.heap.size := by
  obtain ⟨es, clock, hb, _⟩ := h
  exact (Array.getElem?_eq_some_iff.1 hb).1
theorem MapIs.keep {w' : World} (h : MapIs kv w r m n) (hb : w'.heap[r]? = w.heap[r]?) : MapIs kv w' r m n := by
  obtain ⟨es, clock, h1, h2⟩ := h
  exact ⟨es, clock, hb.trans h1, h2⟩
theorem MapIs.below {w' : World} (h : MapIs kv w r m n) (hb : Below w.heap.size w w') : MapIs kv w' r m n := h.keep (hb.block r h.lt)
theorem MapIs.grown {w' : World} {row : Option Nat} (h : MapIs kv w r m n) (hb : w.grownBy w' row) (hne : some r ≠ row) : MapIs kv w' r m n := h.keep (hb.block r h.lt hne)
theorem MapIs.alloc (h : MapIs kv w r m n) (o : Obj) : MapIs kv (w.alloc o) r m n := h.keep (Below.heap_alloc w o r h.lt)
theorem MapIs.setCell (h : MapIs kv w r m n) (p : Addr) (u : Value) : MapIs kv (w.setCell p u) r m n := by
  by_cases hp : r = p.block
  · subst hp
    refine h.keep ?_
    obtain ⟨es, clock, h1, _⟩ := h
    simp [World.setCell, Array.getElem?_modify, h1]
  · exact h.keep (Below.heap_setCell _ _ _ _ hp)
theorem MapIs.ne_cells {cs : Array Value} {T : TypeId} {fr : Nat × Nat} {g : Nat} (h : MapIs kv w r m n) (hg : w.heap[g]? = some (.cells cs T fr)) : r ≠ g := by
  rintro rfl
  obtain ⟨es, clock, h1, _⟩ := h
  rw [h1] at hg
  cases hg
theorem MapIs.empty (kv : K → Value) (w : World) : MapIs kv (w.alloc (.map #[] 0)) w.heap.size (fun _ => none) 0 :=
  ⟨#[], 0, (heap_alloc w _).1, stamped_empty 0, rfl, by simp, by simp⟩
theorem MapIs.ext {m' : K → Option Value} (h : MapIs kv w r m n) (he : ∀ k, m' k = m k) : MapIs kv w r m' n := by
  have : m' = m := funext he
  rw [this]
  exact h

theorem key_once {es : Array MapEntry} {clock : Nat} (S : Stamped es clock) {i j : Nat} {x y : MapEntry} (hx : es[i]? = some x) (hy : es[j]? = some y) (hk : x.key = y.key) : i = j := by
  have hn := S.2.2
  unfold List.Nodup at hn
  rw [List.pairwise_map, List.pairwise_iff_getElem] at hn
  obtain ⟨h1, rfl⟩ := Array.getElem?_eq_some_iff.1 hx
  obtain ⟨h2, rfl⟩ := Array.getElem?_eq_some_iff.1 hy
  rcases Nat.lt_trichotomy i j with h | h | h
  · exact absurd hk (hn i j (by simpa using h1) (by simpa using h2) h)
  · exact h
  · exact absurd hk.symm (hn j i (by simpa using h2) (by simpa using h1) h)

theorem MapIs.found (h : MapIs kv w r m n) (L : KeyLaw P kt kv) (k : K) : ∃ es clock, w.heap[r]? = some (.map es clock) ∧ Stamped es clock ∧ es.size = n ∧ (∀ x ∈ es.toList, ∃ k, x.key = kv k) ∧
    (∀ k v, m k = some v ↔ ∃ (i : Nat) (x : MapEntry), es[i]? = some x ∧ x.key = kv k ∧ x.val = v) ∧
    ((m k = none ∧ (Instr.findKey kt (kv k) es.toList).run P w = .ok none w ∧ ∀ x ∈ es.toList, x.key ≠ kv k) ∨
      ∃ j x, m k = some x.val ∧ (Instr.findKey kt (kv k) es.toList).run P w = .ok (some (j, x.val)) w ∧ es[j]? = some x ∧ x.key = kv k) := by
  obtain ⟨es, clock, hb, S, hn, hk, hm⟩ := h
  refine ⟨es, clock, hb, S, hn, hk, hm, ?_⟩
  rcases L.find k w es.toList hk with ⟨h1, h2⟩ | ⟨j, x, h1, h2, h3⟩
  · refine .inl ⟨?_, h1, h2⟩
    cases hmk : m k with
    | none => rfl
    | some v =>
      obtain ⟨i, x, hx, hxk, _⟩ := (hm k v).1 hmk
      exact absurd hxk (h2 x (Array.mem_toList_iff.2 (Array.mem_of_getElem? hx)))
  · have hj : es[j]? = some x := by simpa using h2
    exact .inr ⟨j, x, (hm k _).2 ⟨j, x, hj, h3, rfl⟩, h1, hj, h3⟩

/-- 'm[k]', 'v, ok := m[k]' -/
theorem MapIs.lookup (h : MapIs kv w r m n) (L : KeyLaw P kt kv) (ht : P.underlying t = some (.map kt e)) {z : Value} (hz : (zeroValue e).run P w = .ok z w) (k : K) (c : Bool) :
    (Instr.lookup t (.map (some r)) (kv k) c).run P w = .ok (if c then .tuple #[(m k).getD z, .bool (m k).isSome] else (m k).getD z) w := by
  obtain ⟨es, clock, hb, S, hn, hk, hm, h⟩ := h.found L k
  rcases h with ⟨h0, h1, h2⟩ | ⟨j, x, h0, h1, h2, h3⟩
  · simp [Instr.lookup, run_underlying ht, MapKept.run_getObj_map hb, L.check, h1, hz, Result.andThen, h0]
  · simp [Instr.lookup, run_underlying ht, MapKept.run_getObj_map hb, L.check, h1, Result.andThen, h0]
/-- 'len(m)' -/
theorem MapIs.len (h : MapIs kv w r m n) (ht : P.underlying t = some (.map kt e)) (ty : TypeId) : (Builtin.len_ #[t] ty #[.map (some r)]).run P w = .ok (.int .i64 n) w := by
  obtain ⟨es, clock, hb, S, hn, _⟩ := h
  subst hn
  simp [Builtin.len_, run_underlying ht, MapKept.run_getObj_map hb, goInt, Result.andThen]

/-- 'm[k] = v' -/
theorem MapIs.update [DecidableEq K] (h : MapIs kv w r m n) (L : KeyLaw P kt kv) (ht : P.underlying t = some (.map kt e)) (k : K) (v : Value) :
    ∃ w', (Instr.mapUpdate t (.map (some r)) (kv k) v).run P w = .ok () w' ∧ MapIs kv w' r (fun k' => if k' = k then some v else m k') (if (m k).isSome then n else n + 1) ∧ MapTurn w w' r := by
  obtain ⟨es, clock, hb, S, hn, hk, hm, h⟩ := h.found L k
  rcases h with ⟨h0, h1, h2⟩ | ⟨j, x, h0, h1, h2, h3⟩
  · refine ⟨_, by simp [Instr.mapUpdate, run_underlying ht, MapKept.run_getObj_map hb, L.check, h1, MapKept.run_setObj_map _ hb, Result.andThen]; rfl, ?_, ⟨es, clock, _, _, hb, rfl⟩⟩
    refine ⟨_, _, (heap_set hb).1, stamped_push S h2, by simp [h0, hn], ?_, ?_⟩
    · intro x hx
      simp only [Array.toList_push, List.mem_append, List.mem_singleton] at hx
      rcases hx with hx | rfl
      · exact hk x hx
      · exact ⟨k, rfl⟩
    · intro k' v'
      by_cases hkk : k' = k
      · subst hkk
        simp only [if_true, Option.some.injEq]
        constructor
        · rintro rfl
          exact ⟨es.size, { key := kv k', val := v, born := clock }, by simp, rfl, rfl⟩
        · rintro ⟨i, x, hx, hxk, hxv⟩
          rw [Array.getElem?_push] at hx
          split at hx
          · cases hx; exact hxv
          · exact absurd hxk (h2 x (Array.mem_toList_iff.2 (Array.mem_of_getElem? hx)))
      · simp only [if_neg hkk]
        rw [hm]
        constructor
        · rintro ⟨i, x, hx, hxk, hxv⟩
          have hlt := (Array.getElem?_eq_some_iff.1 hx).1
          exact ⟨i, x, by rw [Array.getElem?_push, if_neg (by omega)]; exact hx, hxk, hxv⟩
        · rintro ⟨i, x, hx, hxk, hxv⟩
          rw [Array.getElem?_push] at hx
          split at hx
          · cases hx; exact absurd (L.inj _ _ hxk).symm hkk
          · exact ⟨i, x, hx, hxk, hxv⟩
  · refine ⟨_, by simp [Instr.mapUpdate, run_underlying ht, MapKept.run_getObj_map hb, L.check, h1, h2, h3, L.stays, MapKept.run_setObj_map _ hb, Result.andThen]; rfl, ?_, ⟨es, clock, _, _, hb, rfl⟩⟩
    have hkey : ∀ e', es[j]? = some e' → ({ e' with key := kv k, val := v } : MapEntry).key = e'.key := fun e' he' => by rw [h2] at he'; cases he'; exact h3.symm
    refine ⟨_, _, (heap_set hb).1, stamped_modify S _ _ (fun _ _ => rfl) (fun e' _ he' => hkey e' he'), by simp [h0, hn], ?_, ?_⟩
    · intro y hy
      obtain ⟨i, hi⟩ := List.getElem?_of_mem hy
      rw [Array.getElem?_toList, Array.getElem?_modify] at hi
      split at hi
      · rw [← ‹j = i›, h2] at hi
        cases hi
        exact ⟨k, rfl⟩
      · exact hk y (Array.mem_toList_iff.2 (Array.mem_of_getElem? hi))
    · intro k' v'
      by_cases hkk : k' = k
      · subst hkk
        simp only [if_true, Option.some.injEq]
        constructor
        · rintro rfl
          exact ⟨j, _, by rw [Array.getElem?_modify, if_pos rfl, h2]; rfl, rfl, rfl⟩
        · rintro ⟨i, y, hy, hyk, hyv⟩
          rw [Array.getElem?_modify] at hy
          split at hy
          · rw [← ‹j = i›, h2] at hy; cases hy; exact hyv
          · exact absurd (key_once S h2 hy (h3.trans hyk.symm)) ‹¬ j = i›
      · simp only [if_neg hkk]
        rw [hm]
        constructor
        · rintro ⟨i, y, hy, hyk, hyv⟩
          have hne : ¬ j = i := by
            rintro rfl
            rw [h2] at hy
            cases hy
            exact hkk (L.inj _ _ (hyk.symm.trans h3))
          exact ⟨i, y, by rw [Array.getElem?_modify, if_neg hne]; exact hy, hyk, hyv⟩
        · rintro ⟨i, y, hy, hyk, hyv⟩
          rw [Array.getElem?_modify] at hy
          split at hy
          · rw [← ‹j = i›, h2] at hy; cases hy; exact absurd (L.inj _ _ hyk).symm hkk
          · exact ⟨i, y, hy, hyk, hyv⟩

/-- 'delete(m, k)' -/
theorem MapIs.drop [DecidableEq K] (h : MapIs kv w r m n) (L : KeyLaw P kt kv) (ht : P.underlying t = some (.map kt e)) (k : K) (ty : TypeId) :
    ∃ w', (Builtin.delete_ #[t, kt] ty #[.map (some r), kv k]).run P w = .ok (.tuple #[]) w' ∧ MapIs kv w' r (fun k' => if k' = k then none else m k') (if (m k).isSome then n - 1 else n) ∧ MapTurn w w' r := by
  obtain ⟨es, clock, hb, S, hn, hk, hm, h⟩ := h.found L k
  rcases h with ⟨h0, h1, h2⟩ | ⟨j, x, h0, h1, h2, h3⟩
  · refine ⟨_, by simp [Builtin.delete_, run_underlying ht, MapKept.run_getObj_map hb, L.check, h1, MapKept.run_setObj_map _ hb, Result.andThen]; rfl, ?_, ⟨es, clock, _, _, hb, rfl⟩⟩
    refine ⟨_, _, (heap_set hb).1, S, by simp [h0, hn], hk, ?_⟩
    intro k' v'
    by_cases hkk : k' = k
    · subst hkk
      rw [← hm, h0]; simp
    · rw [← hm]; simp [hkk]
  · have hj := (Array.getElem?_eq_some_iff.1 h2).1
    refine ⟨_, by simp [Builtin.delete_, run_underlying ht, MapKept.run_getObj_map hb, L.check, h1, MapKept.run_setObj_map _ hb, Result.andThen]; rfl, ?_, ⟨es, clock, _, _, hb, rfl⟩⟩
    have he : es.eraseIdxIfInBounds j = es.eraseIdx j hj := by simp [Array.eraseIdxIfInBounds, hj]
    refine ⟨_, _, (heap_set hb).1, stamped_erase S j, by rw [he]; simp [h0, hn], ?_, ?_⟩
    · intro y hy
      rw [he] at hy
      simp only [Array.toList_eraseIdx] at hy
      exact hk y ((List.eraseIdx_sublist _ _).subset hy)
    · intro k' v'
      rw [he]
      by_cases hkk : k' = k
      · subst hkk
        simp only [if_true]
        constructor
        · intro h; cases h
        · rintro ⟨i, y, hy, hyk, hyv⟩
          rw [Array.getElem?_eraseIdx] at hy
          split at hy
          · exact absurd (key_once S h2 hy (h3.trans hyk.symm)) (by omega)
          · exact absurd (key_once S h2 hy (h3.trans hyk.symm)) (by omega)
      · simp only [if_neg hkk]
        rw [hm]
        constructor
        · rintro ⟨i, y, hy, hyk, hyv⟩
          have hne : ¬ j = i := by
            rintro rfl
            rw [h2] at hy
            cases hy
            exact hkk (L.inj _ _ (hyk.symm.trans h3))
          by_cases hlt : i < j
          · exact ⟨i, y, by rw [Array.getElem?_eraseIdx, if_pos hlt]; exact hy, hyk, hyv⟩
          · exact ⟨i - 1, y, by rw [Array.getElem?_eraseIdx, if_neg (by omega), show i - 1 + 1 = i from by omega]; exact hy, hyk, hyv⟩
        · rintro ⟨i, y, hy, hyk, hyv⟩
          rw [Array.getElem?_eraseIdx] at hy
          split at hy
          · exact ⟨i, y, hy, hyk, hyv⟩
          · exact ⟨i + 1, y, hy, hyk, hyv⟩
end

/-! ### at the operation, for the walk -/
section
variable {K : Type} {P : Program} {kv : K → Value} {r n : Nat} {mm : K → Option Value} {kt e t : TypeId} (w : World) {ops : Array Oper} {rest : List Oper} {o : Oper} {a : Act} {Q : Exit → Act → World → Prop}

theorem wpl_update [DecidableEq K] (hg : o.guard = none) (m x v : Operand) (t : TypeId) (hop : o.op = Op.mapUpdate t m x v) (L : KeyLaw P kt kv) (ht : P.underlying t = some (.map kt e)) (h : MapIs kv w r mm n)
    (k : K) (val : Value) (hm : a.eval m = .map (some r)) (hx : a.eval x = kv k) (hv : a.eval v = val)
    (hK : ∀ w', MapIs kv w' r (fun k' => if k' = k then some val else mm k') (if (mm k).isSome then n else n + 1) → MapTurn w w' r → wpList P ops Q rest (a.put o.dst undef) w') :
    wpList P ops Q (o :: rest) a w := by
  refine wpList_plain hg fun K' hK' => ?_
  obtain ⟨w', hrun, r1, r2⟩ := h.update L ht k val
  unfold Oper.wp
  simp [execOp, hop, hm, hx, hv, hrun, Result.andThen]
  exact hK' _ _ (hK w' r1 r2)
theorem wpl_lookup (hg : o.guard = none) (m x : Operand) (t : TypeId) (c : Bool) (hop : o.op = Op.lookup t m x c) (L : KeyLaw P kt kv) (ht : P.underlying t = some (.map kt e)) (h : MapIs kv w r mm n)
    (k : K) (z : Value) (hz : (zeroValue e).run P w = .ok z w) (hm : a.eval m = .map (some r)) (hx : a.eval x = kv k)
    (hK : wpList P ops Q rest (a.put o.dst (if c then .tuple #[(mm k).getD z, .bool (mm k).isSome] else (mm k).getD z)) w) :
    wpList P ops Q (o :: rest) a w := by
  refine wpList_plain hg fun K' hK' => ?_
  have hrun := h.lookup L ht hz k c
  unfold Oper.wp
  simp [execOp, hop, hm, hx, hrun, Result.andThen]
  exact hK' _ _ hK
theorem wpl_delete [DecidableEq K] (hg : o.guard = none) (m x : Operand) (t kt : TypeId) (hop : o.op = Op.call { callee := Callee.builtin Builtin.delete, args := #[m, x], argTypes := #[t, kt] }) (L : KeyLaw P kt kv) (ht : P.underlying t = some (.map kt e)) (h : MapIs kv w r mm n)
    (k : K) (hm : a.eval m = .map (some r)) (hx : a.eval x = kv k)
    (hK : ∀ w', MapIs kv w' r (fun k' => if k' = k then none else mm k') (if (mm k).isSome then n - 1 else n) → MapTurn w w' r → wpList P ops Q rest (a.put o.dst (.tuple #[])) w') :
    wpList P ops Q (o :: rest) a w := by
  refine wpList_plain hg fun K' hK' => ?_
  obtain ⟨w', hrun, r1, r2⟩ := h.drop L ht k o.type
  unfold Oper.wp
  simp [execOp, hop, resolve, invoke, builtin, hm, hx, hrun, Result.andThen]
  exact hK' _ _ (hK w' r1 r2)
theorem wpl_len (hg : o.guard = none) (m : Operand) (t : TypeId) (hop : o.op = Op.call { callee := Callee.builtin Builtin.len, args := #[m], argTypes := #[t] })
    (ht : P.underlying t = some (.map kt e)) (h : MapIs kv w r mm n) (hm : a.eval m = .map (some r))
    (hK : wpList P ops Q rest (a.put o.dst (.int .i64 n)) w) :
    wpList P ops Q (o :: rest) a w := by
  refine wpList_plain hg fun K' hK' => ?_
  unfold Oper.wp
  simp [execOp, hop, resolve, invoke, builtin, hm, h.len ht o.type, Result.andThen]
  exact hK' _ _ hK
end
end Go.Proofs.YteihedfmmiihiaaGreat
