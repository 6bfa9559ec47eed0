/- Blocks known whole; what a call may have turned; a map's block among them. -/
import Derived.Test.YteihedfmmiihiaaGreatMapFn
import Derived.Below
import Derived.Laws.AppendOwn
import Derived.Laws.OwnMore
import Derived.Maps.AppendAt
import Derived.OneCell
import Derived.Lib.Hide
import Derived.IntWalk
import Derived.Deep.QuietTactic
import Derived.BigQuiet
import Derived.RegionTactic
import Derived.ChangeAlike
import Derived.StillTailTactics
import Derived.LoopTactic
import Derived.Handy
import Derived.Outline
import Derived.WalkMore
import Derived.Deep.DeepFit
import Derived.Laws.Rows
import Derived.WalkSmall
namespace Go.Proofs.YteihedfmmiihiaaGreat
open Go.RowKit

/-- a block that is known whole -/
def Blk (w : World) (g : Nat) (t : TypeId) (cs : List Value) : Prop := w.heap[g]? = some (.cells cs.toArray t (0, 0))
section
variable {w w' : World} {g : Nat} {t : TypeId} {cs : List Value}
theorem Blk.lt (h : Blk w g t cs) : g < w.heap.size := (Array.getElem?_eq_some_iff.1 h).1
theorem Blk.cell (h : Blk w g t cs) (i : Nat) : w.cell? ⟨g, i, none⟩ = cs[i]? := by rw [cell_of_row w g i _ t (0, 0) h, List.getElem?_toArray]
theorem Blk.fz (h : Blk w g t cs) (i : Nat) : w.frozen? ⟨g, i, none⟩ = false := by unfold Blk at h; simp [World.frozen?, h]
theorem Blk.set (h : Blk w g t cs) (i : Nat) (u : Value) : Blk (w.setCell ⟨g, i, none⟩ u) g t (cs.set i u) := by
  unfold Blk at h ⊢
  simp [World.setCell, Array.getElem?_modify, h]
theorem Blk.far (h : Blk w g t cs) {p : Addr} (hp : g ≠ p.block) (u : Value) : Blk (w.setCell p u) g t cs := (Below.heap_setCell w p u g hp).trans h
theorem Blk.bel (h : Blk w g t cs) (hb : Below w.heap.size w w') : Blk w' g t cs := (hb.block g h.lt).trans h
theorem Blk.grown {r : Nat} (h : Blk w g t cs) (hb : w.grownBy w' (some r)) (hne : g ≠ r) : Blk w' g t cs := (hb.block g h.lt (by intro e; injection e with e; exact hne e)).trans h
theorem Blk.alloc (h : Blk w g t cs) (o : Obj) : Blk (w.alloc o) g t cs := (Below.heap_alloc w o g h.lt).trans h
theorem Blk.new (w : World) (t : TypeId) (cs : List Value) : Blk (w.alloc (.cells cs.toArray t)) w.heap.size t cs := heap_alloc_new w _
end

theorem Blk.new2 (w : World) (o : Obj) (t : TypeId) (cs : List Value) : Blk ((w.alloc o).alloc (.cells cs.toArray t)) (w.heap.size + 1) t cs := by
  have := Blk.new (w.alloc o) t cs
  rwa [World.size_alloc] at this
theorem Blk.new3 (w : World) (o o2 : Obj) (t : TypeId) (cs : List Value) : Blk (((w.alloc o).alloc o2).alloc (.cells cs.toArray t)) (w.heap.size + 1 + 1) t cs := by
  have := Blk.new2 (w.alloc o) o2 t cs
  rwa [World.size_alloc] at this
theorem Blk.drew {w : World} {g : Nat} {t : TypeId} {cs : List Value} (h : Blk w g t cs) : Blk w.drew g t cs := h
theorem Blk.drewN {w : World} {g : Nat} {t : TypeId} {cs : List Value} (h : Blk w g t cs) (n : Nat) : Blk (w.drewN n) g t cs := h
theorem Below.new (w : World) (o : Obj) : Below w.heap.size w (w.alloc o) := (Below.refl _ _).alloc (Nat.le_refl _) _
theorem Below.new2 (w : World) (o o2 : Obj) : Below w.heap.size w ((w.alloc o).alloc o2) := (Below.new w o).alloc (by simp) _
theorem Below.new3 (w : World) (o o2 o3 : Obj) : Below w.heap.size w (((w.alloc o).alloc o2).alloc o3) := (Below.new2 w o o2).alloc (by simp; omega) _
/-- all old blocks but some are as they were -/
structure Turns (S : Nat → Prop) (w w' : World) : Prop where
  os : w'.os = w.os
  tape : w'.tape = w.tape
  output : w'.output = w.output
  size : w.heap.size ≤ w'.heap.size
  block : ∀ i, i < w.heap.size → ¬ S i → w'.heap[i]? = w.heap[i]?
section
variable {S T : Nat → Prop} {w w' w'' : World}
theorem Turns.refl (S : Nat → Prop) (w : World) : Turns S w w := ⟨rfl, rfl, rfl, Nat.le_refl _, fun _ _ _ => rfl⟩
theorem Turns.trans (h : Turns S w w') (k : Turns T w' w'') (hs : ∀ i, i < w.heap.size → T i → S i) : Turns S w w'' :=
  ⟨k.os.trans h.os, k.tape.trans h.tape, k.output.trans h.output, Nat.le_trans h.size k.size, fun i hi hn => (k.block i (Nat.lt_of_lt_of_le hi h.size) (fun ht => hn (hs i hi ht))).trans (h.block i hi hn)⟩
theorem Turns.then (h : Turns S w w') (k : Turns S w' w'') : Turns S w w'' := h.trans k fun _ _ h => h
theorem Turns.mono (h : Turns S w w') (hs : ∀ i, i < w.heap.size → S i → T i) : Turns T w w' := ⟨h.os, h.tape, h.output, h.size, fun i hi hn => h.block i hi fun hq => hn (hs i hi hq)⟩
theorem Turns.of_below (h : Below w.heap.size w w') : Turns S w w' := ⟨h.os, h.tape, h.output, h.size, fun i hi _ => h.block i hi⟩
theorem Turns.of_grown {row : Option Nat} (h : w.grownBy w' row) (hs : ∀ r, row = some r → S r) : Turns S w w' :=
  ⟨h.os, h.tape, h.output, h.size, fun i hi hn => h.block i hi fun e => hn (hs i e.symm)⟩
theorem Turns.of_map {r : Nat} (h : MapTurn w w' r) (hs : S r) : Turns S w w' := .of_grown h.grown fun _ e => by injection e with e; exact e ▸ hs
theorem Turns.of_set (w : World) (p : Addr) (u : Value) (hs : S p.block) : Turns S w (w.setCell p u) :=
  ⟨rfl, rfl, rfl, by simp [World.setCell], fun i _ hn => Below.heap_setCell w p u i (fun e => hn (e ▸ hs))⟩
theorem Turns.set (h : Turns S w w') (p : Addr) (u : Value) (hs : p.block < w.heap.size → S p.block) : Turns S w (w'.setCell p u) :=
  ⟨h.os, h.tape, h.output, Nat.le_trans h.size (by simp [World.setCell]), fun i hi hn => (Below.heap_setCell w' p u i (fun e => hn (e ▸ hs (e ▸ hi)))).trans (h.block i hi hn)⟩
theorem Turns.alloc (h : Turns S w w') (o : Obj) : Turns S w (w'.alloc o) :=
  ⟨h.os, h.tape, h.output, Nat.le_trans h.size (by simp), fun i hi hn => (Below.heap_alloc w' o i (Nat.lt_of_lt_of_le hi h.size)).trans (h.block i hi hn)⟩
theorem Turns.drewN (h : Turns S w w') (n : Nat) : Turns S w (w'.drewN n) := ⟨h.os, h.tape, h.output, h.size, h.block⟩
theorem Turns.below (h : Turns S w w') {B : Nat} (hB : B ≤ w.heap.size) (hs : ∀ i, i < w.heap.size → S i → B ≤ i) : Below B w w' :=
  ⟨h.os, h.tape, h.output, h.size, fun i hi => h.block i (by omega) fun hq => by have := hs i (by omega) hq; omega⟩
theorem Turns.grown (h : Turns S w w') {r : Nat} (hs : ∀ i, S i → i = r) : w.grownBy w' (some r) :=
  ⟨h.os, h.tape, h.output, h.size, fun i hi hn => h.block i hi fun hq => hn (by rw [hs i hq])⟩
theorem Turns.cell (h : Turns S w w') {p : Addr} (hp : p.block < w.heap.size) (hn : ¬ S p.block) : w'.cell? p = w.cell? p := by
  have := h.block p.block hp hn
  unfold World.cell?
  rw [this]
theorem Turns.fz (h : Turns S w w') {p : Addr} (hp : p.block < w.heap.size) (hn : ¬ S p.block) : w'.frozen? p = w.frozen? p := by
  have := h.block p.block hp hn
  unfold World.frozen?
  rw [this]
theorem Blk.turns {g : Nat} {t : TypeId} {cs : List Value} (h : Blk w g t cs) (k : Turns S w w') (hn : ¬ S g) : Blk w' g t cs := (k.block g h.lt hn).trans h
theorem MapIs.turns {K : Type} {kv : K → Value} {r n : Nat} {m : K → Option Value} (h : MapIs kv w r m n) (k : Turns S w w') (hn : ¬ S r) : MapIs kv w' r m n := h.keep (k.block r h.lt hn)
theorem own_turns {base n : Nat} {e : TypeId} {size : Nat} {v : Value} {xs : List Value} (h : w.ownsRow base e size v n xs) (k : Turns S w w') (hn : ∀ g, v.ownBlock = some g → ¬ S g) : w'.ownsRow base e size v n xs := by
  obtain ⟨h1, h2⟩ := h
  refine ⟨h1, ?_⟩
  rcases h2 with h2 | ⟨g, cap, cur, rfl, h3, h4, h5⟩
  · exact .inl h2
  · exact .inr ⟨g, cap, cur, rfl, h3, (k.block g (Array.getElem?_eq_some_iff.1 h4).1 (hn g rfl)).trans h4, h5⟩
end
/-- a row of one type and a block of another are unlike -/
theorem own_ne_blk {w : World} {base n : Nat} {e t : TypeId} {size g r : Nat} {v : Value} {xs cs : List Value} (h : w.ownsRow base e size v n xs) (hv : v.ownBlock = some g) (hb : Blk w r t cs) (hne : e ≠ t) : g ≠ r := by
  rintro rfl
  rcases h.2 with ⟨rfl, _⟩ | ⟨g', cap, cur, rfl, _, h4, _⟩
  · simp [Value.ownBlock] at hv
  · simp [Value.ownBlock] at hv
    subst hv
    unfold Blk at hb
    rw [h4] at hb
    injection hb with hb
    injection hb with _ hb _
    exact hne hb
theorem own_ne_map {w : World} {base n k : Nat} {e : TypeId} {size g r : Nat} {v : Value} {xs : List Value} {K : Type} {kv : K → Value} {m : K → Option Value} (h : w.ownsRow base e size v n xs) (hv : v.ownBlock = some g) (hb : MapIs kv w r m k) : g ≠ r := by
  rintro rfl
  rcases h.2 with ⟨rfl, _⟩ | ⟨g', cap, cur, rfl, _, h4, _⟩
  · simp [Value.ownBlock] at hv
  · simp [Value.ownBlock] at hv
    subst hv
    exact hb.ne_cells h4 rfl

/-! ### a region whose operations read and whose callees make memory -/
/-- a world in which every block of the first is as it was -/
structure BelowW (w0 : World) where
  w : World
  h : Below w0.heap.size w0 w
instance (w : World) : Inhabited (BelowW w) := ⟨⟨w, Below.refl _ w⟩⟩
theorem below_drewN' {w w' : World} {B : Nat} (h : Below B w w') (n : Nat) : Below B w (w'.drewN n) := ⟨h.os, h.tape, h.output, h.size, h.block⟩
theorem below_trans' {a b c : World} (h : Below a.heap.size a b) (k : Below b.heap.size b c) : Below a.heap.size a c := h.trans (k.mono h.size)
theorem wp_region_quiet_below {P : Program} {id : Nat} {Q : Exit → Act → World → Prop} {a : Act} {w : World} {l : List Oper} (hm : P.follows .mixedOrders = true) (hB : Region.lexB .any l.toArray = true)
    (h : wpQuiet P l.toArray (fun w' => ∃ p : BelowW w, w' = p.w) (fun a' => ∀ w', (∃ p : BelowW w, w' = p.w) → Q .normal a' w') l a) : (Code.region id l.toArray true).wp P Q a w :=
  wp_region_quiet (C := fun w' => ∃ p : BelowW w, w' = p.w) hm hB ⟨⟨_, below_drewN' (Below.refl _ w) 1⟩, rfl⟩ (by simpa using h)
theorem BelowW.cell {w : World} {a : Addr} {v : Value} (hb : a.block < w.heap.size) (h : w.cell? a = some v) : ∀ p : BelowW w, p.w.cell? a = some v := fun p => (p.h.cell hb).trans h
theorem belowW_out {w w' : World} (h : ∃ p : BelowW w, w' = p.w) : Below w.heap.size w w' := by
  obtain ⟨p, rfl⟩ := h
  exact p.h
theorem Calls.below_of {P : Program} {f : FuncId} {args : Array Value} {w : World} {p : BelowW w} {v : Value}
    (h : Calls P f args p.w fun e w' => e = .returned v ∧ Below p.w.heap.size p.w w') : Calls P f args p.w fun e w'' => e = .returned v ∧ ∃ q : BelowW w, w'' = q.w :=
  h.mono fun _ w' ⟨he, hb⟩ => ⟨he, ⟨w', below_trans' p.h hb⟩, rfl⟩
theorem Calls.below_same {P : Program} {f : FuncId} {args : Array Value} {w : World} {p : BelowW w} {v : Value}
    (h : Calls P f args p.w fun e w' => e = .returned v ∧ w' = p.w) : Calls P f args p.w fun e w'' => e = .returned v ∧ ∃ q : BelowW w, w'' = q.w :=
  h.mono fun _ _ ⟨he, hb⟩ => ⟨he, p, hb⟩
/-- a region of reads and quiet calls ahead of a tail in one forced order -/
theorem wp_tail {P : Program} {id : Nat} {Q : Exit → Act → World → Prop} {a : Act} {w : World} {l : List Oper} (n : Nat) (hm : P.follows .mixedOrders = true) (hB : Region.lexTailB .any l.toArray n = true)
    (h : wpStill P l.toArray w.drew (fun a' => wpList P l.toArray Q (l.drop n) a' w.drew) (l.take n) a) : (Code.region id l.toArray true).wp P Q a w :=
  wp_region_still_tail n hm hB h
/-! ### rows of things of one width -/
theorem flat_get {α : Type} (f : α → List Value) (k : Nat) (hk : ∀ t, (f t).length = k) : ∀ (xs : List α) (i j : Nat), j < k → (xs.flatMap f)[i * k + j]? = xs[i]?.bind fun t => (f t)[j]?
  | [], i, j, _ => by simp
  | x :: xs, 0, j, hj => by simp [List.getElem?_append_left, hk, hj]
  | x :: xs, i + 1, j, hj => by
    have e : (i + 1) * k + j = k + (i * k + j) := by rw [Nat.add_mul, Nat.one_mul]; omega
    rw [e, List.flatMap_cons, List.getElem?_append_right (by rw [hk]; omega), hk, show k + (i * k + j) - k = i * k + j from by omega, flat_get f k hk xs i j hj]
    simp
theorem flat_len {α : Type} (f : α → List Value) (k : Nat) (hk : ∀ t, (f t).length = k) (xs : List α) : (xs.flatMap f).length = xs.length * k := by
  induction xs with
  | nil => simp
  | cons x xs ih => simp only [List.flatMap_cons, List.length_append, hk, ih, List.length_cons, Nat.add_mul]; omega
theorem flat_split {α : Type} (f : α → List Value) (k : Nat) (hk : ∀ t, (f t).length = k) (xs : List α) (i : Nat) (hi : i < xs.length) :
    ∃ A B, A.length = i * k ∧ xs.flatMap f = A ++ (f xs[i] ++ B) ∧ ∀ t, (xs.set i t).flatMap f = A ++ (f t ++ B) := by
  refine ⟨(xs.take i).flatMap f, (xs.drop (i + 1)).flatMap f, ?_, ?_, fun t => ?_⟩
  · rw [flat_len f k hk, List.length_take, Nat.min_eq_left (by omega)]
  · rw [← List.flatMap_cons, ← List.flatMap_append]
    congr 1
    simp
  · rw [← List.flatMap_cons, ← List.flatMap_append, List.set_eq_take_append_cons_drop, if_pos hi]
theorem set_at {A L : List Value} {k j : Nat} (h : A.length = k) (u : Value) : (A ++ L).set (k + j) u = A ++ L.set j u := by
  rw [List.set_append_right _ _ (by omega), show k + j - A.length = j from by omega]
theorem set_at0 {A L : List Value} {k : Nat} (h : A.length = k) (u : Value) : (A ++ L).set k u = A ++ L.set 0 u := set_at (j := 0) h u
theorem Blk.news {w : World} {g : Nat} {t : TypeId} {cs : List Value} (h : Blk w g t cs) : ∀ j u, cs[j]? = some u → w.cell? ((⟨g, 0, none⟩ : Addr).add j) = some u := fun j u hj => by
  have e : (⟨g, 0, none⟩ : Addr).add j = ⟨g, j, none⟩ := by simp [Addr.add]; omega
  rw [e, h.cell j, hj]
theorem own_slice' {w : World} {base n : Nat} {e : TypeId} {size : Nat} {v : Value} {xs : List Value} (h : w.ownsRow base e size v n xs) : ∃ A cap, v = .slice A n cap := by
  rcases h.2 with ⟨rfl, rfl⟩ | ⟨g, cap, cur, rfl, _⟩
  · exact ⟨_, _, rfl⟩
  · exact ⟨_, _, rfl⟩
theorem flat_take {α : Type} (f : α → List Value) (k : Nat) (hk : ∀ t, (f t).length = k) : ∀ (xs : List α) (m : Nat), (xs.flatMap f).take (m * k) = (xs.take m).flatMap f
  | [], m => by simp
  | x :: xs, 0 => by simp
  | x :: xs, m + 1 => by
    rw [List.take_succ_cons, List.flatMap_cons, List.flatMap_cons, show (m + 1) * k = (f x).length + m * k from by rw [hk, Nat.add_mul]; omega, List.take_append, Nat.add_sub_cancel_left, flat_take f k hk xs m, List.take_of_length_le (by omega)]
/-- the row's head -/
theorem own_take {w : World} {base n m : Nat} {e : TypeId} {size g cap : Nat} {xs : List Value} (h : w.ownsRow base e size (.slice (some ⟨g, 0, none⟩) n cap) n xs) (hm : m ≤ n) : w.ownsRow base e size (.slice (some ⟨g, 0, none⟩) m cap) m (xs.take (m * size)) := by
  have hle := Nat.mul_le_mul_right size hm
  rcases h.2 with ⟨h', _⟩ | ⟨g', cap', cur, h', h3, h4, h5, h6, h7, h8⟩
  · simp at h'
  · simp only [Value.slice.injEq, Option.some.injEq, Addr.mk.injEq, and_true, true_and] at h'
    obtain ⟨rfl, rfl⟩ := h'
    refine ⟨by rw [List.length_take, h.1]; omega, .inr ⟨g, cap, cur, rfl, h3, h4, by omega, h6, h7, ?_⟩⟩
    rw [← h8, List.take_take, Nat.min_eq_left hle]
/-- a row with something in it -/
theorem own_at {w : World} {base n : Nat} {e : TypeId} {size : Nat} {v : Value} {xs : List Value} (h : w.ownsRow base e size v n xs) (h0 : 0 < n) :
    ∃ g cap, v = .slice (some ⟨g, 0, none⟩) n cap ∧ v.ownBlock = some g ∧ g < w.heap.size ∧ n ≤ cap ∧ cap ≤ maxLen := by
  rcases h.2 with ⟨_, h2⟩ | ⟨g, cap, cur, rfl, _, h4, h5, h6, _⟩
  · omega
  · exact ⟨g, cap, rfl, rfl, (Array.getElem?_eq_some_iff.1 h4).1, h5, h6⟩
end Go.Proofs.YteihedfmmiihiaaGreat
