/- HeapTakes: what the three loops keep, in plain Lean. -/
import Derived.Test.YtoihhckiacmfcaaHpFill
namespace Go.Proofs.Ytoihhckiacmfcaa
open Go.RowKit

def bl (ts : Nat → Bool) (n : Nat) : List Value := (List.range n).map fun j => Value.bool (ts j)
def ups (ts : Nat → Bool) (i : Nat) : Nat → Bool := fun j => if j = i then true else ts j
theorem bl_len (ts : Nat → Bool) (n : Nat) : (bl ts n).length = n := by simp [bl]
theorem bl_at (ts : Nat → Bool) {n i : Nat} (h : i < n) : (bl ts n)[i]? = some (.bool (ts i)) := by simp [bl, h]
theorem bl_set (ts : Nat → Bool) (n i : Nat) : (bl ts n).set i (.bool true) = bl (ups ts i) n := by
  apply List.ext_getElem?
  intro j
  rw [List.getElem?_set]
  by_cases hj : j < n
  · rw [bl_at _ hj, bl_len]
    by_cases hi : i = j
    · subst hi; rw [if_pos rfl, if_pos hj, bl_at _ hj]; simp [ups]
    · rw [if_neg hi, bl_at _ hj]; simp [ups, Ne.symm hi]
  · rw [List.getElem?_eq_none (by rw [bl_len]; omega), List.getElem?_eq_none (l := bl (ups ts i) n) (by rw [bl_len]; omega), bl_len]
    by_cases hi : i = j
    · subst hi; simp [hj]
    · rw [if_neg hi]

theorem mem_set_th {xs : List Th} {j : Nat} {y t : Th} (h : t ∈ xs.set j y) : t ∈ xs ∨ t = y := List.mem_or_eq_of_mem_set h

/-- behind each round of the first loop -/
structure T1 (z g : Nat → Int) (n m l : Nat) (xs : List Th) (ts : Nat → Bool) (tk : Nat) : Prop where
  on : ∀ j, j < n → (ts j = false ↔ ∃ t ∈ xs, t.num = j)
  cnt : xs.length + tk = n
  v : ∀ t ∈ xs, t.v = fun _ => .int .i64 (t.num : Int)
  key : ∀ t ∈ xs, t.key = z t.num ∨ ∃ i, i < m ∧ i < l ∧ g i = (t.num : Int)

theorem mem_things {z : Nat → Int} {n : Nat} {t : Th} : t ∈ things z n ↔ t.num < n ∧ t = ⟨z t.num, t.num, fun _ => .int .i64 (t.num : Int)⟩ := by
  unfold things
  rw [List.mem_map]
  constructor
  · rintro ⟨j, hj, rfl⟩
    exact ⟨List.mem_range.1 hj, rfl⟩
  · rintro ⟨h1, h2⟩
    exact ⟨t.num, List.mem_range.2 h1, h2.symm⟩
theorem T1.start {z g : Nat → Int} {n m l : Nat} {xs : List Th} (h : xs.Perm (things z n)) : T1 z g n m l xs (fun _ => false) 0 where
  on j hj := ⟨fun _ => ⟨⟨z j, j, fun _ => .int .i64 (j : Int)⟩, h.mem_iff.2 (mem_things.2 ⟨hj, rfl⟩), rfl⟩, fun _ => rfl⟩
  cnt := by rw [h.length_eq, things_len]; rfl
  v t ht := by have := (mem_things.1 (h.mem_iff.1 ht)).2; rw [this]
  key t ht := by have := (mem_things.1 (h.mem_iff.1 ht)).2; left; rw [this]
theorem T1.change {z g : Nat → Int} {n m l : Nat} {xs zs : List Th} {ts : Nat → Bool} {tk j i : Nat} {key : Int} (h : T1 z g n m l xs ts tk) (hj : j < xs.length)
    (hp : zs.Perm (xs.set j ⟨key, (gT xs j).num, (gT xs j).v⟩)) (hm : i < m) (hl : i < l) (hg : g i = ((gT xs j).num : Int)) : T1 z g n m l zs ts tk where
  on k hk := by
    rw [h.on k hk]
    constructor
    · rintro ⟨t, ht, rfl⟩
      obtain ⟨q, hq, rfl⟩ := List.mem_iff_getElem.1 ht
      by_cases e : q = j
      · subst e
        exact ⟨⟨key, (gT xs q).num, (gT xs q).v⟩, hp.mem_iff.2 (List.mem_iff_getElem.2 ⟨q, by simpa using hq, by simp⟩), by rw [gT_of hq]⟩
      · exact ⟨xs[q], hp.mem_iff.2 (List.mem_iff_getElem.2 ⟨q, by simpa using hq, by simp [Ne.symm e]⟩), rfl⟩
    · rintro ⟨t, ht, rfl⟩
      rcases mem_set_th (hp.mem_iff.1 ht) with ht | rfl
      · exact ⟨t, ht, rfl⟩
      · exact ⟨gT xs j, mem_gT hj, rfl⟩
  cnt := by rw [hp.length_eq, List.length_set]; exact h.cnt
  v t ht := by
    rcases mem_set_th (hp.mem_iff.1 ht) with ht | rfl
    · exact h.v t ht
    · exact (show (gT xs j).v = fun _ => .int .i64 ((gT xs j).num : Int) from h.v _ (mem_gT hj))
  key t ht := by
    rcases mem_set_th (hp.mem_iff.1 ht) with ht | rfl
    · exact h.key t ht
    · exact .inr ⟨i, hm, hl, hg⟩
theorem T1.remove {z g : Nat → Int} {n m l : Nat} {xs zs : List Th} {ts : Nat → Bool} {tk : Nat} {x : Th} (h : T1 z g n m l xs ts tk) (ha : Apart xs)
    (hp : (x :: zs).Perm xs) : T1 z g n m l zs (ups ts x.num) (tk + 1) where
  on k hk := by
    have hd : Apart (x :: zs) := ha.perm hp
    have hx : ∀ t ∈ zs, t.num ≠ x.num := fun t ht e => by
      have := (List.nodup_cons.1 (show (x.num :: zs.map (·.num)).Nodup from hd)).1
      exact this (List.mem_map.2 ⟨t, ht, e⟩)
    unfold ups
    by_cases e : k = x.num
    · rw [if_pos e]
      refine ⟨fun h => (by cases h), ?_⟩
      rintro ⟨t, ht, e2⟩
      exact absurd (e2.trans e) (hx t ht)
    · rw [if_neg e, h.on k hk]
      constructor
      · rintro ⟨t, ht, rfl⟩
        rcases List.mem_cons.1 (hp.mem_iff.2 ht) with rfl | h2
        · exact absurd rfl e
        · exact ⟨t, h2, rfl⟩
      · rintro ⟨t, ht, rfl⟩
        exact ⟨t, hp.mem_iff.1 (List.mem_cons_of_mem _ ht), rfl⟩
  cnt := by have := hp.length_eq; have := h.cnt; simp at *; omega
  v t ht := h.v t (hp.mem_iff.1 (List.mem_cons_of_mem _ ht))
  key t ht := h.key t (hp.mem_iff.1 (List.mem_cons_of_mem _ ht))

/-- behind each round of the second loop -/
structure T2 (z g : Nat → Int) (m l k : Nat) (xs : List Th) (ts : Nat → Bool) : Prop where
  v : ∀ t ∈ xs, t.v = fun _ => .int .i64 (t.num : Int)
  key : ∀ t ∈ xs, ts t.num = false → t.key = z t.num ∨ ∃ i, k ≤ i ∧ i < m ∧ i < l ∧ g i = (t.num : Int)
theorem T2.start {z g : Nat → Int} {n m l : Nat} {xs : List Th} {ts : Nat → Bool} {tk : Nat} (h : T1 z g n m l xs ts tk) : T2 z g m l 0 xs ts :=
  ⟨h.v, fun t ht _ => (h.key t ht).imp id fun ⟨i, h⟩ => ⟨i, Nat.zero_le _, h⟩⟩
theorem T1.start2 {z g : Nat → Int} {n m l : Nat} {xs : List Th} {ts : Nat → Bool} {tk : Nat} (h : T1 z g n m l xs ts tk) : T2 z g m l 0 xs ts := T2.start h
theorem T2.mark {z g : Nat → Int} {m l k j : Nat} {xs : List Th} {ts : Nat → Bool} (h : T2 z g m l k xs ts) (hg : g k = (j : Int)) : T2 z g m l (k + 1) xs (ups ts j) :=
  ⟨h.v, fun t ht hts => by
    unfold ups at hts
    by_cases e : t.num = j
    · rw [if_pos e] at hts; cases hts
    · rw [if_neg e] at hts
      refine (h.key t ht hts).imp id ?_
      rintro ⟨i, h1, h2⟩
      refine ⟨i, ?_, h2⟩
      by_cases ek : i = k
      · subst ek; have := h2.2.2; omega
      · omega⟩
theorem T2.skip {z g : Nat → Int} {m l k n : Nat} {xs : List Th} {ts : Nat → Bool} (h : T2 z g m l k xs ts) (hlt : ∀ t ∈ xs, t.num < n) (hg : ¬ (0 ≤ g k ∧ g k < (n : Int))) : T2 z g m l (k + 1) xs ts :=
  ⟨h.v, fun t ht hts => by
    refine (h.key t ht hts).imp id ?_
    rintro ⟨i, h1, h2⟩
    refine ⟨i, ?_, h2⟩
    by_cases ek : i = k
    · subst ek; have := h2.2.2; have := hlt t ht; omega
    · omega⟩

/-- behind each round of the third loop -/
structure T3 (z : Nat → Int) (xs : List Th) (ts : Nat → Bool) (lk la : Int) : Prop where
  v : ∀ t ∈ xs, t.v = fun _ => .int .i64 (t.num : Int)
  key : ∀ t ∈ xs, ts t.num = false → t.key = z t.num
  le : ∀ t ∈ xs, ts t.num = false → lk < t.key ∨ lk = t.key ∧ la ≤ (t.num : Int)
theorem T3.start {z g : Nat → Int} {m l k n : Nat} {xs : List Th} {ts : Nat → Bool} (h : T2 z g m l k xs ts) (hk : ¬ (k < m ∧ k < l)) (hlt : ∀ t ∈ xs, t.num < n) (hz : ∀ i, i < n → -9223372036854775808 ≤ z i) :
    T3 z xs ts (-9223372036854775808) (-1) := by
  have hkey : ∀ t ∈ xs, ts t.num = false → t.key = z t.num := fun t ht hts => by
    rcases h.key t ht hts with h1 | ⟨i, h1, h2, h3, _⟩
    · exact h1
    · exact absurd ⟨Nat.lt_of_le_of_lt h1 h2, Nat.lt_of_le_of_lt h1 h3⟩ hk
  refine ⟨h.v, hkey, fun t ht hts => ?_⟩
  have := hkey t ht hts
  have := hz _ (hlt t ht)
  omega
theorem T3.pop {z : Nat → Int} {xs zs : List Th} {ts : Nat → Bool} {lk la : Int} {x : Th} (h : T3 z xs ts lk la) (hp : (x :: zs).Perm xs) : T3 z zs ts lk la :=
  ⟨fun t ht => h.v t (hp.mem_iff.1 (List.mem_cons_of_mem _ ht)), fun t ht => h.key t (hp.mem_iff.1 (List.mem_cons_of_mem _ ht)), fun t ht => h.le t (hp.mem_iff.1 (List.mem_cons_of_mem _ ht))⟩
theorem T3.next {z : Nat → Int} {xs zs : List Th} {ts : Nat → Bool} {lk la : Int} (h : T3 z xs ts lk la) (hh : Heap xs) (h0 : 0 < xs.length) (hp : (gT xs 0 :: zs).Perm xs) (hx : ts (gT xs 0).num = false) :
    T3 z zs ts (z (gT xs 0).num) ((gT xs 0).num : Int) :=
  ⟨(h.pop hp).v, (h.pop hp).key, fun t ht hts => by
    have h1 := h.key _ (mem_gT h0) hx
    have hm := hp.mem_iff.1 (List.mem_cons_of_mem _ ht)
    obtain ⟨j, hj, rfl⟩ := List.mem_iff_getElem.1 hm
    have h2 := hh.least j hj
    rw [gT_of hj] at h2
    unfold Th.le at h2
    omega⟩
theorem T3.not_back {z : Nat → Int} {xs : List Th} {ts : Nat → Bool} {lk la : Int} (h : T3 z xs ts lk la) {t : Th} (ht : t ∈ xs) (hts : ts t.num = false) : ¬ z t.num < lk ∧ ¬ (z t.num = lk ∧ (t.num : Int) < la) := by
  have h1 := h.key t ht hts
  have h2 := h.le t ht hts
  omega

/-! ### memory -/
structure TM (w wr : World) (p : Nat) (v : Value) (M : Nat) (xs : List Th) (n tb : Nat) (ts : Nat → Bool) : Prop where
  st : HStI wr p v M xs n
  row : Blk wr tb 4 (bl ts n)
  lo : ∀ i, HS p v M i → w.heap.size ≤ i ∧ i ≠ tb
  tb : w.heap.size ≤ tb
  bel : Below w.heap.size w wr
theorem TM.move {w wr w' : World} {p : Nat} {v v' : Value} {M : Nat} {xs zs : List Th} {n tb : Nat} {ts : Nat → Bool} (h : TM w wr p v M xs n tb ts) (hs : HStI w' p v' M zs n) (ho : v'.ownBlock = v.ownBlock) (ht : Turns (HS p v M) wr w') :
    TM w w' p v' M zs n tb ts :=
  ⟨hs, h.row.turns ht (fun e => (h.lo _ e).2 rfl), fun i hi => h.lo i (by unfold HS at *; rw [ho] at hi; exact hi), h.tb, h.bel.trans (ht.below h.bel.size fun i _ hs => (h.lo i hs).1)⟩
theorem TM.mark {w wr : World} {p : Nat} {v : Value} {M : Nat} {xs : List Th} {n tb : Nat} {ts : Nat → Bool} (h : TM w wr p v M xs n tb ts) (j : Nat) :
    TM w (wr.setCell ⟨tb, j, none⟩ (.bool true)) p v M xs n tb (ups ts j) :=
  ⟨h.st.keep (Turns.of_set (S := fun i => i = tb) wr ⟨tb, j, none⟩ (.bool true) rfl) (fun i hi e => (h.lo i hi).2 e), by have := h.row.set j (.bool true); rwa [bl_set] at this, h.lo, h.tb,
    h.bel.trans ((Turns.of_set (S := fun i => i = tb) wr ⟨tb, j, none⟩ (.bool true) rfl).below h.bel.size (fun i _ e => by have := h.tb; omega))⟩
theorem TM.bel' {w wr w' : World} {p : Nat} {v : Value} {M : Nat} {xs : List Th} {n tb : Nat} {ts : Nat → Bool} (h : TM w wr p v M xs n tb ts) (hb : Below wr.heap.size wr w') : TM w w' p v M xs n tb ts :=
  ⟨h.st.bel hb, h.row.bel hb, h.lo, h.tb, h.bel.trans (hb.mono h.bel.size)⟩
end Go.Proofs.Ytoihhckiacmfcaa
