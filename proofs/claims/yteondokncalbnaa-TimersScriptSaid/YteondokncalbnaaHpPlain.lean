/- Plain laws of a heap that lies in a list: what rises, what sinks, what is taken away; and of a list that is being turned, beside a map of places. -/
import Derived.WalkKit
namespace Go.Proofs.Yteondokncalbnaa

structure Th where
  key : Int
  num : Nat
  v : Nat → Value
def th0 : Th := ⟨0, 0, fun _ => undef⟩
def Th.lt (a b : Th) : Prop := a.key < b.key ∨ (a.key = b.key ∧ a.num < b.num)
def Th.le (a b : Th) : Prop := a.key < b.key ∨ (a.key = b.key ∧ a.num ≤ b.num)
instance (a b : Th) : Decidable (a.lt b) := by unfold Th.lt; infer_instance
theorem Th.le_refl (a : Th) : a.le a := .inr ⟨rfl, Nat.le_refl _⟩
theorem Th.le.trans {a b c : Th} (h : a.le b) (k : b.le c) : a.le c := by
  unfold Th.le at *; omega
theorem Th.lt_le {a b : Th} (h : a.lt b) : a.le b := by
  unfold Th.le; unfold Th.lt at h; omega
theorem Th.not_lt {a b : Th} (h : ¬ a.lt b) : b.le a := by
  unfold Th.le; unfold Th.lt at h; omega

/-- what stands at a place -/
def gT (xs : List Th) (j : Nat) : Th := xs.getD j th0
theorem gT_of {xs : List Th} {j : Nat} (h : j < xs.length) : gT xs j = xs[j] := by simp [gT, h]
theorem gT_set {xs : List Th} {i : Nat} {v : Th} (h : i < xs.length) (j : Nat) : gT (xs.set i v) j = if j = i then v else gT xs j := by
  unfold gT
  rw [List.getD_eq_getElem?_getD, List.getD_eq_getElem?_getD, List.getElem?_set]
  by_cases e : i = j
  · subst e; simp [h]
  · rw [if_neg e, if_neg (fun h => e h.symm)]
theorem gT_ext {xs ys : List Th} (h : xs.length = ys.length) (k : ∀ j, j < xs.length → gT xs j = gT ys j) : xs = ys := by
  apply List.ext_getElem h
  intro j h1 h2
  have := k j h1
  rwa [gT_of h1, gT_of h2] at this
def swp (xs : List Th) (i j : Nat) : List Th := (xs.set i (gT xs j)).set j (gT xs i)
theorem swp_len (xs : List Th) (i j : Nat) : (swp xs i j).length = xs.length := by simp [swp]
theorem gT_swp {xs : List Th} {i j : Nat} (hi : i < xs.length) (hj : j < xs.length) (k : Nat) : gT (swp xs i j) k = if k = j then gT xs i else if k = i then gT xs j else gT xs k := by
  unfold swp
  rw [gT_set (by simpa using hj), gT_set hi]
theorem swp_perm {xs : List Th} {i j : Nat} (hi : i < xs.length) (hj : j < xs.length) : (swp xs i j).Perm xs := by
  unfold swp
  rw [gT_of hi, gT_of hj]
  exact List.set_set_perm hi hj

def par (i : Nat) : Nat := (i - 1) / 2
theorem par_lt {i : Nat} (h : 0 < i) : par i < i := by unfold par; omega
def Heap (xs : List Th) : Prop := ∀ j, j < xs.length → 0 < j → (gT xs (par j)).le (gT xs j)
/-- all stands right, but perhaps what stands at a place stands too low -/
def EUp (xs : List Th) (i : Nat) : Prop := (∀ j, j < xs.length → 0 < j → j ≠ i → (gT xs (par j)).le (gT xs j)) ∧ (∀ j, j < xs.length → 0 < i → 0 < j → par j = i → (gT xs (par i)).le (gT xs j))
/-- .. too low or too high -/
def EE (xs : List Th) (i : Nat) : Prop := (∀ j, j < xs.length → 0 < j → j ≠ i → par j ≠ i → (gT xs (par j)).le (gT xs j)) ∧ (∀ j, j < xs.length → 0 < i → 0 < j → par j = i → (gT xs (par i)).le (gT xs j))

theorem EUp.step {xs : List Th} {i : Nat} (h : EUp xs i) (hi : i < xs.length) (h0 : 0 < i) (hlt : (gT xs i).lt (gT xs (par i))) : EUp (swp xs i (par i)) (par i) := by
  have hp := par_lt h0
  have hpl : par i < xs.length := by omega
  refine ⟨fun j hj hj0 hne => ?_, fun j hj hp0 hj0 hpj => ?_⟩
  · rw [swp_len] at hj
    rw [gT_swp hi hpl, gT_swp hi hpl, if_neg hne]
    by_cases hji : j = i
    · subst hji; rw [if_pos rfl, if_pos rfl]; exact Th.lt_le hlt
    · rw [if_neg hji]
      by_cases e1 : par j = par i
      · rw [if_pos e1]; have := h.1 j hj hj0 hji; rw [e1] at this; exact (Th.lt_le hlt).trans this
      · rw [if_neg e1]
        by_cases e2 : par j = i
        · rw [if_pos e2]; exact h.2 j hj h0 hj0 e2
        · rw [if_neg e2]; exact h.1 j hj hj0 hji
  · rw [swp_len] at hj
    have hpp := par_lt hp0
    have hpi := h.1 (par i) hpl hp0 (by omega)
    rw [gT_swp hi hpl, gT_swp hi hpl, if_neg (by omega : ¬ par (par i) = par i), if_neg (by omega : ¬ par (par i) = i)]
    have hjp : ¬ j = par i := by have := par_lt hj0; omega
    rw [if_neg hjp]
    by_cases hji : j = i
    · rw [if_pos hji]; exact hpi
    · rw [if_neg hji]; have := h.1 j hj hj0 hji; rw [hpj] at this; exact hpi.trans this
theorem EUp.done {xs : List Th} {i : Nat} (h : EUp xs i) (hd : i = 0 ∨ ¬ (gT xs i).lt (gT xs (par i))) : Heap xs := by
  intro j hj hj0
  by_cases hji : j = i
  · subst hji
    rcases hd with hd | hd
    · omega
    · exact Th.not_lt hd
  · exact h.1 j hj hj0 hji

/-- the lesser of the things below -/
def low (xs : List Th) (i : Nat) : Nat := if 2 * i + 1 + 1 < xs.length ∧ (gT xs (2 * i + 1 + 1)).lt (gT xs (2 * i + 1)) then 2 * i + 1 + 1 else 2 * i + 1
theorem low_lt {xs : List Th} {i : Nat} (h : 2 * i + 1 < xs.length) : low xs i < xs.length := by unfold low; split <;> omega
theorem low_par (xs : List Th) (i : Nat) : par (low xs i) = i ∧ i < low xs i := by unfold low par; split <;> omega
theorem low_le {xs : List Th} {i j : Nat} (hj : j < xs.length) (h0 : 0 < j) (hp : par j = i) : (gT xs (low xs i)).le (gT xs j) := by
  have hj2 : j = 2 * i + 1 ∨ j = 2 * i + 1 + 1 := by unfold par at hp; omega
  unfold low
  by_cases h : 2 * i + 1 + 1 < xs.length ∧ (gT xs (2 * i + 1 + 1)).lt (gT xs (2 * i + 1))
  · rw [if_pos h]
    rcases hj2 with rfl | rfl
    · exact Th.lt_le h.2
    · exact Th.le_refl _
  · rw [if_neg h]
    rcases hj2 with rfl | rfl
    · exact Th.le_refl _
    · exact Th.not_lt (fun hh => h ⟨hj, hh⟩)
theorem EE.leaf {xs : List Th} {i : Nat} (h : EE xs i) (hl : ¬ 2 * i + 1 < xs.length) : EUp xs i :=
  ⟨fun j hj hj0 hne => h.1 j hj hj0 hne (by unfold par; omega), h.2⟩
theorem EE.stays {xs : List Th} {i : Nat} (h : EE xs i) (hlt : (gT xs i).lt (gT xs (low xs i))) : EUp xs i :=
  ⟨fun j hj hj0 hne => by
    by_cases hp : par j = i
    · rw [hp]; exact (Th.lt_le hlt).trans (low_le hj hj0 hp)
    · exact h.1 j hj hj0 hne hp, h.2⟩
theorem EE.step {xs : List Th} {i : Nat} (h : EE xs i) (hl : 2 * i + 1 < xs.length) : EE (swp xs i (low xs i)) (low xs i) := by
  obtain ⟨hp, hic⟩ := low_par xs i
  have hc := low_lt hl
  have hle := fun j hj h0 hpj => low_le (xs := xs) (i := i) (j := j) hj h0 hpj
  generalize low xs i = c at *
  have hi : i < xs.length := by omega
  refine ⟨fun j hj hj0 hne hpj => ?_, fun j hj hc0 hj0 hpj => ?_⟩
  · rw [swp_len] at hj
    rw [gT_swp hi hc, gT_swp hi hc, if_neg hne, if_neg hpj]
    by_cases hji : j = i
    · subst hji
      rw [if_pos rfl]
      have hpl := par_lt hj0
      rw [if_neg (by omega)]
      exact h.2 c hc hj0 (by omega) hp
    · rw [if_neg hji]
      by_cases e : par j = i
      · rw [if_pos e]; exact hle j hj hj0 e
      · rw [if_neg e]; exact h.1 j hj hj0 hji e
  · rw [swp_len] at hj
    have hjc := par_lt hj0
    rw [hp, gT_swp hi hc, gT_swp hi hc, if_neg (by omega : ¬ i = c), if_pos rfl, if_neg (by omega : ¬ j = c), if_neg (by omega : ¬ j = i)]
    have := h.1 j hj hj0 (by omega) (by omega)
    rw [hpj] at this
    exact this
/-- the first is the least -/
theorem Heap.least {xs : List Th} (h : Heap xs) : ∀ j, j < xs.length → (gT xs 0).le (gT xs j) := by
  intro j
  induction j using Nat.strongRecOn with
  | _ j ih =>
    intro hj
    by_cases h0 : 0 < j
    · exact (ih (par j) (par_lt h0) (by have := par_lt h0; omega)).trans (h j hj h0)
    · obtain rfl : j = 0 := by omega
      exact Th.le_refl _
theorem EUp.of_heap {xs : List Th} (h : Heap xs) (i : Nat) (hi : i < xs.length) : EUp xs i :=
  ⟨fun j hj hj0 _ => h j hj hj0, fun j hj hi0 hj0 hp => (h i hi hi0).trans (by have := h j hj hj0; rwa [hp] at this)⟩
/-- another thing at a place -/
theorem EE.of_set {xs : List Th} (h : Heap xs) {i : Nat} (y : Th) (hi : i < xs.length) : EE (xs.set i y) i := by
  refine ⟨fun j hj hj0 hne hp => ?_, fun j hj hi0 hj0 hp => ?_⟩
  · rw [List.length_set] at hj
    rw [gT_set hi, gT_set hi, if_neg hne, if_neg hp]
    exact h j hj hj0
  · rw [List.length_set] at hj
    have := par_lt hi0
    have := par_lt hj0
    rw [gT_set hi, gT_set hi, if_neg (by omega : ¬ j = i), if_neg (by omega : ¬ par i = i)]
    exact (h i hi hi0).trans (by have := h j hj hj0; rwa [hp] at this)
theorem gT_take {xs : List Th} {n j : Nat} (h : j < n) : gT (xs.take n) j = gT xs j := by
  unfold gT
  rw [List.getD_eq_getElem?_getD, List.getD_eq_getElem?_getD, List.getElem?_take, if_pos h]
theorem Heap.take {xs : List Th} (h : Heap xs) (n : Nat) : Heap (xs.take n) := by
  intro j hj hj0
  rw [List.length_take] at hj
  have := par_lt hj0
  rw [gT_take (by omega), gT_take (by omega)]
  exact h j (by omega) hj0
theorem Heap.snoc {xs : List Th} (h : Heap xs) (y : Th) : EUp (xs ++ [y]) xs.length := by
  have ha : ∀ j, j < xs.length → gT (xs ++ [y]) j = gT xs j := fun j hj => by
    unfold gT
    rw [List.getD_eq_getElem?_getD, List.getD_eq_getElem?_getD, List.getElem?_append_left hj]
  refine ⟨fun j hj hj0 hne => ?_, fun j hj hi0 hj0 hp => ?_⟩
  · simp at hj
    have := par_lt hj0
    rw [ha j (by omega), ha (par j) (by omega)]
    exact h j (by omega) hj0
  · simp at hj
    have := par_lt hj0
    omega
/-- one is taken away, the last one comes in its place -/
theorem drop_perm {xs : List Th} {i : Nat} (hi : i < xs.length) : (gT xs i :: (xs.set i (gT xs (xs.length - 1))).take (xs.length - 1)).Perm xs := by
  obtain ⟨ys, y, rfl⟩ : ∃ ys y, xs = ys ++ [y] := ⟨xs.dropLast, xs.getLast (by intro h; subst h; simp at hi), (List.dropLast_concat_getLast _).symm⟩
  have hl : (ys ++ [y]).length - 1 = ys.length := by simp
  rw [hl]
  have hy : gT (ys ++ [y]) ys.length = y := by simp [gT]
  rw [hy]
  by_cases h : i < ys.length
  · have e : gT (ys ++ [y]) i = ys[i] := by rw [gT_of hi]; simp [List.getElem_append_left, h]
    rw [e, List.set_append_left _ _ h, List.take_append_of_le_length (by simp), List.take_of_length_le (by simp)]
    have h1 : ys = ys.take i ++ ys[i] :: ys.drop (i + 1) := by simp
    have h2 : ys.set i y = ys.take i ++ y :: ys.drop (i + 1) := by rw [List.set_eq_take_append_cons_drop, if_pos h]
    rw [h2]
    generalize ys[i] = x at *
    generalize ys.take i = p at *
    generalize ys.drop (i + 1) = q at *
    subst h1
    refine (List.Perm.cons x List.perm_middle).trans ?_
    refine (List.Perm.swap y x (p ++ q)).trans ?_
    refine (List.Perm.cons y List.perm_middle.symm).trans ?_
    exact (List.perm_append_comm (l₁ := [y]))
  · obtain rfl : i = ys.length := by simp at hi; omega
    rw [hy, List.set_append_right _ _ (Nat.le_refl _), List.take_append_of_le_length (Nat.le_refl _), List.take_length]
    exact (List.perm_append_comm (l₁ := [y]))

/-! ### the map of places -/
/-- each number's place -/
structure Pos (m : Int → Option Value) (xs : List Th) : Prop where
  is : ∀ j, j < xs.length → m ((gT xs j).num : Int) = some (.int .i64 (j : Int))
  no : ∀ k, (∀ j, j < xs.length → ((gT xs j).num : Int) ≠ k) → m k = none
def upd (m : Int → Option Value) (k : Int) (v : Value) : Int → Option Value := fun k' => if k' = k then some v else m k'
/-- the numbers are unlike -/
def Apart (xs : List Th) : Prop := (xs.map (·.num)).Nodup
theorem Apart.ne {xs : List Th} (h : Apart xs) {i j : Nat} (hi : i < xs.length) (hj : j < xs.length) (hne : i ≠ j) : (gT xs i).num ≠ (gT xs j).num := by
  unfold Apart List.Nodup at h
  rw [List.pairwise_map, List.pairwise_iff_getElem] at h
  rw [gT_of hi, gT_of hj]
  rcases Nat.lt_or_gt_of_ne hne with hlt | hlt
  · exact h i j hi hj hlt
  · exact fun e => h j i hj hi hlt e.symm
theorem Apart.perm {xs ys : List Th} (h : Apart xs) (p : ys.Perm xs) : Apart ys := (p.map _).nodup_iff.2 h
/-- a list that is being turned: zs is what it will be, ys what it is: all but what stands at i -/
structure Vir (xs0 zs ys : List Th) (m : Int → Option Value) (i : Nat) (x : Th) : Prop where
  perm : zs.Perm xs0
  len : ys.length = zs.length
  at_ : gT zs i = x
  lt : i < zs.length
  ys : ∀ j, j < zs.length → j ≠ i → gT ys j = gT zs j
  pos : ∀ j, j < zs.length → j ≠ i → m ((gT zs j).num : Int) = some (.int .i64 (j : Int))
  no : ∀ k, (∀ j, j < zs.length → ((gT zs j).num : Int) ≠ k) → m k = none
  apart : Apart zs
theorem Vir.start {xs : List Th} {m : Int → Option Value} {i : Nat} (hp : Pos m xs) (ha : Apart xs) (hi : i < xs.length) : Vir xs xs xs m i (gT xs i) :=
  ⟨.refl _, rfl, rfl, hi, fun _ _ _ => rfl, fun j hj _ => hp.is j hj, hp.no, ha⟩
theorem Vir.step {xs0 zs ys : List Th} {m : Int → Option Value} {i p : Nat} {x : Th} (h : Vir xs0 zs ys m i x) (hp : p < zs.length) (hne : p ≠ i) :
    Vir xs0 (swp zs i p) (ys.set i (gT ys p)) (upd m ((gT ys p).num : Int) (.int .i64 (i : Int))) p x := by
  have hpe := h.ys p hp hne
  have hil := h.lt
  refine ⟨(swp_perm h.lt hp).trans h.perm, by rw [List.length_set, swp_len, h.len], ?_, by rw [swp_len]; exact hp, ?_, ?_, ?_, h.apart.perm (swp_perm h.lt hp)⟩
  · rw [gT_swp h.lt hp, if_pos rfl]; exact h.at_
  · intro j hj hjp
    rw [swp_len] at hj
    rw [gT_set (by rw [h.len]; exact h.lt), gT_swp h.lt hp, if_neg hjp]
    by_cases e : j = i
    · rw [if_pos e, if_pos e, hpe]
    · rw [if_neg e, if_neg e]; exact h.ys j hj e
  · intro j hj hjp
    rw [swp_len] at hj
    rw [gT_swp h.lt hp, if_neg hjp, hpe]
    unfold upd
    by_cases e : j = i
    · rw [if_pos e, if_pos rfl, e]
    · rw [if_neg e]
      have := h.apart.ne hj hp hjp
      rw [if_neg (by omega)]
      exact h.pos j hj e
  · intro k hk
    have hall : ∀ j, j < zs.length → ((gT zs j).num : Int) ≠ k := by
      intro j hj
      by_cases e1 : j = p
      · have := hk i (by rw [swp_len]; exact h.lt)
        rw [gT_swp h.lt hp, if_neg (fun e => hne e.symm), if_pos rfl] at this
        rw [e1]; exact this
      · by_cases e2 : j = i
        · have := hk p (by rw [swp_len]; exact hp)
          rw [gT_swp h.lt hp, if_pos rfl] at this
          rw [e2]; exact this
        · have := hk j (by rw [swp_len]; exact hj)
          rw [gT_swp h.lt hp, if_neg e1, if_neg e2] at this
          exact this
    unfold upd
    rw [if_neg (by rw [hpe]; exact fun e => hall p hp e.symm)]
    exact h.no k hall
theorem Vir.done {xs0 zs ys : List Th} {m : Int → Option Value} {i : Nat} {x : Th} (h : Vir xs0 zs ys m i x) : ys.set i x = zs ∧ Pos (upd m (x.num : Int) (.int .i64 (i : Int))) zs := by
  have hlt := h.lt
  refine ⟨gT_ext (by rw [List.length_set, h.len]) ?_, ⟨?_, ?_⟩⟩
  · intro j hj
    rw [List.length_set, h.len] at hj
    rw [gT_set (by rw [h.len]; exact h.lt)]
    by_cases e : j = i
    · rw [if_pos e, e, h.at_]
    · rw [if_neg e]; exact h.ys j hj e
  · intro j hj
    unfold upd
    by_cases e : j = i
    · rw [e, h.at_, if_pos rfl]
    · have := h.apart.ne hj h.lt e
      rw [h.at_] at this
      rw [if_neg (by omega)]
      exact h.pos j hj e
  · intro k hk
    unfold upd
    have := hk i h.lt
    rw [h.at_] at this
    rw [if_neg (fun e => this e.symm)]
    exact h.no k hk
theorem gT_snoc_lt {xs : List Th} {t : Th} {j : Nat} (h : j < xs.length) : gT (xs ++ [t]) j = gT xs j := by
  unfold gT
  rw [List.getD_eq_getElem?_getD, List.getD_eq_getElem?_getD, List.getElem?_append_left h]
theorem gT_snoc (xs : List Th) (t : Th) : gT (xs ++ [t]) xs.length = t := by simp [gT]
theorem mem_gT {xs : List Th} {j : Nat} (h : j < xs.length) : gT xs j ∈ xs := by rw [gT_of h]; exact List.getElem_mem h
theorem Vir.snoc {xs : List Th} {m : Int → Option Value} (hp : Pos m xs) (ha : Apart xs) (t : Th) (ht : ∀ y ∈ xs, y.num ≠ t.num) : Vir (xs ++ [t]) (xs ++ [t]) (xs ++ [t]) m xs.length (gT (xs ++ [t]) xs.length) where
  perm := .refl _
  len := rfl
  at_ := rfl
  lt := by simp
  ys := fun _ _ _ => rfl
  pos := fun j hj hne => by
    simp at hj
    rw [gT_snoc_lt (by omega)]
    exact hp.is j (by omega)
  no := fun k hk => hp.no k fun j hj => by
    have := hk j (by simp; omega)
    rwa [gT_snoc_lt hj] at this
  apart := by
    unfold Apart at ha ⊢
    rw [List.map_append, List.nodup_append]
    refine ⟨ha, by simp, ?_⟩
    intro a h1 b h2
    simp at h2
    subst h2
    obtain ⟨y, hy, rfl⟩ := List.mem_map.1 h1
    exact ht y hy
theorem EE.take {xs : List Th} {i n : Nat} (h : EE xs i) (hi : i < n) : EE (xs.take n) i := by
  refine ⟨fun j hj hj0 hne hp => ?_, fun j hj hi0 hj0 hp => ?_⟩
  · rw [List.length_take] at hj
    have := par_lt hj0
    rw [gT_take (by omega), gT_take (by omega)]
    exact h.1 j (by omega) hj0 hne hp
  · rw [List.length_take] at hj
    have := par_lt hi0
    rw [gT_take (by omega), gT_take (by omega)]
    exact h.2 j (by omega) hi0 hj0 hp
/-- the map of places without the one that goes -/
def wipe (m : Int → Option Value) (k : Int) : Int → Option Value := fun k' => if k' = k then none else m k'
theorem Pos.last {xs : List Th} {m : Int → Option Value} (h : Pos m xs) (ha : Apart xs) (hn : 0 < xs.length) : Pos (wipe m ((gT xs (xs.length - 1)).num : Int)) (xs.take (xs.length - 1)) := by
  refine ⟨fun j hj => ?_, fun k hk => ?_⟩
  · rw [List.length_take] at hj
    rw [gT_take (by omega)]
    have := ha.ne (i := j) (j := xs.length - 1) (by omega) (by omega) (by omega)
    unfold wipe
    rw [if_neg (by omega)]
    exact h.is j (by omega)
  · unfold wipe
    by_cases e : k = ((gT xs (xs.length - 1)).num : Int)
    · rw [if_pos e]
    · rw [if_neg e]
      refine h.no k fun j hj => ?_
      by_cases hl : j = xs.length - 1
      · rw [hl]; exact fun e' => e e'.symm
      · have := hk j (by rw [List.length_take]; omega)
        rwa [gT_take (by omega)] at this
theorem Pos.moved {xs : List Th} {m : Int → Option Value} {i : Nat} (h : Pos m xs) (ha : Apart xs) (hi : i < xs.length - 1) :
    Pos (upd (wipe m ((gT xs i).num : Int)) ((gT xs (xs.length - 1)).num : Int) (.int .i64 (i : Int))) ((xs.take (xs.length - 1)).set i (gT xs (xs.length - 1))) := by
  have hl : i < (xs.take (xs.length - 1)).length := by rw [List.length_take]; omega
  refine ⟨fun j hj => ?_, fun k hk => ?_⟩
  · rw [List.length_set, List.length_take] at hj
    rw [gT_set hl]
    unfold upd wipe
    by_cases e : j = i
    · rw [if_pos e, if_pos rfl, e]
    · have h1 := ha.ne (i := j) (j := xs.length - 1) (by omega) (by omega) (by omega)
      have h2 := ha.ne (i := j) (j := i) (by omega) (by omega) e
      rw [if_neg e, gT_take (by omega), if_neg (by omega), if_neg (by omega)]
      exact h.is j (by omega)
  · have h1 := hk i (by rw [List.length_set]; exact hl)
    rw [gT_set hl, if_pos rfl] at h1
    unfold upd wipe
    rw [if_neg (fun e => h1 e.symm)]
    by_cases e : k = ((gT xs i).num : Int)
    · rw [if_pos e]
    · rw [if_neg e]
      refine h.no k fun j hj => ?_
      by_cases hl2 : j = xs.length - 1
      · rw [hl2]; exact h1
      · by_cases hji : j = i
        · rw [hji]; exact fun e' => e e'.symm
        · have := hk j (by rw [List.length_set, List.length_take]; omega)
          rwa [gT_set hl, if_neg hji, gT_take (by omega)] at this
theorem Pos.rekey {xs : List Th} {m : Int → Option Value} {i : Nat} (h : Pos m xs) (hi : i < xs.length) (t : Th) (ht : t.num = (gT xs i).num) : Pos m (xs.set i t) := by
  have hs : ∀ j, (gT (xs.set i t) j).num = (gT xs j).num := fun j => by
    rw [gT_set hi]
    by_cases e : j = i
    · rw [if_pos e, e, ht]
    · rw [if_neg e]
  exact ⟨fun j hj => by rw [hs]; exact h.is j (by simpa using hj), fun k hk => h.no k fun j hj => by have := hk j (by simpa using hj); rwa [hs] at this⟩
theorem Apart.rekey {xs : List Th} {i : Nat} (h : Apart xs) (hi : i < xs.length) (t : Th) (ht : t.num = (gT xs i).num) : Apart (xs.set i t) := by
  unfold Apart at h ⊢
  have : (xs.set i t).map (·.num) = xs.map (·.num) := by
    rw [List.map_set]
    apply List.ext_getElem?
    intro j
    rw [List.getElem?_set]
    by_cases e : i = j
    · subst e
      rw [if_pos rfl, if_pos (by simpa using hi), List.getElem?_map, List.getElem?_eq_getElem hi, ht, gT_of hi]
      rfl
    · rw [if_neg e]
  rw [this]
  exact h
theorem Apart.tail {x : Th} {xs ys : List Th} (h : Apart ys) (p : (x :: xs).Perm ys) : Apart xs := by
  have := h.perm p
  unfold Apart at this ⊢
  rw [List.map_cons, List.nodup_cons] at this
  exact this.2
/-- where a number stands -/
theorem Pos.find {xs : List Th} {m : Int → Option Value} (h : Pos m xs) (k : Int) : (m k = none ∧ ∀ t ∈ xs, (t.num : Int) ≠ k) ∨ ∃ j, j < xs.length ∧ ((gT xs j).num : Int) = k ∧ m k = some (.int .i64 (j : Int)) := by
  by_cases he : ∃ j, j < xs.length ∧ ((gT xs j).num : Int) = k
  · obtain ⟨j, hj, e⟩ := he
    exact .inr ⟨j, hj, e, by rw [← e]; exact h.is j hj⟩
  · refine .inl ⟨h.no k fun j hj e => he ⟨j, hj, e⟩, fun t ht e => ?_⟩
    obtain ⟨j, hj, rfl⟩ := List.mem_iff_getElem.1 ht
    exact he ⟨j, hj, by rw [gT_of hj]; exact e⟩
end Go.Proofs.Yteondokncalbnaa
