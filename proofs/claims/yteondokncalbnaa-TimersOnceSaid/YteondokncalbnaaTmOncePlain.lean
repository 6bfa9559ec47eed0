/- TimersOnce: what the loops keep, in plain Lean. -/
import Derived.Test.YteondokncalbnaaTmAwake
namespace Go.Proofs.Yteondokncalbnaa
open Go.RowKit

def bl (ts : Nat → Bool) (n : Nat) : List Value := (List.range n).map fun j => Value.bool (ts j)
def ups (ts : Nat → Bool) (i : Nat) : Nat → Bool := fun j => if j = i then true else ts j
theorem bl_len (ts : Nat → Bool) (n : Nat) : (bl ts n).length = n := by simp [bl]
theorem bl_at (ts : Nat → Bool) {n i : Nat} (h : i < n) : (bl ts n)[i]? = some (.bool (ts i)) := by simp [bl, h]
theorem bl_set (ts : Nat → Bool) (n i : Nat) : (bl ts n).set i (.bool true) = bl (ups ts i) n := by
  apply List.ext_getElem?
  intro j
  rw [List.getElem?_set]
  by_cases hj : j < n
  · rw [bl_at _ hj, bl_len]
    by_cases hi : i = j
    · subst hi; rw [if_pos rfl, if_pos hj, bl_at _ hj]; simp [ups]
    · rw [if_neg hi, bl_at _ hj]; simp [ups, Ne.symm hi]
  · rw [List.getElem?_eq_none (by rw [bl_len]; omega), List.getElem?_eq_none (l := bl (ups ts i) n) (by rw [bl_len]; omega), bl_len]
    by_cases hi : i = j
    · subst hi; simp [hj]
    · rw [if_neg hi]
theorem made_bl (n : Nat) : madeCells #[Value.bool false] n = (bl (fun _ => false) n).toArray := by
  apply Array.toList_inj.1
  rw [toList_madeCells_one]
  rw [show (bl (fun _ => false) n).toArray.toList = bl (fun _ => false) n from rfl]
  unfold bl
  rw [List.map_const', List.length_range]
theorem info_bool : (Try.prog.info? 4).map (fun i => (i.zero, i.size, i.bytes)) = some (some (.bool false), 1, 1) := by kernel_rfl

/-- behind i of the times -/
structure T7 (z g : Nat → Int) (n i : Nat) (xs : List Th) (ts : Nat → Bool) : Prop where
  sub : ∀ t ∈ xs, t.num < n ∧ t = tim z t.num
  on : ∀ j, j < n → (ts j = false ↔ ∃ t ∈ xs, t.num = j)
  late : ∀ j, j < n → (ts j = true ↔ ∃ k, k < i ∧ z j ≤ g k)
theorem T7.start {z g : Nat → Int} {n : Nat} {xs : List Th} (h : xs.Perm (tims z n)) : T7 z g n 0 xs (fun _ => false) where
  sub t ht := mem_tims.1 (h.mem_iff.1 ht)
  on j hj := ⟨fun _ => ⟨tim z j, h.mem_iff.2 (mem_tims.2 ⟨hj, rfl⟩), rfl⟩, fun _ => rfl⟩
  late j hj := ⟨(fun h => by cases h), fun ⟨k, hk, _⟩ => absurd hk (Nat.not_lt_zero _)⟩
/-- within the timers that came due -/
def T8 (ls : List Th) (ts0 ts : Nat → Bool) (k : Nat) : Prop := ∀ j, ts j = true ↔ ts0 j = true ∨ ∃ t ∈ ls.take k, t.num = j
theorem T8.start (ls : List Th) (ts : Nat → Bool) : T8 ls ts ts 0 := fun j => ⟨.inl, fun h => h.elim id fun ⟨t, ht, _⟩ => by simp at ht⟩
theorem T8.step {ls : List Th} {ts0 ts : Nat → Bool} {k : Nat} (h : T8 ls ts0 ts k) (hk : k < ls.length) : T8 ls ts0 (ups ts ls[k].num) (k + 1) := fun j => by
  unfold ups
  rw [List.take_succ_eq_append_getElem hk]
  by_cases e : j = ls[k].num
  · rw [if_pos e]
    exact ⟨fun _ => .inr ⟨ls[k], List.mem_append_right _ List.mem_cons_self, e.symm⟩, fun _ => rfl⟩
  · rw [if_neg e, h j]
    refine or_congr Iff.rfl ⟨fun ⟨t, ht, hn⟩ => ⟨t, List.mem_append_left _ ht, hn⟩, fun ⟨t, ht, hn⟩ => ?_⟩
    rcases List.mem_append.1 ht with ht | ht
    · exact ⟨t, ht, hn⟩
    · simp at ht; subst ht; exact absurd hn.symm e
theorem apart_of {now : Int} {xs0 ls xs : List Th} (ha : Apart xs0) (h : DueP now xs0 ls xs) : Apart (ls ++ xs) := ha.perm h.perm
theorem T8.fresh {z g : Nat → Int} {n i : Nat} {xs0 ls xs : List Th} {ts0 ts : Nat → Bool} {k : Nat} {now : Int} (h7 : T7 z g n i xs0 ts0) (hd : DueP now xs0 ls xs) (ha : Apart xs0) (h : T8 ls ts0 ts k) (hk : k < ls.length) :
    ls[k].num < n ∧ ls[k] = tim z ls[k].num ∧ z ls[k].num ≤ now ∧ ts ls[k].num = false := by
  have hm : ls[k] ∈ ls := List.getElem_mem hk
  have hm0 : ls[k] ∈ xs0 := hd.perm.mem_iff.1 (List.mem_append_left _ hm)
  obtain ⟨h1, h2⟩ := h7.sub _ hm0
  have hkey : ls[k].key = z ls[k].num := by
    have := congrArg Th.key h2
    exact this
  refine ⟨h1, h2, by rw [← hkey]; exact hd.due _ hm, ?_⟩
  cases hts : ts ls[k].num with
  | false => rfl
  | true =>
    exfalso
    rcases (h _).1 hts with h3 | ⟨t, ht, hn⟩
    · have := (h7.on _ h1).2 ⟨_, hm0, rfl⟩
      rw [h3] at this
      cases this
    · obtain ⟨q, hq, rfl⟩ := List.mem_iff_getElem.1 ht
      have hq1 : q < k := by simp at hq; omega
      rw [List.getElem_take] at hn
      have hd2 := apart_of ha hd
      unfold Apart at hd2
      rw [List.map_append, List.nodup_append] at hd2
      have hnd := hd2.1
      unfold List.Nodup at hnd
      rw [List.pairwise_map, List.pairwise_iff_getElem] at hnd
      exact hnd q k (by omega) hk hq1 hn
theorem DueP.prev {now : Int} {xs0 ls xs : List Th} (h : DueP now xs0 ls xs) {k : Nat} (hk : k + 1 < ls.length) : ls[k].key < ls[k + 1].key ∨ ls[k].key = ls[k + 1].key ∧ ls[k].num ≤ ls[k + 1].num := by
  have := (List.pairwise_iff_getElem.1 h.srt) k (k + 1) (by omega) hk (by omega)
  unfold Th.le at this
  omega
theorem T8.done {z g : Nat → Int} {n i : Nat} {xs0 ls xs : List Th} {ts0 ts : Nat → Bool} (h7 : T7 z g n i xs0 ts0) (hd : DueP (g i) xs0 ls xs) (ha : Apart xs0) (hl : ∀ b ∈ xs, g i < b.key) (h : T8 ls ts0 ts ls.length) :
    T7 z g n (i + 1) xs ts := by
  have h8 : ∀ j, ts j = true ↔ ts0 j = true ∨ ∃ t ∈ ls, t.num = j := fun j => by have := h j; rwa [List.take_of_length_le (Nat.le_refl _)] at this
  have hd2 := apart_of ha hd
  have hno : ∀ a ∈ ls, ∀ b ∈ xs, a.num ≠ b.num := fun a h1 b h2 => by
    unfold Apart at hd2
    rw [List.map_append, List.nodup_append] at hd2
    exact hd2.2.2 _ (List.mem_map.2 ⟨a, h1, rfl⟩) _ (List.mem_map.2 ⟨b, h2, rfl⟩)
  have hx0 : ∀ b ∈ xs, b ∈ xs0 := fun b hb => hd.perm.mem_iff.1 (List.mem_append_right _ hb)
  have hl0 : ∀ b ∈ ls, b ∈ xs0 := fun b hb => hd.perm.mem_iff.1 (List.mem_append_left _ hb)
  have hkey : ∀ b ∈ xs0, b.key = z b.num := fun b hb => congrArg Th.key (h7.sub b hb).2
  refine ⟨fun t ht => h7.sub t (hx0 t ht), fun j hj => ⟨fun hf => ?_, fun ⟨t, ht, hn⟩ => ?_⟩, fun j hj => ⟨fun ht => ?_, fun ⟨k, hk, hz⟩ => ?_⟩⟩
  · have hf0 : ts0 j = false := by
      cases h0 : ts0 j with
      | false => rfl
      | true => have := (h8 j).2 (.inl h0); rw [hf] at this; cases this
    obtain ⟨t, ht, hn⟩ := (h7.on j hj).1 hf0
    rcases List.mem_append.1 (hd.perm.mem_iff.2 ht) with ht | ht
    · have := (h8 j).2 (.inr ⟨t, ht, hn⟩); rw [hf] at this; cases this
    · exact ⟨t, ht, hn⟩
  · cases hts : ts j with
    | false => rfl
    | true =>
      exfalso
      rcases (h8 j).1 hts with h0 | ⟨a, h1, h2⟩
      · have := (h7.on j hj).2 ⟨t, hx0 t ht, hn⟩; rw [h0] at this; cases this
      · exact hno a h1 t ht (h2.trans hn.symm)
  · rcases (h8 j).1 ht with h0 | ⟨a, h1, h2⟩
    · obtain ⟨k, hk, hz⟩ := (h7.late j hj).1 h0
      exact ⟨k, by omega, hz⟩
    · exact ⟨i, by omega, by have := hd.due a h1; rw [hkey a (hl0 a h1), h2] at this; exact this⟩
  · by_cases e : k = i
    · subst e
      cases h0 : ts0 j with
      | true => exact (h8 j).2 (.inl h0)
      | false =>
        obtain ⟨t, ht, hn⟩ := (h7.on j hj).1 h0
        rcases List.mem_append.1 (hd.perm.mem_iff.2 ht) with h1 | h1
        · exact (h8 j).2 (.inr ⟨t, h1, hn⟩)
        · have := hl t h1
          rw [hkey t ht, hn] at this
          omega
    · exact (h8 j).2 (.inl ((h7.late j hj).2 ⟨k, by omega, hz⟩))

/-! ### memory -/
structure TW (w wr : World) (t p : Nat) (v : Value) (M A : Nat) (xs : List Th) (n tb : Nat) (ts : Nat → Bool) : Prop where
  tab : TabS wr t p v M A xs n
  row : Blk wr tb 4 (bl ts n)
  lo : ∀ i, TSet t p v M A i → w.heap.size ≤ i ∧ i ≠ tb
  tb : w.heap.size ≤ tb
  bel : Below w.heap.size w wr
theorem TW.make {w w1 w2 : World} {t p : Nat} {v : Value} {M A : Nat} {xs : List Th} {n : Nat} (hb : Below w.heap.size w w1) (hs : TabS w2 t p v M A xs n) (hl : ∀ i, TSet t p v M A i → w1.heap.size ≤ i) (hb2 : Below w1.heap.size w1 w2) :
    TW w (w2.alloc (.cells (madeCells #[.bool false] n) 4)) t p v M A xs n w2.heap.size (fun _ => false) :=
  ⟨hs.bel (Below.new _ _), by rw [made_bl]; exact Blk.new _ _ _, fun i hi => ⟨Nat.le_trans hb.size (hl i hi), fun e => by have := hs.lts i hi; omega⟩, Nat.le_trans hb.size hb2.size,
    (hb.trans (hb2.mono hb.size)).alloc (Nat.le_trans hb.size hb2.size) _⟩
theorem TW.bel' {w wr w' : World} {t p : Nat} {v : Value} {M A : Nat} {xs : List Th} {n tb : Nat} {ts : Nat → Bool} (h : TW w wr t p v M A xs n tb ts) (hb : Below wr.heap.size wr w') : TW w w' t p v M A xs n tb ts :=
  ⟨h.tab.bel hb, h.row.bel hb, h.lo, h.tb, h.bel.trans (hb.mono h.bel.size)⟩
theorem TW.due {w wr w' : World} {t p : Nat} {v v' : Value} {M A : Nat} {xs zs : List Th} {n tb : Nat} {ts : Nat → Bool} (h : TW w wr t p v M A xs n tb ts) (hs : TabS w' t p v' M A zs n) (ho : v'.ownBlock = v.ownBlock) (ht : Turns (TSet t p v M A) wr w') :
    TW w w' t p v' M A zs n tb ts :=
  ⟨hs, h.row.turns ht (fun e => (h.lo _ e).2 rfl), fun i hi => h.lo i (hi.imp id (Or.imp id fun hs => (HS.own ho).1 hs)), h.tb, h.bel.trans (ht.below h.bel.size fun i _ hs => (h.lo i hs).1)⟩
theorem TW.mark {w wr : World} {t p : Nat} {v : Value} {M A : Nat} {xs : List Th} {n tb : Nat} {ts : Nat → Bool} (h : TW w wr t p v M A xs n tb ts) (j : Nat) :
    TW w (wr.setCell ⟨tb, j, none⟩ (.bool true)) t p v M A xs n tb (ups ts j) :=
  ⟨h.tab.keep (Turns.of_set (S := fun i => i = tb) wr ⟨tb, j, none⟩ (.bool true) rfl) (fun i hi e => (h.lo i hi).2 e), by have := h.row.set j (.bool true); rwa [bl_set] at this, h.lo, h.tb,
    h.bel.trans ((Turns.of_set (S := fun i => i = tb) wr ⟨tb, j, none⟩ (.bool true) rfl).below h.bel.size (fun i _ e => by have := h.tb; omega))⟩
theorem tim_cells {w : World} {base n g cap : Nat} {ls : List Th} (h : w.ownsRow base 31 3 (.slice (some ⟨g, 0, none⟩) n cap) n (ls.flatMap tmC)) (hn : ls.length = n) {z : Nat → Int} (k : Nat) (hk : k < ls.length) (hx : ls[k] = tim z ls[k].num) :
    w.cell? ⟨g, k * 3, none⟩ = some (.int .i64 (z ls[k].num)) ∧ w.cell? ⟨g, k * 3 + 1, none⟩ = some (.string (ownr ls[k].num)) ∧ w.cell? ⟨g, k * 3 + 2, none⟩ = some (.int .i64 (ls[k].num : Int)) := by
  have hc : tmC ls[k] = [.int .i64 (z ls[k].num), .string (ownr ls[k].num), .int .i64 (ls[k].num : Int)] := by
    conv => lhs; rw [hx]
    rfl
  have hq : ∀ j, j < 3 → w.cell? ⟨g, k * 3 + j, none⟩ = (tmC ls[k])[j]? := fun j hj => by
    rw [h.cellAt _ (by omega), flat_get tmC 3 tmC_len ls k j hj, List.getElem?_eq_getElem hk]
    rfl
  rw [hc] at hq
  have h0 := hq 0 (by omega)
  rw [Nat.add_zero] at h0
  exact ⟨h0, hq 1 (by omega), hq 2 (by omega)⟩
end Go.Proofs.Yteondokncalbnaa
