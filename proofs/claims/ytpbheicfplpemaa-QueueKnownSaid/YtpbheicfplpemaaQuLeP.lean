/- QueueLeases: what its loops keep. -/
import Derived.Test.YtpbheicfplpemaaQuBeat
import Derived.Test.YtpbheicfplpemaaQuOrder
namespace Go.Proofs.Ytpbheicfplpemaa
open Go.RowKit

/-- the j-th task, out -/
def lo (u : Nat → Int) (j : Nat) : Ot := ⟨⟨ltr j, ⟨#[]⟩, 0, 1⟩, (j : Int) + 1, ⟨#[119]⟩, u j⟩
def los (u : Nat → Int) (n : Nat) : List Ot := (List.range n).map (lo u)
def ups (u : Nat → Int) (i : Nat) (x : Int) : Nat → Int := fun j => if j = i then x else u j
def iv (u : Nat → Int) (n : Nat) : List Value := (List.range n).map fun j => Value.int .i64 (u j)
theorem los_len (u : Nat → Int) (n : Nat) : (los u n).length = n := by simp [los]
theorem los_succ (u : Nat → Int) (n : Nat) : los u (n + 1) = los u n ++ [lo u n] := by simp [los, List.range_succ]
theorem mem_los {u : Nat → Int} {n : Nat} {x : Ot} : x ∈ los u n ↔ ∃ j, j < n ∧ x = lo u j := by
  unfold los
  rw [List.mem_map]
  constructor
  · rintro ⟨j, hj, rfl⟩; exact ⟨j, List.mem_range.1 hj, rfl⟩
  · rintro ⟨j, hj, rfl⟩; exact ⟨j, List.mem_range.2 hj, rfl⟩
theorem iv_len (u : Nat → Int) (n : Nat) : (iv u n).length = n := by simp [iv]
theorem iv_succ (u : Nat → Int) (n : Nat) : iv u (n + 1) = iv u n ++ [.int .i64 (u n)] := by simp [iv, List.range_succ]
theorem iv_at (u : Nat → Int) {n i : Nat} (h : i < n) : (iv u n)[i]? = some (.int .i64 (u i)) := by simp [iv, h]
theorem iv_set (u : Nat → Int) (n i : Nat) (x : Int) : (iv u n).set i (.int .i64 x) = iv (ups u i x) n := by
  apply List.ext_getElem?
  intro j
  rw [List.getElem?_set]
  by_cases hj : j < n
  · rw [iv_at _ hj, iv_len]
    by_cases hi : i = j
    · subst hi; rw [if_pos rfl, if_pos hj, iv_at _ hj]; simp [ups]
    · rw [if_neg hi, iv_at _ hj]; simp [ups, Ne.symm hi]
  · rw [List.getElem?_eq_none (by rw [iv_len]; omega), List.getElem?_eq_none (l := iv (ups u i x) n) (by rw [iv_len]; omega), iv_len]
    by_cases hi : i = j
    · subst hi; simp [hj]
    · rw [if_neg hi]
theorem los_ok (u : Nat → Int) (n : Nat) (h : n ≤ 1000) : ∀ x ∈ los u n, OtOk x := fun x hx => by
  obtain ⟨j, hj, rfl⟩ := mem_los.1 hx
  unfold OtOk lo
  simp only
  omega
theorem lo_start (u : Nat → Int) : OutsS (fun _ => none) (los u 0) := ⟨List.Pairwise.nil, fun k x => ⟨fun h => (by cases h), fun h => (by cases h.1)⟩⟩
theorem lo_next {om : Int → Option Ot} {u : Nat → Int} {i : Nat} (h : OutsS om (los u i)) : OutsS (updI om ((i : Int) + 1) (lo u i)) (los u (i + 1)) := by
  rw [los_succ]
  refine ⟨List.pairwise_append.2 ⟨h.ris, List.pairwise_singleton _ _, fun a ha b hb => ?_⟩, fun k x => ?_⟩
  · obtain ⟨j, hj, rfl⟩ := mem_los.1 ha
    simp at hb
    subst hb
    show (j : Int) + 1 < (i : Int) + 1
    omega
  · unfold updI
    rw [List.mem_append, List.mem_singleton]
    by_cases hk : k = (i : Int) + 1
    · rw [if_pos hk]
      constructor
      · intro e; cases e; exact ⟨.inr rfl, hk.symm⟩
      · rintro ⟨h1 | h1, h2⟩
        · obtain ⟨j, hj, rfl⟩ := mem_los.1 h1
          exact absurd h2 (by show ¬ ((j : Int) + 1 = k); omega)
        · rw [h1]
    · rw [if_neg hk, h.mem k x]
      constructor
      · rintro ⟨h1, h2⟩; exact ⟨.inl h1, h2⟩
      · rintro ⟨h1 | h1, h2⟩
        · exact ⟨h1, h2⟩
        · subst h1; exact absurd h2.symm hk
theorem lo_at {om : Int → Option Ot} {u : Nat → Int} {n i : Nat} (h : OutsS om (los u n)) (hi : i < n) : om ((i : Int) + 1) = some (lo u i) :=
  (h.mem _ _).2 ⟨mem_los.2 ⟨i, hi, rfl⟩, rfl⟩
theorem lo_none {om : Int → Option Ot} {u : Nat → Int} {n i : Nat} (h : OutsS om (los u n)) (hi : n ≤ i) : om ((i : Int) + 1) = none := by
  cases e : om ((i : Int) + 1) with
  | none => rfl
  | some x =>
    obtain ⟨h1, h2⟩ := (h.mem _ _).1 e
    obtain ⟨j, hj, rfl⟩ := mem_los.1 h1
    exact absurd h2 (by show ¬ ((j : Int) + 1 = (i : Int) + 1); omega)
theorem lo_beat {om : Int → Option Ot} {u : Nat → Int} {n i : Nat} (h : OutsS om (los u n)) (hi : i < n) (x : Int) : OutsS (updI om ((i : Int) + 1) (lo (ups u i x) i)) (los (ups u i x) n) := by
  have hne : ∀ j, j ≠ i → lo (ups u i x) j = lo u j := fun j hj => by unfold lo ups; rw [if_neg hj]
  refine ⟨?_, fun k y => ?_⟩
  · unfold Ris los
    rw [List.pairwise_map]
    have := h.ris
    unfold Ris los at this
    rw [List.pairwise_map] at this
    exact this
  · unfold updI
    by_cases hk : k = (i : Int) + 1
    · rw [if_pos hk]
      constructor
      · intro e; cases e; exact ⟨mem_los.2 ⟨i, hi, rfl⟩, hk.symm⟩
      · rintro ⟨h1, h2⟩
        obtain ⟨j, hj, rfl⟩ := mem_los.1 h1
        have : j = i := by change (j : Int) + 1 = k at h2; omega
        rw [this]
    · rw [if_neg hk, h.mem k y]
      constructor
      · rintro ⟨h1, h2⟩
        obtain ⟨j, hj, rfl⟩ := mem_los.1 h1
        exact ⟨mem_los.2 ⟨j, hj, (hne j (fun e => hk (by rw [← h2, e]; rfl))).symm⟩, h2⟩
      · rintro ⟨h1, h2⟩
        obtain ⟨j, hj, rfl⟩ := mem_los.1 h1
        have hji : j ≠ i := fun e => hk (by rw [← h2, e]; rfl)
        rw [hne j hji] at h2 ⊢
        exact ⟨mem_los.2 ⟨j, hj, rfl⟩, h2⟩
theorem addI_zero {b : Int} (h1 : 1 ≤ b) (h2 : b ≤ 9223372036854775807) : addI 0 b = b := by
  rw [addI, if_neg (by omega), if_neg (by omega)]; omega
/-- what Expire tells, place by place -/
theorem over_split (u : Nat → Int) (n i : Nat) (now : Int) (hi : i < n) (ho : u i ≤ now) : ((los u n).filter (over now))[((los u i).filter (over now)).length]? = some (lo u i) ∧ ((los u (i + 1)).filter (over now)).length = ((los u i).filter (over now)).length + 1 := by
  have h2 : (los u (i + 1)).filter (over now) = (los u i).filter (over now) ++ [lo u i] := by
    rw [los_succ, List.filter_append]
    congr 1
    simp [over, lo, ho]
  have h4 : (los u n).take (i + 1) = los u (i + 1) := by
    unfold los
    rw [← List.map_take, List.take_range]
    congr 2
    omega
  have h3 : los u n = los u (i + 1) ++ (los u n).drop (i + 1) := by rw [← h4, List.take_append_drop]
  refine ⟨?_, by rw [h2]; simp⟩
  rw [h3, List.filter_append, h2, List.append_assoc, List.getElem?_append_right (Nat.le_refl _)]
  simp
theorem over_skip (u : Nat → Int) (i : Nat) (now : Int) (ho : ¬ u i ≤ now) : (los u (i + 1)).filter (over now) = (los u i).filter (over now) := by
  rw [los_succ, List.filter_append]
  simp [over, lo, ho]
/-- integers that came in -/
structure Ints (w : World) (a : Option Addr) (n : Nat) (z : Nat → Int) : Prop where
  cell : ∀ i, i < n → ∃ x, a = some x ∧ x.block < w.heap.size ∧ w.cell? (x.add i) = some (.int .i64 (z i))
  wf : ∀ i, i < n → -9223372036854775808 ≤ z i ∧ z i ≤ 9223372036854775807
theorem Ints.bel {w w' : World} {a : Option Addr} {n : Nat} {z : Nat → Int} (h : Ints w a n z) (hb : Below w.heap.size w w') : Ints w' a n z :=
  ⟨fun i hi => by
    obtain ⟨x, e, hx, hc⟩ := h.cell i hi
    exact ⟨x, e, Nat.lt_of_lt_of_le hx hb.size, (hb.cell (p := x.add i) (by rw [blk_add]; exact hx)).trans hc⟩, h.wf⟩
def CameI (w : World) (a : Option Addr) (len cap : Nat) (zs : List Int) : Prop :=
  (a = none ∧ len = 0 ∧ cap = 0 ∧ zs = []) ∨
  ∃ x, a = some x ∧ len ≤ cap ∧ cap ≤ maxLen ∧ zs.length = cap ∧ (∀ i, i < zs.length → w.cell? (x.add i) = some (.int .i64 (zs.getD i 0))) ∧ ∀ n ∈ zs, (Lit.int .i64 n).wf = true
theorem ints_of {w : World} {a : Option Addr} {len cap : Nat} {zs : List Int} (h : CameI w a len cap zs) : Ints w a len (fun i => zs.getD i 0) := by
  rcases h with ⟨rfl, rfl, rfl, rfl⟩ | ⟨x, rfl, hl, hm, hz, hc, hw⟩
  · exact ⟨fun i hi => absurd hi (Nat.not_lt_zero _), fun i hi => absurd hi (Nat.not_lt_zero _)⟩
  · refine ⟨fun i hi => ⟨x, rfl, ?_, hc i (by omega)⟩, fun i hi => ?_⟩
    · have := World.block_lt_of_cell? w _ (hc i (by omega)); rwa [blk_add] at this
    · have hiz : i < zs.length := by omega
      have hb := bounds_i64 (hw zs[i] (List.getElem_mem hiz))
      have e1 : zs.getD i 0 = zs[i] := by simp [List.getD, hiz]
      simp only [e1]
      omega
/-- the law's memory: the queue, and the row 'until' -/
structure LM (w wr : World) (q : Nat) (next : Int) (wv : Value) (ts : List Tk) (O T : Nat) (om : Int → Option Ot) (tm : ByteArray → Option Int) (uv : Value) (u : Nat → Int) (n : Nat) : Prop where
  a : OA w wr q 30 0 next wv ts O T om tm
  row : wr.ownsRow w.heap.size 2 1 uv n (iv u n)
  far : ∀ g, uv.ownBlock = some g → ¬ QSet q wv O T g
section
variable {w wr w' : World} {q : Nat} {next next' : Int} {wv wv' : Value} {ts ts' : List Tk} {O T : Nat} {om om' : Int → Option Ot} {tm tm' : ByteArray → Option Int} {uv : Value} {u : Nat → Int} {n : Nat}
theorem LM.move (h : LM w wr q next wv ts O T om tm uv u n) (s : QS w' q 30 0 next' wv' ts' O T om' tm') (nx : NextR wr wv wv') (t : Turns (QSet q wv O T) wr w') : LM w w' q next' wv' ts' O T om' tm' uv u n where
  a := h.a.move s nx t
  row := own_turns h.row t h.far
  far g hg := by
    have hl := (own_lt h.row hg).2
    rintro (e | e | e | e)
    · exact h.far g hg (.inl e)
    · exact h.far g hg (.inr (.inl e))
    · exact h.far g hg (.inr (.inr (.inl e)))
    · rcases nx g e with e | e
      · exact h.far g hg (.inr (.inr (.inr e)))
      · omega
theorem LM.bel (h : LM w wr q next wv ts O T om tm uv u n) (hb : Below wr.heap.size wr w') : LM w w' q next wv ts O T om tm uv u n :=
  ⟨⟨h.a.st.bel hb, h.a.lo, h.a.bel.trans (hb.mono h.a.bel.size)⟩, own_turns h.row (.of_below (S := fun _ => False) hb) (fun _ _ => id), h.far⟩
theorem LM.app {v1 : Value} {x : Int} (h : LM w wr q next wv ts O T om tm uv u n) (hx : x = u n) (hown : w'.ownsRow w.heap.size 2 1 v1 (n + 1) (iv u n ++ [.int .i64 x])) (k : Turns (fun i => uv.ownBlock = some i) wr w') (hat : ∀ g, v1.ownBlock = some g → uv.ownBlock = some g ∨ wr.heap.size ≤ g) : LM w w' q next wv ts O T om tm v1 u (n + 1) where
  a := ⟨h.a.st.keep k (fun i hi e => h.far i e hi), h.a.lo, h.a.bel.trans (k.below h.a.bel.size fun i _ e => (own_lt h.row e).1)⟩
  row := by rw [iv_succ, ← hx]; exact hown
  far g hg := by
    rcases hat g hg with e | e
    · exact h.far g e
    · intro hq; have := h.a.st.lts g hq; omega
theorem LM.store {g cap i : Nat} {x : Int} (h : LM w wr q next wv ts O T om tm (.slice (some ⟨g, 0, none⟩) n cap) u n) : LM w (wr.setCell ⟨g, i, none⟩ (.int .i64 x)) q next wv ts O T om tm (.slice (some ⟨g, 0, none⟩) n cap) (ups u i x) n where
  a := ⟨h.a.st.keep (Turns.of_set (S := fun j => j = g) wr ⟨g, i, none⟩ _ rfl) (fun j hj e => h.far g rfl (e ▸ hj)), h.a.lo, h.a.bel.trans ((Turns.of_set (S := fun j => j = g) wr ⟨g, i, none⟩ (.int .i64 x) rfl).below h.a.bel.size fun j _ e => by have := (own_lt h.row (g := g) rfl).1; omega)⟩
  row := by rw [← iv_set]; exact (h.row.stored i (.int .i64 x)).1
  far := h.far
end
theorem outEq (k : ByteArray) (n m : Int) (w : World) : (Op.equalIn 10000 42 (.agg #[.string k, .int .i64 n, .int .i64 m]) (.agg #[.string k, .int .i64 n, .int .i64 m])).run Try.prog w = .ok true w := by
  rw [run_equalIn_struct w 9999 _ _ _ (by kernel_rfl) (by kernel_rfl)]
  simp [Program.fieldsOf, Try.underlying42, Op.eqFields, go_sem]
end Go.Proofs.Ytpbheicfplpemaa
