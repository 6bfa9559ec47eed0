/- QueueOrder: tasks are handed out in their order. -/
import Derived.Test.YtpbheicfplpemaaQuTwin
import Derived.Deep.OwnRows
import Derived.Deep.LoopGhost
namespace Go.Proofs.Ytpbheicfplpemaa
open Go.RowKit

def names52 : ByteArray := ⟨#[97, 98, 99, 100, 101, 102, 103, 104, 105, 106, 107, 108, 109, 110, 111, 112, 113, 114, 115, 116, 117, 118, 119, 120, 121, 122, 65, 66, 67, 68, 69, 70, 71, 72, 73, 74, 75, 76, 77, 78, 79, 80, 81, 82, 83, 84, 85, 86, 87, 88, 89, 90]⟩
/-- the i-th letter -/
def ltr (i : Nat) : ByteArray := names52.extract i (i + 1)
theorem ltr_inj : ∀ i, i < 40 → ∀ j, j < 40 → ltr i = ltr j → i = j := by decide +kernel
theorem ltr_size : ∀ i, i < 40 → (ltr i).size = 1 := by decide +kernel
theorem names_size : names52.size = 52 := rfl
/-- the bytes of the tasks' keys -/
def cat : List Tk → ByteArray
  | [] => ⟨#[]⟩
  | t :: ts => t.key ++ cat ts
theorem cat_nil_l (b : ByteArray) : (⟨#[]⟩ : ByteArray) ++ b = b := ByteArray.empty_append
theorem cat_nil_r (b : ByteArray) : b ++ (⟨#[]⟩ : ByteArray) = b := ByteArray.append_empty
theorem cat_append : ∀ a b : List Tk, cat (a ++ b) = cat a ++ cat b
  | [], b => (cat_nil_l _).symm
  | t :: ts, b => by rw [List.cons_append, cat, cat, cat_append ts b, ByteArray.append_assoc]
theorem cat_one (t : Tk) : cat [t] = t.key := cat_nil_r _
/-- a task of this law -/
structure Gd (t : Tk) : Prop where
  st : t.sticky = ⟨#[]⟩
  rd : t.ready = 0
  at_ : t.att = 0 ∨ t.att = 1
  sz : t.key.size = 1
theorem cat_size : ∀ ts : List Tk, (∀ t ∈ ts, Gd t) → (cat ts).size = ts.length
  | [], _ => rfl
  | t :: ts, h => by
    rw [cat, ByteArray.size_append, cat_size ts (fun x hx => h x (List.mem_cons_of_mem _ hx)), (h t List.mem_cons_self).sz, List.length_cons]
    omega
/-- how often they may yet be handed out -/
def wgt : List Tk → Nat
  | [] => 0
  | t :: ts => 2 - t.att.toNat + wgt ts
theorem wgt_len : ∀ ts : List Tk, (∀ t ∈ ts, Gd t) → ts.length ≤ wgt ts
  | [], _ => Nat.le_refl _
  | t :: ts, h => by
    have := wgt_len ts (fun x hx => h x (List.mem_cons_of_mem _ hx))
    have := (h t List.mem_cons_self).at_
    rw [wgt, List.length_cons]
    omega
theorem wgt_append : ∀ a b : List Tk, wgt (a ++ b) = wgt a + wgt b
  | [], b => by simp [wgt]
  | t :: ts, b => by rw [List.cons_append, wgt, wgt, wgt_append ts b]; omega
/-- behind each round of the first loop -/
structure O1 (k : Nat) (ts : List Tk) (tm : ByteArray → Option Int) : Prop where
  len : ts.length = k
  gd : ∀ t ∈ ts, Gd t
  w : wgt ts = 2 * k
  key : ∀ s, tm s ≠ none → ∃ j, j < k ∧ s = ltr j
theorem O1.start : O1 0 [] (fun _ => none) := ⟨rfl, fun _ h => (by cases h), rfl, fun _ h => absurd rfl h⟩
theorem O1.fresh {k : Nat} {ts : List Tk} {tm : ByteArray → Option Int} (h : O1 k ts tm) (hk : k < 40) : tm (ltr k) = none := by
  cases e : tm (ltr k) with
  | none => rfl
  | some v =>
    obtain ⟨j, hj, e2⟩ := h.key (ltr k) (by rw [e]; simp)
    have := ltr_inj k hk j (by omega) e2
    omega
theorem O1.next {k : Nat} {ts : List Tk} {tm : ByteArray → Option Int} (h : O1 k ts tm) (hk : k < 40) : O1 (k + 1) (ts ++ [⟨ltr k, ⟨#[]⟩, 0, 0⟩]) (updS tm (ltr k) 0) where
  len := by simp [h.len]
  gd t ht := by
    rcases List.mem_append.1 ht with ht | ht
    · exact h.gd t ht
    · simp at ht
      subst ht
      exact ⟨rfl, rfl, .inl rfl, ltr_size k hk⟩
  w := by rw [wgt_append, h.w]; simp [wgt]; omega
  key s hs := by
    unfold updS at hs
    by_cases e : s = ltr k
    · exact ⟨k, by omega, e⟩
    · rw [if_neg e] at hs
      obtain ⟨j, hj, e2⟩ := h.key s hs
      exact ⟨j, by omega, e2⟩
/-- behind each round of the second loop -/
structure O2 (want again got : ByteArray) (ts : List Tk) : Prop where
  gd : ∀ t ∈ ts, Gd t
  cat : got ++ cat ts = want ++ again
  w : got.size + wgt ts ≤ 80
theorem O2.start {k : Nat} {ts : List Tk} {tm : ByteArray → Option Int} (h : O1 k ts tm) (hk : k ≤ 40) : O2 (Proofs.Ytpbheicfplpemaa.cat ts) ⟨#[]⟩ ⟨#[]⟩ ts :=
  ⟨h.gd, by rw [cat_nil_l, cat_nil_r], by rw [h.w]; show 0 + _ ≤ _; omega⟩
theorem O1.start2 {k : Nat} {ts : List Tk} {tm : ByteArray → Option Int} (h : O1 k ts tm) (hk : k ≤ 40) : O2 (Proofs.Ytpbheicfplpemaa.cat ts) ⟨#[]⟩ ⟨#[]⟩ ts := O2.start h hk
theorem O2.done {want again got : ByteArray} {t : Tk} {ts : List Tk} (h : O2 want again got (t :: ts)) : O2 want again (got ++ t.key) ts where
  gd x hx := h.gd x (List.mem_cons_of_mem _ hx)
  cat := by rw [ByteArray.append_assoc]; exact h.cat
  w := by
    have h1 := h.w
    have g := h.gd t List.mem_cons_self
    have h2 := g.at_
    rw [ByteArray.size_append, g.sz]
    rw [wgt] at h1
    omega
theorem O2.back {want again got : ByteArray} {t : Tk} {ts : List Tk} (h : O2 want again got (t :: ts)) (ha : t.att = 0) : O2 want (again ++ t.key) (got ++ t.key) (ts ++ [⟨t.key, ⟨#[]⟩, 0, t.att + 1⟩]) where
  gd x hx := by
    rcases List.mem_append.1 hx with hx | hx
    · exact h.gd x (List.mem_cons_of_mem _ hx)
    · simp at hx
      subst hx
      exact ⟨rfl, rfl, .inr (by rw [ha]; rfl), (h.gd t List.mem_cons_self).sz⟩
  cat := by
    rw [cat_append, cat_one, ← ByteArray.append_assoc (a := want), ← h.cat, Proofs.Ytpbheicfplpemaa.cat]
    simp only [ByteArray.append_assoc]
  w := by
    have h1 := h.w
    rw [ByteArray.size_append, (h.gd t List.mem_cons_self).sz, wgt_append]
    rw [wgt, ha] at h1
    simp [wgt, ha]
    simp at h1
    omega
theorem O2.cs {want again got : ByteArray} {ts : List Tk} (h : O2 want again got ts) : got.size + ts.length = want.size + again.size := by
  have := congrArg ByteArray.size h.cat
  rwa [ByteArray.size_append, ByteArray.size_append, cat_size _ h.gd] at this
theorem O2.len {want again got : ByteArray} {ts : List Tk} (h : O2 want again got ts) : ts.length ≤ 80 := by
  have := wgt_len ts h.gd
  have := h.w
  omega
theorem O2.again {want again got : ByteArray} {ts : List Tk} (h : O2 want again got ts) : again.size ≤ 80 := by
  have := wgt_len ts h.gd
  have := h.w
  have := h.cs
  omega
theorem O2.att {want again got : ByteArray} {ts : List Tk} (h : O2 want again got ts) : ∀ t ∈ ts, 0 ≤ t.att ∧ t.att ≤ 1000000000 := fun t ht => by have := (h.gd t ht).at_; omega
theorem O2.rdy {want again got : ByteArray} {ts : List Tk} (h : O2 want again got ts) : ∀ t ∈ ts, tkRdy t := fun t ht => by unfold tkRdy; rw [(h.gd t ht).rd]; omega
theorem O2.isFor {want again got : ByteArray} {t : Tk} {ts : List Tk} (h : O2 want again got (t :: ts)) (who : ByteArray) : isForI 0 who 0 t = true := by
  have g := h.gd t List.mem_cons_self
  simp [isForI, g.rd, g.st]
/-- the queue in memory -/
structure OA (w wr : World) (q : Nat) (most grace next : Int) (wv : Value) (ts : List Tk) (O T : Nat) (om : Int → Option Ot) (tm : ByteArray → Option Int) : Prop where
  st : QS wr q most grace next wv ts O T om tm
  lo : ∀ i, QSet q wv O T i → w.heap.size ≤ i
  bel : Below w.heap.size w wr
theorem OA.move {w wr w' : World} {q : Nat} {most grace next next' : Int} {wv wv' : Value} {ts ts' : List Tk} {O T : Nat} {om om' : Int → Option Ot} {tm tm' : ByteArray → Option Int} (h : OA w wr q most grace next wv ts O T om tm) (s : QS w' q most grace next' wv' ts' O T om' tm') (n : NextR wr wv wv') (t : Turns (QSet q wv O T) wr w') :
    OA w w' q most grace next' wv' ts' O T om' tm' :=
  ⟨s, n.lo h.lo h.bel.size, h.bel.trans (t.below h.bel.size fun i _ hi => h.lo i hi)⟩
theorem OA.same {w wr w' : World} {q : Nat} {most grace next next' : Int} {wv : Value} {ts ts' : List Tk} {O T : Nat} {om om' : Int → Option Ot} {tm tm' : ByteArray → Option Int} (h : OA w wr q most grace next wv ts O T om tm) (s : QS w' q most grace next' wv ts' O T om' tm') (t : Turns (QSet q wv O T) wr w') :
    OA w w' q most grace next' wv ts' O T om' tm' :=
  ⟨s, h.lo, h.bel.trans (t.below h.bel.size fun i _ hi => h.lo i hi)⟩
theorem isFor_mine (grace now ready : Int) : isForI grace ⟨#[109, 105, 110, 101]⟩ now ⟨⟨#[97]⟩, ⟨#[109, 105, 110, 101]⟩, ready, 0⟩ = decide (ready ≤ now) := by
  simp [isForI]
theorem isFor_other (grace now ready : Int) (h1 : 0 ≤ ready) (h2 : ready ≤ 1000) (h3 : 0 ≤ grace) (h4 : grace ≤ 1000) : isForI grace ⟨#[111, 116, 104, 101, 114]⟩ now ⟨⟨#[97]⟩, ⟨#[109, 105, 110, 101]⟩, ready, 0⟩ = decide (ready + grace ≤ now) := by
  have ha : addI ready grace = ready + grace := by rw [addI, if_neg (by omega), if_neg (by omega)]
  have e1 : ((⟨#[109, 105, 110, 101]⟩ : ByteArray) = ⟨#[]⟩) = False := by simp
  have e2 : ((⟨#[109, 105, 110, 101]⟩ : ByteArray) = ⟨#[111, 116, 104, 101, 114]⟩) = False := by simp
  unfold isForI
  simp only [ha, e1, e2, decide_false, Bool.false_or]
  by_cases p : ready + grace ≤ now
  · rw [decide_eq_true p, decide_eq_true (show ready ≤ now by omega)]; rfl
  · rw [decide_eq_false p, Bool.and_false]
/-- a queue of one task: what Poll answers -/
def OneY (w : World) (q : Nat) (grace : Int) (wv : Value) (t : Tk) (O T : Nat) (who : ByteArray) (now : Int) (e : Ending) (w' : World) : Prop :=
  ∃ (s : ByteArray) (n m : Int), e = .returned (.tuple #[.string s, .int .i64 n, .int .i64 m, .int .i64 (if isForI grace who now t then 0 else 5)]) ∧ Turns (QSet q wv O T) w w'
theorem pollOne (w : World) (q : Nat) (most grace next : Int) (wv : Value) (t : Tk) (O T : Nat) (om : Int → Option Ot) (tm : ByteArray → Option Int) (h : QS w q most grace next wv [t] O T om tm) (who : ByteArray) (now lease : Int) (hnx : next < 1000000000) (hle : 1 ≤ lease ∧ lease ≤ 9223372036854775807) (hno : -9223372036854775808 ≤ now ∧ now ≤ 9223372036854775807) (hg : -9223372036854775808 ≤ grace ∧ grace ≤ 9223372036854775807) (hr : tkRdy t) (hat : 0 ≤ t.att ∧ t.att ≤ 1000000000) :
    Calls Try.prog 12 #[.pointer (some ⟨q, 0, none⟩), .string who, .int .i64 now, .int .i64 lease] w (OneY w q grace wv t O T who now) := by
  refine (pollQ w q most grace next wv [t] O T om tm h who now lease hnx hle hno hg (by simpa using hr) (by simpa using hat)).mono ?_
  rintro e w' (⟨rfl, hn, hb⟩ | ⟨i, wv', hi, h1, h2, rfl, s, n, k⟩)
  · refine ⟨⟨#[]⟩, 0, 0, ?_, .of_below hb⟩
    rw [hn t List.mem_cons_self]
    rfl
  · obtain rfl : i = 0 := by simp at hi; omega
    refine ⟨t.key, next, t.att + 1, ?_, k⟩
    rw [show gT [t] 0 = t from rfl] at h1 ⊢
    rw [h1]
    rfl
/-- booleans that came in -/
def Bools (w : World) (a : Option Addr) (n : Nat) (B : Nat → Bool) : Prop := ∀ i, i < n → ∃ x, a = some x ∧ x.block < w.heap.size ∧ w.cell? (x.add i) = some (.bool (B i))
theorem blk_add (a : Addr) (n : Nat) : (a.add n).block = a.block := by unfold Addr.add; split <;> rfl
theorem Bools.bel {w w' : World} {a : Option Addr} {n : Nat} {B : Nat → Bool} (h : Bools w a n B) (hb : Below w.heap.size w w') : Bools w' a n B := fun i hi => by
  obtain ⟨x, hx, hl, hc⟩ := h i hi
  exact ⟨x, hx, Nat.lt_of_lt_of_le hl hb.size, (hb.cell (by rw [blk_add]; exact hl)).trans hc⟩

set_option maxRecDepth 20000 in
theorem order_out (n ready grace now : Int) (a : Option Addr) (lb cb : Nat) (w : World) (hn : n < 0 ∨ 40 < n) : Calls Try.prog 3 #[.int .i64 n, .slice a lb cb, .int .i64 ready, .int .i64 grace, .int .i64 now] w fun e w' => e = .returned (.bool true) ∧ Below w.heap.size w w' := by
  rcases hn with hn | hn
  · go_enter Try.func3, Try.ntmps3
    go_wp2_with fail
    refine (awake_any w).mono ?_
    rintro e w1 ⟨rfl, hb⟩
    have HB := Lib.hid hb
    clear hb
    go_wp2_with fail
    go_ret
    exact ⟨rfl, HB.out⟩
  · have hn2 : ¬ n < 0 := by omega
    go_enter Try.func3, Try.ntmps3
    go_wp2_with fail
    refine (awake_any w).mono ?_
    rintro e w1 ⟨rfl, hb⟩
    have HB := Lib.hid hb
    clear hb
    go_wp2_with fail
    go_ret
    exact ⟨rfl, HB.out⟩
end Go.Proofs.Ytpbheicfplpemaa
