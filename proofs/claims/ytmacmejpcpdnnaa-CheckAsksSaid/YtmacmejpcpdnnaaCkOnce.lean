/- check: once (sorted, compacted, clipped). -/
import Derived.Test.YtmacmejpcpdnnaaCkAsksP
import Derived.Test.YtmacmejpcpdnnaaCkShelf
import Derived.Test.YtmacmejpcpdnnaaCkNamesL
import Derived.Sort.OwnSorted
import Derived.Sort.Grow
import Derived.Lib.OwnBridge
namespace Go.Proofs.Ytmacmejpcpdnnaa
open Go.RowKit Go.Sort

structure Strs (w : World) (B : Nat) (A : Option Addr) (n : Nat) (ss : List (List UInt8)) : Prop where
  len : ss.length = n
  cell : ∀ i (h : i < ss.length), ∃ b, A = some ⟨b, 0, none⟩ ∧ B ≤ b ∧ b < w.heap.size ∧ w.cell? ⟨b, i, none⟩ = some (encStr ss[i]) ∧ w.frozen? ⟨b, i, none⟩ = false
theorem Strs.turns {w w' : World} {B n : Nat} {A : Option Addr} {ss : List (List UInt8)} {S : Nat → Prop} (h : Strs w B A n ss) (k : Turns S w w') (hn : ∀ g, A = some ⟨g, 0, none⟩ → ¬ S g) : Strs w' B A n ss :=
  ⟨h.len, fun i hi => by
    obtain ⟨b, e, h1, h2, h3, h4⟩ := h.cell i hi
    exact ⟨b, e, h1, Nat.lt_of_lt_of_le h2 k.size, (k.cell (p := ⟨b, i, none⟩) h2 (hn b e)).trans h3, (k.fz (p := ⟨b, i, none⟩) h2 (hn b e)).trans h4⟩⟩
theorem Strs.bel {w w' : World} {B n : Nat} {A : Option Addr} {ss : List (List UInt8)} (h : Strs w B A n ss) (k : Below w.heap.size w w') : Strs w' B A n ss :=
  h.turns (.of_below (S := fun _ => False) k) (fun _ _ => id)
theorem Strs.of_own {w : World} {B n : Nat} {v : Value} {ss : List (List UInt8)} (h : w.ownsRow B 9 1 v n (ss.map encStr)) : ∃ A c, v = .slice A n c ∧ Strs w B A n ss ∧ n ≤ c ∧ c ≤ maxLen ∧ (∀ g, A = some ⟨g, 0, none⟩ → v.ownBlock = some g) := by
  have hl : ss.length = n := by simpa using h.1
  obtain ⟨A, c, rfl⟩ := own_slice' h
  rcases h.2 with ⟨e0, h0⟩ | ⟨g, cap, cur, e0, hb, hg, hn, hm, hs, ht⟩
  · injection e0 with e1 e2 e3
    subst e1 e2 e3
    exact ⟨none, 0, rfl, ⟨hl, fun i hi => by omega⟩, by omega, by unfold maxLen; omega, fun g e => by cases e⟩
  · injection e0 with e1 e2 e3
    subst e1 e3
    refine ⟨_, _, rfl, ⟨hl, fun i hi => ⟨g, rfl, hb, (Array.getElem?_eq_some_iff.1 hg).1, ?_, ?_⟩⟩, hn, hm, fun g' e => ?_⟩
    · have := h.cellAt i (by omega)
      rw [this]
      simp [hi]
    · exact h.frozenAt i
    · injection e with e
      injection e with e
      subst e
      rfl

theorem clip_any (w : World) (A : Option Addr) (n c : Nat) (hn : n ≤ 5000) (hc : n ≤ c) (hm : c ≤ maxLen) (hA : A = none → n = 0 ∧ c = 0) (hA2 : ∀ a, A = some a → ∃ g, a = ⟨g, 0, none⟩) :
    Calls Try.prog 42 #[.slice A n c] w fun e w' => e = .returned (.slice A n n) ∧ Below w.heap.size w w' := by
  unfold maxLen at hm
  cases A with
  | none =>
    obtain ⟨rfl, rfl⟩ := hA rfl
    clear hA hA2
    go_enter Try.func42, Try.ntmps42
    go_wp2_with fail
    go_ret
    exact ⟨rfl, Below.refl _ _⟩
  | some a =>
    obtain ⟨g, rfl⟩ := hA2 a rfl
    clear hA hA2
    go_enter Try.func42, Try.ntmps42
    go_wp2_with fail
    go_ret
    exact ⟨rfl, Below.refl _ _⟩

/-- what sort and compact leave, of a row -/
theorem sorted_row {w : World} {base g cap n m q : Nat} {os : Array Obj} {ss : List (List UInt8)} (h : w.ownsRow base 9 1 (.slice (some ⟨g, 0, none⟩) n cap) n (ss.map encStr)) :
    let ts := ss.mergeSort fun x y => decide (x ≤ y)
    let w2 := grow (putRow encStr (Sort.ahead w m) g 0 ts.toArray) os
    let w3 := putRow encStr (Sort.ahead w2 q) g 0 (Lib.compact ts ++ List.replicate (n - (Lib.compact ts).length) []).toArray
    w3.ownsRow base 9 1 (.slice (some ⟨g, 0, none⟩) (Lib.compact ts).length cap) (Lib.compact ts).length ((Lib.compact ts).map encStr) ∧ Turns (fun j => j = g) w w3 := by
  intro ts w2 w3
  have hl : ss.length = n := by simpa using h.1
  have hl2 : ts.length = ss.length := List.length_mergeSort ss
  have hle := Lib.compact_length_le ts
  subst hl
  rcases h.2 with ⟨h0, _⟩ | ⟨g', cap', cur, hv, hbase, hb, h1, h2, h3, h4⟩
  · cases h0
  cases hv
  have hs := ownsRow_sorted (n := m) (os := os) (ts := ts) hl2 hbase hb h1 h2 h3
  have hc := Lib.ownsRow_putRow (q := q) (k := (Lib.compact ts).length) (ys := Lib.compact ts ++ List.replicate (ss.length - (Lib.compact ts).length) []) hs (by simp; omega) (by omega)
  rw [List.take_left] at hc
  refine ⟨hc, (Turns.of_grown (S := fun j => j = g) (grownBy_sorted (n := m) (os := os) ts.toArray) (fun r e => by injection e with e; exact e.symm)).then (S := fun j => j = g) ?_⟩
  refine ⟨rfl, rfl, rfl, by show w2.heap.size ≤ (putRow encStr (Sort.ahead w2 q) g 0 _).heap.size; generalize w2 = x; simp [putRow, mapBlock, Sort.ahead], fun i _ hne => ?_⟩
  have hne' : g ≠ i := fun e => hne e.symm
  show (putRow encStr (Sort.ahead w2 q) g 0 _).heap[i]? = w2.heap[i]?
  simp [putRow, mapBlock, Sort.ahead, Array.getElem?_modify, hne']
theorem sorted_row' {w w1 w2 : World} {base g cap n m q : Nat} {os : Array Obj} {ss : List (List UInt8)} (h : w.ownsRow base 9 1 (.slice (some ⟨g, 0, none⟩) n cap) n (ss.map encStr))
    (hw1 : w1 = grow (putRow encStr (Sort.ahead w m) g 0 (ss.mergeSort fun x y => decide (x ≤ y)).toArray) os)
    (hw2 : w2 = putRow encStr (Sort.ahead w1 q) g 0 (Lib.compact (ss.mergeSort fun x y => decide (x ≤ y)) ++ List.replicate (n - (Lib.compact (ss.mergeSort fun x y => decide (x ≤ y))).length) []).toArray) :
    w2.ownsRow base 9 1 (.slice (some ⟨g, 0, none⟩) (ss.foldl insS []).length cap) (ss.foldl insS []).length ((ss.foldl insS []).map encStr) ∧ Turns (fun j => j = g) w w2 := by
  have := sorted_row (m := m) (q := q) (os := os) h
  rw [← sort_eq, hw2, hw1]
  exact this
theorem foldIns_len (l : List (List UInt8)) : (l.foldl insS []).length ≤ l.length := by
  rw [← sort_eq]
  have h1 := Lib.compact_length_le (l.mergeSort fun x y => decide (x ≤ y))
  have h2 := List.length_mergeSort (le := fun x y => decide (x ≤ y)) l
  omega
/-- a list's names, each once, rising: a row, and no more than its block has turned -/
def OnceY (w : World) (base : Nat) (v : Value) (ss : List (List UInt8)) (e : Ending) (w' : World) : Prop :=
  ∃ A, e = .returned (.slice A (ss.foldl insS []).length (ss.foldl insS []).length) ∧ Strs w' base A (ss.foldl insS []).length (ss.foldl insS []) ∧ Turns (fun j => v.ownBlock = some j) w w' ∧ (∀ g, A = some ⟨g, 0, none⟩ → v.ownBlock = some g) ∧ (∀ a, A = some a → ∃ g, a = ⟨g, 0, none⟩)
set_option maxRecDepth 20000 in
set_option maxHeartbeats 3200000 in
theorem once_any (w : World) (base n : Nat) (v : Value) (ss : List (List UInt8)) (h : w.ownsRow base 9 1 v n (ss.map encStr)) (hn : n ≤ 5000) :
    Calls Try.prog 30 #[v] w (OnceY w base v ss) := by
  by_cases hv : v = .slice none 0 0
  · subst hv
    have hl : ss = [] := by
      rcases h.2 with ⟨_, h0⟩ | ⟨g, cap, cur, e0, _⟩
      · have := h.1
        subst h0
        exact List.eq_nil_of_length_eq_zero (by simpa using this)
      · cases e0
    subst hl
    clear h hn
    have HS := Lib.hid (fun W => Any.slices_Sort_string_none Try.laysSort none 0 W)
    have HC := Lib.hid (fun W => Any.slices_Compact_string_empty Try.laysCompact none 0 W)
    have HQ := Lib.hid (fun W => clip_any W none 0 0 (by omega) (by omega) (by unfold maxLen; omega) (fun _ => ⟨rfl, rfl⟩) (fun a e => by cases e))
    go_enter Try.func30, Try.ntmps30
    go_wp2_with (first | (go_at_call 41; refine (HS.out _).mono ?_; rintro e w1 ⟨rfl, rfl⟩) | (go_at_call 43; refine (HC.out _).mono ?_; rintro e w1 ⟨rfl, rfl⟩) | (go_at_call 42; refine (HQ.out _).mono ?_; rintro e w2 ⟨rfl, hb2⟩; have HB2 := Lib.hid hb2; clear hb2))
    go_ret
    exact ⟨none, rfl, ⟨rfl, fun i hi => by simp at hi⟩, .of_below HB2.out, (fun g e => by cases e), (fun g e => by cases e)⟩
  · obtain ⟨g, cap, rfl, hbg, hgl, hncap, hcm, hlen, hH⟩ := Lib.holds_of_ownsRow h hv
    subst hlen
    have hm' : cap ≤ 9223372036854775807 := by unfold maxLen at hcm; exact hcm
    have HO := Lib.hid h
    have HH := Lib.hid hH
    have HS := Lib.hid (Any.slices_Sort_string Try.laysSort g 0 cap ss w hH hgl (by omega))
    have hfl := foldIns_len ss
    have HE := Lib.hid (sort_eq ss)
    have HL2 : Hid ((ss.mergeSort fun x y => decide (x ≤ y)).length = ss.length) := Lib.hid (List.length_mergeSort ss)
    clear h hH hv
    go_enter Try.func30, Try.ntmps30
    go_wp2_with (first | (go_at_call 41; go_loud (refine HS.out.mono ?_; rintro e w1 ⟨rfl, m, os, hw1⟩; have HC := Lib.hid (Any.slices_Compact_string Try.laysCompact g 0 cap (ss.mergeSort fun x y => decide (x ≤ y)) w1 (by rw [hw1]; exact holds_grow encStr _ os g 0 _ (by simpa [putRow, mapBlock, Sort.ahead] using hgl) (holds_putRow encStr _ g 0 _ _ (holds_ahead encStr w m g 0 _ HH.out) (by simp))) (by rw [HL2.out]; omega) (by rw [HL2.out]; omega)); rw [HL2.out] at HC; have HW1 := Lib.hid hw1; clear hw1)) | (go_at_call 43; go_loud (refine HC.out.mono ?_; rintro e w2 ⟨rfl, q, hw2⟩; have HR := Lib.hid (sorted_row' HO.out HW1.out hw2); rw [HE.out]; clear hw2)) | (go_at_call 42; go_loud (refine (clip_any w2 (some ⟨g, 0, none⟩) (ss.foldl insS []).length cap (by omega) (by omega) hcm (fun e => by cases e) (fun a e => by injection e with e; exact ⟨g, e.symm⟩)).mono ?_; rintro e w3 ⟨rfl, hb3⟩; have HB3 := Lib.hid hb3; clear hb3)))
    go_ret
    obtain ⟨A, c, e1, hs1, _, _, _⟩ := Strs.of_own HR.out.1
    injection e1 with e1 _ _
    subst e1
    exact ⟨_, rfl, hs1.bel HB3.out, (HR.out.2.mono (fun i _ e => by subst e; rfl)).then (.of_below HB3.out), (fun g' e => by injection e with e; injection e with e; subst e; rfl), (fun a e => by injection e with e; exact ⟨g, e.symm⟩)⟩
end Go.Proofs.Ytmacmejpcpdnnaa
