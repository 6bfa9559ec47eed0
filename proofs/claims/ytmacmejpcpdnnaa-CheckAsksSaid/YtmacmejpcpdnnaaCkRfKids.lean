/- check: where a tree's parts lie: the document's End and Kids; find. -/
import Derived.Test.YtmacmejpcpdnnaaCkRfSlP
import Derived.Test.YtmacmejpcpdnnaaCkTreeIn
import Derived.Test.YtmacmejpcpdnnaaCkCopy
import Derived.Test.YtmacmejpcpdnnaaCkSlWalk
namespace Go.Proofs.Ytmacmejpcpdnnaa
open Go.RowKit

theorem tree_cell {w : World} {a : Option Addr} {n c : Nat} {t : List Tw} (h : TreeIn w a n c t) {i : Nat} {x : Tw} (hi : t[i]? = some x) : ∃ b o, a = some ⟨b, o, none⟩ ∧ b < w.heap.size ∧ w.cell? ⟨b, o + i * 4, none⟩ = some (.int .u8 x.op) ∧ w.cell? ⟨b, o + i * 4 + 1, none⟩ = some (.int .i64 x.kids) ∧ w.cell? ⟨b, o + i * 4 + 2, none⟩ = some (.int .i64 x.int) ∧ w.cell? ⟨b, o + i * 4 + 3, none⟩ = some (.string x.text) := by
  obtain ⟨hl, hx⟩ := List.getElem?_eq_some_iff.1 hi
  obtain ⟨b, o, e, h1, h2, c0, c1, c2, c3⟩ := h.tw.cell i hl
  rw [hx] at c0 c1 c2 c3
  exact ⟨b, o, e, h2, c0, c1, c2, c3⟩
set_option maxRecDepth 20000 in
set_option maxHeartbeats 3200000 in
theorem end_step (w : World) (a : Option Addr) (n c : Nat) (t : List Tw) (h : TreeIn w a n c t) (hn : n ≤ 5000) (x : Tw) (k : Fo) (at_ : Nat) (hst : Stands t at_ (.cons x k .nil)) (hok : (Fo.cons x k .nil).ok)
    (hih : ∀ (y : Tw) (k2 : Fo) (a2 : Nat), k2.size < k.size → Stands t a2 (.cons y k2 .nil) → (Fo.cons y k2 .nil).ok → Calls Try.prog 38 #[.slice a n c, .int .i64 (a2 : Int)] w fun e w' => e = .returned (.int .i64 ((a2 + (1 + k2.size) : Nat) : Int)) ∧ w = w') :
    Calls Try.prog 38 #[.slice a n c, .int .i64 (at_ : Int)] w fun e w' => e = .returned (.int .i64 ((at_ + (1 + k.size) : Nat) : Int)) ∧ w = w' := by
  obtain ⟨hlt, hx⟩ := hst.head
  obtain ⟨b, o, ea, hbl, c0, c1, c2, c3⟩ := tree_cell h (i := at_) (x := x) (by rw [List.getElem?_eq_getElem hlt, hx])
  have hln := h.tw.len
  have hsz := hst.1
  simp only [Fo.size] at hsz
  have hcap := h.cap.1
  have hcap2 := h.cap.2
  unfold maxLen at hcap2
  subst ea
  have HST := Lib.hid hst
  have HOK := Lib.hid hok
  have HIH := Lib.hid hih
  have hkc : x.kids = (k.cnt : Int) := hok.1
  rw [hkc] at c1
  have hat : (at_ : Int) < (n : Int) := by omega
  have hkn : k.cnt ≤ 5000 := by have := cnt_size k; omega
  have HLN := Lib.hid hln
  have HSZ := Lib.hid hsz
  clear h hst hok hih hx hln hkc hsz
  go_enter Try.func38, Try.ntmps38
  go_wp2_with fail
  go_loopw [1, 6] (fun av iv wr => ∃ (i ai : Nat), av = .int .i64 (ai : Int) ∧ iv = .int .i64 (i : Int) ∧ i ≤ k.cnt ∧ w = wr ∧ Hid (∃ f : Fo, i + f.cnt = k.cnt ∧ Stands t ai f ∧ f.ok ∧ f.size ≤ k.size ∧ ai + f.size = at_ + (1 + k.size))) (fun _ iv _ => k.cnt - (intOf iv).toNat)
  case atStart => exact ⟨0, at_ + 1, by simp, rfl, Nat.zero_le _, rfl, Lib.hid ⟨k, by omega, HST.out.kids, HOK.out.2.1, Nat.le_refl _, by omega⟩⟩
  case round =>
    obtain ⟨i, ai, rfl, rfl, hi9, rfl, HF⟩ := hrel
    by_cases hlt2 : i < k.cnt
    · have hlt' : (i : Int) < (k.cnt : Int) := by omega
      obtain ⟨f, f1, f2, f3, f4, f5⟩ := HF.out
      cases f with
      | nil => simp only [Fo.cnt] at f1; omega
      | cons y k2 r =>
        have hcall := HIH.out y k2 ai (by simp only [Fo.size] at f4; omega) f2.one ⟨f3.1, f3.2.1, trivial⟩
        have HCALL := Lib.hid hcall
        have HF2 := Lib.hid (And.intro f1 (And.intro f2 (And.intro f3 (And.intro f4 f5))))
        clear hcall f1 f2 f3 f4 f5 HF
        go_wp2_with (go_at_call 38; refine HCALL.out.mono ?_; rintro e wn ⟨rfl, rfl⟩)
        obtain ⟨f1, f2, f3, f4, f5⟩ := HF2.out
        simp only [Fo.cnt] at f1
        simp only [Fo.size] at f4 f5
        refine ⟨⟨i + 1, ai + (1 + k2.size), by go_num, by go_num, by omega, by first | rfl | trivial, Lib.hid ⟨r, by omega, f2.rest, f3.2.2, by omega, by omega⟩⟩, by simp [intOf]; omega⟩
    · obtain rfl : i = k.cnt := by omega
      have hlt' : ¬ (k.cnt : Int) < (k.cnt : Int) := by omega
      go_wp2_with fail
      go_ret
      obtain ⟨f, f1, f2, f3, f4, f5⟩ := HF.out
      cases f with
      | nil =>
        simp only [Fo.size, Nat.add_zero] at f5
        refine ⟨?_, rfl⟩
        show Ending.returned (.int .i64 (ai : Int)) = _
        rw [show (ai : Int) = (at_ : Int) + (1 + (k.size : Int)) from by omega]
      | cons y k2 r => simp only [Fo.cnt] at f1; omega
theorem end_any (w : World) (a : Option Addr) (n c : Nat) (t : List Tw) (h : TreeIn w a n c t) (hn : n ≤ 5000) : ∀ (r : Nat) (x : Tw) (k : Fo) (at_ : Nat), k.size < r → Stands t at_ (.cons x k .nil) → (Fo.cons x k .nil).ok →
    Calls Try.prog 38 #[.slice a n c, .int .i64 (at_ : Int)] w fun e w' => e = .returned (.int .i64 ((at_ + (1 + k.size) : Nat) : Int)) ∧ w = w' := by
  intro r
  induction r with
  | zero => intro x k at_ h; omega
  | succ r ih =>
    intro x k at_ hr hst hok
    exact end_step w a n c t h hn x k at_ hst hok fun y k2 a2 hk h1 h2 => ih y k2 a2 (by omega) h1 h2
/-- where trees begin -/
def startsF : Fo → Nat → List Int
  | .nil, _ => []
  | .cons _ k r, a => (a : Int) :: startsF r (a + (1 + k.size))
theorem startsF_len : ∀ (f : Fo) (a : Nat), (startsF f a).length = f.cnt
  | .nil, _ => rfl
  | .cons x k r, a => by simp [startsF, Fo.cnt, startsF_len r]
set_option maxRecDepth 20000 in
set_option maxHeartbeats 3200000 in
theorem kids_any (w : World) (a : Option Addr) (n c : Nat) (t : List Tw) (h : TreeIn w a n c t) (hn : n ≤ 5000) (x : Tw) (k : Fo) (at_ : Nat) (hst : Stands t at_ (.cons x k .nil)) (hok : (Fo.cons x k .nil).ok) :
    Calls Try.prog 27 #[.slice a n c, .int .i64 (at_ : Int)] w fun e w' => ∃ A cc, e = .returned (.slice A k.cnt cc) ∧ w'.ownsRow w.heap.size 3 1 (.slice A k.cnt cc) k.cnt ((startsF k (at_ + 1)).map intI) ∧ Below w.heap.size w w' := by
  obtain ⟨i0, hi, hz0, hz1, hz2⟩ := info_parts info_int
  obtain ⟨hlt, hx⟩ := hst.head
  obtain ⟨b, o, ea, hbl, c0, c1, c2, c3⟩ := tree_cell h (i := at_) (x := x) (by rw [List.getElem?_eq_getElem hlt, hx])
  have hln := h.tw.len
  have hsz := hst.1
  simp only [Fo.size] at hsz
  have hcap := h.cap.1
  have hcap2 := h.cap.2
  unfold maxLen at hcap2
  subst ea
  have HT := Lib.hid h
  have HST := Lib.hid hst
  have HOK := Lib.hid hok
  have hkc : x.kids = (k.cnt : Int) := hok.1
  rw [hkc] at c1
  have hat : (at_ : Int) < (n : Int) := by omega
  have hkn : k.cnt ≤ 5000 := by have := cnt_size k; omega
  have HLN := Lib.hid hln
  have HSZ := Lib.hid hsz
  have HC1 := Lib.hid c1
  clear h hst hok hx hln hkc hsz c0 c1 c2 c3
  go_enter Try.func27, Try.ntmps27
  go_wp2_with fail
  go_loopw [5, 6, 7] (fun ov av iv wr => ∃ (i ai : Nat) (A : Option Addr) (cc : Nat), ov = .slice A i cc ∧ av = .int .i64 (ai : Int) ∧ iv = .int .i64 (i : Int) ∧ i ≤ k.cnt ∧ Hid (Below w.heap.size w wr ∧ ∃ (f : Fo) (l : List Int), i + f.cnt = k.cnt ∧ Stands t ai f ∧ f.ok ∧ wr.ownsRow w.heap.size 3 1 (.slice A i cc) i (l.map intI) ∧ l ++ startsF f ai = startsF k (at_ + 1))) (fun _ _ iv _ => k.cnt - (intOf iv).toNat)
  case atStart => exact ⟨0, at_ + 1, none, 0, rfl, by simp, rfl, Nat.zero_le _, Lib.hid ⟨Below.refl _ _, k, [], by omega, HST.out.kids, HOK.out.2.1, World.ownsRow_nil _ _ _ _, rfl⟩⟩
  case round =>
    obtain ⟨i, ai, A, cc, rfl, rfl, rfl, hi9, HF⟩ := hrel
    have ck := (HF.out.1.cell (p := ⟨b, o + at_ * 4 + 1, none⟩) hbl).trans HC1.out
    by_cases hlt2 : i < k.cnt
    · have hlt' : (i : Int) < (k.cnt : Int) := by omega
      obtain ⟨f, l, f1, f2, f3, f4, f5⟩ := HF.out.2
      cases f with
      | nil => simp only [Fo.cnt] at f1; omega
      | cons y k2 r =>
        have hN9 := f2.1
        simp only [Fo.size] at hN9
        have hai : ai ≤ 5000 := by have := HLN.out; omega
        have HR3 := Lib.hid (f4.alloc (.cells #[.int .i64 (ai : Int)] 3))
        have HNW := Lib.hid (Blk.new wr 3 [.int .i64 (ai : Int)]).news
        have HBS : Hid (w.heap.size ≤ (wr.alloc (.cells #[.int .i64 (ai : Int)] 3)).heap.size) := Lib.hid (by have := HF.out.1.size; simp; omega)
        have hl1 : Hid (i + 1 ≤ maxLen) := Lib.hid (by unfold maxLen; omega)
        have hl2 : Hid ((i + 1) * 8 ≤ 140737488355328) := Lib.hid (by omega)
        have HF2 := Lib.hid (And.intro f1 (And.intro f2 (And.intro f3 f5)))
        have HEND : Hid (∀ W, Below w.heap.size w W → Calls Try.prog 38 #[.slice (some ⟨b, o, none⟩) n c, .int .i64 (ai : Int)] W fun e w' => e = .returned (.int .i64 ((ai + (1 + k2.size) : Nat) : Int)) ∧ W = w') := Lib.hid (fun W hW => end_any W _ n c t (HT.out.bel hW) hn (k2.size + 1) y k2 ai (by omega) f2.one ⟨f3.1, f3.2.1, trivial⟩)
        clear f1 f2 f3 f4 f5 hN9
        go_wp2_with (first | (at_builtin; refine wpList_append_own_at _ rfl _ _ 25 rfl w.heap.size 3 i0 _ 1 8 Try.underlying25 hi hz0 hz1 hz2 rfl (by decide) _ _ _ rfl HR3.out ⟨wr.heap.size, 0, none⟩ 1 1 [.int .i64 (ai : Int)] rfl rfl HNW.out (by intro u hu; simp at hu; subst hu; rfl) hl1.out hl2.out HBS.out ?_; intro v4 y4 hown4 hgr4 _ _; obtain ⟨A4, c4, rfl⟩ := own_slice' hown4; have HO4 := Lib.hid hown4; have HB4 : Hid (Below w.heap.size w y4) := Lib.hid ((HF.out.1.alloc HF.out.1.size _).grown hgr4 HBS.out (fun r e => (row_lo HR3.out e).1)); clear hown4 hgr4) | (go_at_call 38; refine (HEND.out _ HB4.out).mono ?_; rintro e wn ⟨rfl, rfl⟩))
        obtain ⟨f1, f2, f3, f5⟩ := HF2.out
        simp only [Fo.cnt] at f1
        refine ⟨⟨i + 1, ai + (1 + k2.size), A4, c4, rfl, by go_num, by go_num, by omega, Lib.hid ⟨HB4.out, r, l ++ [(ai : Int)], by omega, f2.rest, f3.2.2, ?_, ?_⟩⟩, by simp [intOf]; omega⟩
        · simp only [List.map_append, List.map_cons, List.map_nil]
          exact HO4.out
        · rw [← f5]
          simp [startsF]
    · obtain rfl : i = k.cnt := by omega
      have hlt' : ¬ (k.cnt : Int) < (k.cnt : Int) := by omega
      go_wp2_with fail
      go_ret
      obtain ⟨hb, f, l, f1, f2, f3, f4, f5⟩ := HF.out
      cases f with
      | nil =>
        simp only [startsF, List.append_nil] at f5
        rw [← f5]
        exact ⟨_, _, rfl, f4, hb⟩
      | cons y k2 r => simp only [Fo.cnt] at f1; omega
end Go.Proofs.Ytmacmejpcpdnnaa
