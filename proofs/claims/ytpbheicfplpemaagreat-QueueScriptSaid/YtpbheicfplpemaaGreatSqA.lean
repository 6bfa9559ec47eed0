/- SqA: texts of queue's claims, merged (a claim may hold few texts) -/
import Derived.Test.YtpbheicfplpemaaGreatQuLook
import Derived.Test.YtpbheicfplpemaaGreatQaA
import Derived.Deep.RegionHeld3
import Derived.Laws.Externs
import Derived.Laws.Cover3
import Derived.Shelf.SlMaps.Clone
import Derived.Test.YtpbheicfplpemaaGreatQuOuts
import Derived.Deep.CutRange
namespace Go.Proofs.YtpbheicfplpemaaGreat
open Go.RowKit

set_option maxRecDepth 20000 in
set_option maxHeartbeats 4000000 in
theorem putT (w : World) (q : Nat) (most grace next : Int) (wv : Value) (ts : List Tk) (O T : Nat) (om : Int → Option Ot) (tm : ByteArray → Option Int) (h : QS w q most grace next wv ts O T om tm) (key sticky : ByteArray) (ready x : Int) (hn : tm key = some x) :
    Calls Tryz.prog 13 #[.pointer (some ⟨q, 0, none⟩), .string key, .string sticky, .int .i64 ready] w fun e w' => e = .returned (.int .i64 6) ∧ Below w.heap.size w w' := by
  obtain ⟨A0, c0, rfl⟩ := own_slice' h.row
  obtain ⟨q0, _, q2, q3, _, q5⟩ := h.cells
  have HM := Lib.hid (made1 w q next h.pos q2)
  obtain ⟨nT, hT⟩ := h.there
  have hlk := lookS hT key true
  rw [hn] at hlk
  simp only [Option.getD_some, Option.isSome_some, if_true] at hlk
  clear h hT hn
  go_enter Tryz.func13, Tryz.ntmps13
  go_wp2_with (go_at_call 39; refine HM.out.mono ?_; rintro e w' ⟨rfl, rfl⟩)
  go_ret
  exact ⟨rfl, Below.refl _ _⟩
set_option maxRecDepth 20000 in
theorem newB (w : World) (most grace : Int) (h : most < 1 ∨ ¬ most < 1 ∧ 4096 < most ∨ (¬ most < 1 ∧ ¬ 4096 < most) ∧ grace < 0) : Calls Tryz.prog 10 #[.int .i64 most, .int .i64 grace] w fun e w' => e = .returned (.tuple #[.pointer none, .int .i64 1]) ∧ w' = w := by
  rcases h with h1 | ⟨h1, h2⟩ | ⟨⟨h1, h2⟩, h3⟩
  all_goals
    go_enter Tryz.func10, Tryz.ntmps10
    go_wp2_with fail
    go_ret2
    exact ⟨rfl, rfl⟩
set_option maxRecDepth 20000 in
set_option maxHeartbeats 4000000 in
theorem putF (w : World) (q : Nat) (most grace next : Int) (wv : Value) (ts : List Tk) (O T : Nat) (om : Int → Option Ot) (tm : ByteArray → Option Int) (h : QS w q most grace next wv ts O T om tm) (key sticky : ByteArray) (ready : Int) (hn : tm key = none) (hm : ¬ (ts.length : Int) < most) :
    Calls Tryz.prog 13 #[.pointer (some ⟨q, 0, none⟩), .string key, .string sticky, .int .i64 ready] w fun e w' => e = .returned (.int .i64 7) ∧ Below w.heap.size w w' := by
  obtain ⟨A0, c0, rfl⟩ := own_slice' h.row
  obtain ⟨q0, _, q2, q3, _, q5⟩ := h.cells
  have HM := Lib.hid (made1 w q next h.pos q2)
  obtain ⟨nT, hT⟩ := h.there
  have hlk : (Instr.lookup 79 (.map (some T)) (.string key) true).run Tryz.prog w = .ok (.tuple #[.int .i64 0, .bool false]) w := by
    have := MapIs.lookup (t := 79) (e := 3) hT (str_keys Tryz.underlying9) Tryz.underlying79 (zeroIntE _) key true
    unfold sV at this
    rw [hn] at this
    exact this
  have hge : decide (most ≤ (ts.length : Int)) = true := decide_eq_true (by omega)
  clear h hT hn
  go_enter Tryz.func13, Tryz.ntmps13
  go_wp2_with (go_at_call 39; refine HM.out.mono ?_; rintro e w' ⟨rfl, rfl⟩)
  go_quiet (fail)
  have hB := below_drewN' (Below.refl w'.heap.size w') nq
  go_wp2_with fail
  go_ret
  exact ⟨rfl, hB⟩
set_option maxRecDepth 20000 in
theorem pollA (w : World) (q : Nat) (most grace next : Int) (wv : Value) (ts : List Tk) (O T : Nat) (om : Int → Option Ot) (tm : ByteArray → Option Int) (h : QS w q most grace next wv ts O T om tm) (who : ByteArray) (now lease : Int) (hl : lease < 1) :
    Calls Tryz.prog 14 #[.pointer (some ⟨q, 0, none⟩), .string who, .int .i64 now, .int .i64 lease] w fun e w' => e = .returned (.tuple #[.string ⟨#[]⟩, .int .i64 0, .int .i64 0, .int .i64 1]) ∧ Below w.heap.size w w' := by
  obtain ⟨_, _, c2, _, _, _⟩ := h.cells
  have hb := Below.new3 w (.cells #[.pointer (some ⟨q, 0, none⟩)] 24) (.cells #[.string who] 9) (.cells #[.int .i64 now] 2)
  obtain ⟨_, _, c2, _, _, _⟩ := (h.bel hb).cells
  have hM := Lib.hid (made1 _ q next h.pos c2)
  have HB := Lib.hid hb
  have hq1 : decide (lease < 1) = true := decide_eq_true hl
  clear h hb
  go_enter Tryz.func14, Tryz.ntmps14
  go_wp2_with (go_at_call 39; refine hM.out.mono ?_; rintro e w' ⟨rfl, rfl⟩)
  refine bodyPost_ret (results_tmp4 rfl _ _ _) rfl ?_
  exact ⟨rfl, HB.out⟩
end Go.Proofs.YtpbheicfplpemaaGreat

namespace Go.Proofs.YtpbheicfplpemaaGreat
open Go.RowKit

def isKey (key : ByteArray) (t : Tk) : Bool := decide (t.key = key)
theorem str_ne2 {a b : ByteArray} (h : a ≠ b) : (a.toList == b.toList) = false := by
  rw [beq_eq_false_iff_ne]
  intro e
  apply h
  rw [ByteArray.toList_eq, ByteArray.toList_eq] at e
  cases a; cases b
  simp at e
  simp [e]
set_option maxRecDepth 20000 in
theorem dropC (X : World) (bk : Nat) (key : ByteArray) (hc : X.cell? ⟨bk, 0, none⟩ = some (.string key)) (t : Tk) :
    Calls Tryz.prog 50 #[tkV t, .pointer (some ⟨bk, 0, none⟩)] X fun e w' => e = .returned (.bool (isKey key t)) ∧ Below X.heap.size X w' := by
  have n1 := World.new_ne X _ hc
  have lx1 := World.block_lt_of_cell? X _ hc
  simp only at n1 lx1
  unfold tkV
  by_cases hk : t.key = key
  · have e : isKey key t = true := decide_eq_true hk
    rw [hk, e]
    go_enter Tryz.func50, Tryz.ntmps50
    go_wp2_with fail
    go_ret
    exact ⟨rfl, Below.new _ _⟩
  · have hq := str_ne2 hk
    have e : isKey key t = false := decide_eq_false hk
    rw [e]
    go_enter Tryz.func50, Tryz.ntmps50
    go_wp2_with fail
    go_ret
    exact ⟨rfl, Below.new _ _⟩
set_option maxRecDepth 20000 in
set_option maxHeartbeats 4000000 in
theorem indexD (w : World) (g cap bk : Nat) (ts : List Tk) (h : w.ownsRow 0 85 4 (.slice (some ⟨g, 0, none⟩) ts.length cap) ts.length (ts.flatMap tkC)) (hf : ts.length ≤ 100000) (key : ByteArray) (hc : w.cell? ⟨bk, 0, none⟩ = some (.string key)) (hbk : bk < w.heap.size) (n : Nat) (hn : n < ts.length) (h1 : ∀ j, j < n → isKey key (gT ts j) = false) (h2 : isKey key (gT ts n) = true) :
    Calls Tryz.prog 44 #[.slice (some ⟨g, 0, none⟩) ts.length cap, .func (.func 50) #[] #[.pointer (some ⟨bk, 0, none⟩)]] w fun e w' => e = .returned (.int .i64 (n : Int)) ∧ Below w.heap.size w w' := by
  have HH := Lib.hid h
  have H1 := Lib.hid h1
  have H2 := Lib.hid h2
  have HC : Hid (∀ X, Below w.heap.size w X → ∀ t, Calls Tryz.prog 50 #[tkV t, .pointer (some ⟨bk, 0, none⟩)] X fun e w' => e = .returned (.bool (isKey key t)) ∧ Below X.heap.size X w') := Lib.hid (fun X hX t => dropC X bk key ((hX.cell (p := ⟨bk, 0, none⟩) hbk).trans hc) t)
  clear h h1 h2 hc
  go_enter Tryz.func44, Tryz.ntmps44
  go_wp2_with fail
  go_loopw [8] (fun iv wr => ∃ i : Nat, i ≤ n ∧ iv = .int .i64 (i : Int) ∧ Hid (Below w.heap.size w wr)) (fun iv _ => ts.length - (intOf iv).toNat)
  case atStart => exact ⟨0, by omega, rfl, Lib.hid (Below.refl _ _)⟩
  case round =>
    obtain ⟨i, hi, rfl, hB⟩ := hrel
    have hlt : i < ts.length := by omega
    have hlt1 : (i : Int) < (ts.length : Int) := by omega
    have hrow := own_turns HH.out (.of_below (S := fun _ => False) hB.out) (fun _ _ => id)
    obtain ⟨d0, d1, d2, d3⟩ := gT_cells hrow rfl i hlt
    have hc := Lib.hid (HC.out wr hB.out (gT ts i))
    unfold tkV at hc
    obtain ⟨g', cap', e, _, hg, hnc, hcm⟩ := own_at hrow (by omega)
    injection e with e1 _ e3
    injection e1 with e1
    injection e1 with e1
    subst e1 e3
    clear hrow
    by_cases hin : i = n
    · subst hin
      rw [H2.out] at hc
      go_wp2_with fail
      refine hc.out.mono ?_
      rintro e w2 ⟨rfl, hb2⟩
      have HB2 := Lib.hid (below_trans' hB.out hb2)
      clear hb2 hc
      go_wp2_with fail
      go_ret
      exact ⟨rfl, HB2.out⟩
    · rw [H1.out i (by omega)] at hc
      go_wp2_with fail
      refine hc.out.mono ?_
      rintro e w2 ⟨rfl, hb2⟩
      have HB2 := Lib.hid (below_trans' hB.out hb2)
      clear hb2 hc
      go_wp2_with fail
      go_roundw
      case measure => simp only [intOf]; omega
      case rel => exact ⟨i + 1, by omega, by go_num, HB2⟩
/-- the row under way: what stays, each at its new place, up to k; behind it as it was -/
def midL (ts : List Tk) (i k : Nat) : List Tk := (ts.eraseIdx i).take k ++ ts.drop k
theorem midL_len {ts : List Tk} {i k : Nat} (hi : i < ts.length) (hk : k < ts.length) : (midL ts i k).length = ts.length := by
  unfold midL
  rw [List.length_append, List.length_take, List.length_drop, List.length_eraseIdx, if_pos hi]
  omega
theorem midL_at {ts : List Tk} {i : Nat} (hi : i < ts.length) : midL ts i i = ts := by
  unfold midL
  rw [List.eraseIdx_eq_take_drop_succ, List.take_append_of_le_length (by rw [List.length_take]; omega), List.take_take, Nat.min_self, List.take_append_drop]
theorem midL_get {ts : List Tk} {i k j : Nat} (hi : i < ts.length) (hj : j < ts.length) (hk : k ≤ j) : (midL ts i k)[j]? = some ts[j] := by
  unfold midL
  have hl : ((ts.eraseIdx i).take k).length = k := by rw [List.length_take, List.length_eraseIdx, if_pos hi]; omega
  rw [List.getElem?_append_right (by omega), hl, List.getElem?_drop, show k + (j - k) = j from by omega, List.getElem?_eq_getElem hj]
theorem midL_step {ts : List Tk} {i k : Nat} (hi : i < ts.length) (hik : i ≤ k) (hk : k + 1 < ts.length) : (midL ts i k).set k ts[k + 1] = midL ts i (k + 1) := by
  unfold midL
  have hl : ((ts.eraseIdx i).take k).length = k := by rw [List.length_take, List.length_eraseIdx, if_pos hi]; omega
  have he : k < (ts.eraseIdx i).length := by rw [List.length_eraseIdx, if_pos hi]; omega
  rw [List.set_append_right _ _ (by omega), hl, Nat.sub_self, List.drop_eq_getElem_cons (by omega : k < ts.length), List.set_cons_zero, List.take_succ_eq_append_getElem he, List.append_assoc]
  congr 1
  rw [List.getElem_eraseIdx_of_ge _ hik]
  rfl
theorem own_cell4 {w : World} {base n g cap size : Nat} {e : TypeId} {xs : List Value} (h : w.ownsRow base e size (.slice (some ⟨g, 0, none⟩) n cap) n xs) {j : Nat} (hj : j < n * size) : ∃ u, w.cell? ⟨g, j, none⟩ = some u := by
  have := h.cellAt j hj
  have hl : j < xs.length := by have := h.1; omega
  rw [List.getElem?_eq_getElem hl] at this
  exact ⟨_, this⟩
theorem flat_set4 (l : List Tk) (i : Nat) (hi : i < l.length) (t : Tk) : ((((l.flatMap tkC).set (i * 4) (.string t.key)).set (i * 4 + 1) (.string t.sticky)).set (i * 4 + 2) (.int .i64 t.ready)).set (i * 4 + 3) (.int .i64 t.att) = (l.set i t).flatMap tkC := by
  obtain ⟨A, B, hA, h1, h2⟩ := flat_split tkC 4 tkC_len l i hi
  rw [h1, h2 t, set_at0 hA, set_at hA, set_at hA, set_at hA]
  rfl
theorem midL_take {ts : List Tk} {i k : Nat} (hi : i < ts.length) (hk : k + 1 = ts.length) : (midL ts i k).take k = ts.eraseIdx i := by
  unfold midL
  have hl : (ts.eraseIdx i).length = k := by rw [List.length_eraseIdx, if_pos hi]; omega
  rw [List.take_of_length_le (l := ts.eraseIdx i) (by omega), ← hl, List.take_left']
  rfl
theorem setL_take : ∀ (vs xs : List Value) (k j : Nat), k ≤ j → (setL xs j vs).take k = xs.take k
  | [], _, _, _, _ => rfl
  | v :: r, xs, k, j, h => by rw [setL, setL_take r _ k (j + 1) (by omega), List.take_set_of_le h]
set_option maxRecDepth 20000 in
set_option maxHeartbeats 8000000 in
theorem delF (w : World) (g cap bk : Nat) (ts : List Tk) (h : w.ownsRow 0 85 4 (.slice (some ⟨g, 0, none⟩) ts.length cap) ts.length (ts.flatMap tkC)) (hf : ts.length ≤ 100000) (key : ByteArray) (hc : w.cell? ⟨bk, 0, none⟩ = some (.string key)) (hbk : bk < w.heap.size) (hgb : g ≠ bk) (n : Nat) (hn : n < ts.length) (hnd : ∀ j (hj : j < ts.length), isKey key ts[j] = decide (j = n)) :
    Calls Tryz.prog 49 #[.slice (some ⟨g, 0, none⟩) ts.length cap, .func (.func 50) #[] #[.pointer (some ⟨bk, 0, none⟩)]] w fun e w' => e = .returned (.slice (some ⟨g, 0, none⟩) (ts.length - 1) cap) ∧ w'.ownsRow 0 85 4 (.slice (some ⟨g, 0, none⟩) (ts.length - 1) cap) (ts.length - 1) ((ts.eraseIdx n).flatMap tkC) ∧ Turns (fun j => j = g) w w' := by
  have hI := Lib.hid (indexD w g cap bk ts h hf key hc hbk n hn (fun j hj => by rw [gT_of (by omega), hnd j (by omega)]; exact decide_eq_false (by omega)) (by rw [gT_of hn, hnd n hn]; exact decide_eq_true rfl))
  have HH := Lib.hid h
  have HND := Lib.hid hnd
  have HC := Lib.hid hc
  obtain ⟨g', cap', e, _, hgl, hnc, hcm⟩ := own_at h (by omega)
  injection e with e1 _ e3
  injection e1 with e1
  injection e1 with e1
  subst e1 e3
  unfold maxLen at hcm
  clear h hc hnd
  go_enter Tryz.func49, Tryz.ntmps49
  go_wp2_with fail
  refine hI.out.mono ?_
  rintro e w1 ⟨rfl, hb⟩
  have HB := Lib.hid hb
  have hne : ((n : Int) == -1) = false := by rw [beq_eq_false_iff_ne]; omega
  clear hb hI
  go_wp2_with fail
  have hR0 := own_turns HH.out (.of_below (S := fun _ => False) HB.out) (fun _ _ => id)
  rw [← midL_at hn] at hR0
  have hR0' : w1.ownsRow 0 85 4 (.slice (some ⟨g, 0, none⟩) ts.length cap) ts.length ((midL ts n n).flatMap tkC) := by
    have e := midL_len hn hn
    rw [midL_at hn] at hR0 ⊢
    exact hR0
  have HR0 := Lib.hid hR0'
  have HT0 := Lib.hid (Turns.of_below (S := fun j => j = g) HB.out)
  clear hR0 hR0'
  obtain ⟨m, hm⟩ : ∃ m, ts.length = m := ⟨_, rfl⟩
  have HM := Lib.hid hm
  rw [hm] at HR0 hnc hf hn ⊢
  clear hm
  go_loopw [5, 6] (fun iv jv wr => ∃ k : Nat, n ≤ k ∧ k + 1 ≤ m ∧ iv = .int .i64 (k : Int) ∧ jv = .int .i64 ((k : Int) + 1) ∧ Hid (wr.ownsRow 0 85 4 (.slice (some ⟨g, 0, none⟩) m cap) m ((midL ts n k).flatMap tkC)) ∧ Hid (Turns (fun j => j = g) w wr)) (fun iv _ _ => m - (intOf iv).toNat)
  case atStart => exact ⟨n, by omega, by omega, rfl, by go_num, HR0, HT0⟩
  case round =>
    clear HR0 HT0
    obtain ⟨k, hnk, hkm, rfl, rfl, HR, HT⟩ := hrel
    have hkey : Hid (wr.cell? ⟨bk, 0, none⟩ = some (.string key)) := Lib.hid ((HT.out.cell (p := ⟨bk, 0, none⟩) hbk (fun e => hgb e.symm)).trans HC.out)
    by_cases hlt : k + 1 < m
    · have hlt1 : (k : Int) + 1 < (m : Int) := by omega
      have hkt : k + 1 < ts.length := by rw [HM.out]; exact hlt
      have hx : ∀ j, j < 4 → wr.cell? ⟨g, (k + 1) * 4 + j, none⟩ = (tkC ts[k + 1])[j]? := fun j hj => by
        rw [HR.out.cellAt _ (by omega), flat_get tkC 4 tkC_len _ _ _ hj, midL_get (by rw [HM.out]; exact hn) hkt (by omega)]
        rfl
      have d0 := hx 0 (by omega)
      have d1 := hx 1 (by omega)
      have d2 := hx 2 (by omega)
      have d3 := hx 3 (by omega)
      have hf0 : isKey key ts[k + 1] = false := by rw [HND.out (k + 1) hkt]; exact decide_eq_false (by omega)
      have HSt := Lib.hid (midL_step (ts := ts) (i := n) (k := k) (by rw [HM.out]; exact hn) hnk hkt)
      have HMl : Hid (k < (midL ts n k).length) := Lib.hid (by rw [midL_len (by rw [HM.out]; exact hn) (by omega), HM.out]; omega)
      clear hx
      generalize ts[k + 1] = y at *
      clear hkt
      simp only [tkC, List.getElem?_cons_succ, List.getElem?_cons_zero, Nat.add_zero] at d0 d1 d2 d3
      have e1 : ((k : Int) + 1).toNat = k + 1 := by omega
      have e2 : (0 : Int) ≤ (k : Int) + 1 := by omega
      have e3 : (k : Int) + 1 ≤ 100000 := by omega
      have KX := Lib.hid (Blk.new wr 85 [.string y.key, .string y.sticky, .int .i64 y.ready, .int .i64 y.att])
      have BX := Lib.hid (Below.new wr (.cells #[.string y.key, .string y.sticky, .int .i64 y.ready, .int .i64 y.att] 85))
      have HRX := Lib.hid (own_turns HR.out (.of_below (S := fun _ => False) BX.out) (fun _ _ => id))
      have hbl : wr.heap.size ≠ g := by have := (own_lt HR.out (g := g) rfl).2; omega
      have hkl : bk < wr.heap.size := by have := HT.out.size; omega
      have HCX := Lib.hid (dropC (wr.alloc (.cells #[.string y.key, .string y.sticky, .int .i64 y.ready, .int .i64 y.att] 85)) bk key ((BX.out.cell (p := ⟨bk, 0, none⟩) hkl).trans hkey.out) y)
      rw [hf0] at HCX
      have HTX := Lib.hid (HT.out.then (Turns.of_below BX.out))
      unfold tkV at HCX
      clear hf0
      go_upto_region 8 with (fail)
      clear d0 d1 d2 d3
      generalize wr.alloc (.cells #[.string y.key, .string y.sticky, .int .i64 y.ready, .int .i64 y.att] 85) = X at *
      generalize wr.heap.size = bx at *
      have u0 := KX.out.cell 0
      have u1 := KX.out.cell 1
      have u2 := KX.out.cell 2
      have u3 := KX.out.cell 3
      simp only [List.getElem?_cons_succ, List.getElem?_cons_zero] at u0 u1 u2 u3
      go_wp2_with fail
      refine HCX.out.mono ?_
      rintro e X2 ⟨rfl, hb2⟩
      have HR2 := Lib.hid (own_turns HRX.out (.of_below (S := fun _ => False) hb2) (fun _ _ => id))
      have HK2 := Lib.hid (KX.out.bel hb2)
      have HT2 := Lib.hid (HTX.out.then (Turns.of_below hb2))
      clear hb2 HCX u0 u1 u2 u3
      have u0 := HK2.out.cell 0
      have u1 := HK2.out.cell 1
      have u2 := HK2.out.cell 2
      have u3 := HK2.out.cell 3
      simp only [List.getElem?_cons_succ, List.getElem?_cons_zero] at u0 u1 u2 u3
      obtain ⟨v0, c0⟩ := own_cell4 HR2.out (j := k * 4) (by omega)
      obtain ⟨v1, c1⟩ := own_cell4 HR2.out (j := k * 4 + 1) (by omega)
      obtain ⟨v2, c2⟩ := own_cell4 HR2.out (j := k * 4 + 2) (by omega)
      obtain ⟨v3, c3⟩ := own_cell4 HR2.out (j := k * 4 + 3) (by omega)
      have z0 := HR2.out.frozenAt (k * 4)
      have z1 := HR2.out.frozenAt (k * 4 + 1)
      have z2 := HR2.out.frozenAt (k * 4 + 2)
      have z3 := HR2.out.frozenAt (k * 4 + 3)
      have hgbx : g ≠ bx := Ne.symm hbl
      go_wp2_with fail
      clear u0 u1 u2 u3 c0 c1 c2 c3 z0 z1 z2 z3
      refine ⟨⟨k + 1, by omega, by omega, by go_num, by go_num, Lib.hid ?_, Lib.hid ?_⟩, by simp only [intOf]; omega⟩
      · have h0 := (HR2.out.stored (k * 4) (.string y.key)).1
        have h1 := (h0.stored (k * 4 + 1) (.string y.sticky)).1
        have h2 := (h1.stored (k * 4 + 2) (.int .i64 y.ready)).1
        have h3 := (h2.stored (k * 4 + 3) (.int .i64 y.att)).1
        rw [flat_set4 _ _ HMl.out, HSt.out] at h3
        exact h3
      · exact (((HT2.out.then (Turns.of_set _ _ _ rfl)).then (Turns.of_set _ _ _ rfl)).then (Turns.of_set _ _ _ rfl)).then (Turns.of_set _ _ _ rfl)
    · obtain rfl : m = k + 1 := by omega
      have hlt1 : ¬ (k : Int) + 1 < ((k + 1 : Nat) : Int) := by omega
      have hlt2 : k ≤ k + 1 := by omega
      have hkc : k ≤ cap := by omega
      have hcl : ∀ ty, (Builtin.clear_ #[80] ty #[.slice (some ⟨g, k * 4, none⟩) 1 (cap - k)]).run Tryz.prog wr = .ok (.tuple #[]) (wr.setCells g (k * 4) Z4) := fun ty =>
        run_clear4 wr ty g _ _ _ rfl (fun j' hj' => by
          obtain ⟨u, hu⟩ := own_cell4 HR.out (j := k * 4 + j') (by omega)
          rw [hu]
          rfl) (fun j' hj' => HR.out.frozenAt _)
      clear hkey
      go_wp2_with fail
      go_ret
      have hr := own_setCells Z4 _ (k * 4) _ HR.out
      have ht := own_take (m := k) hr (by omega)
      rw [HM.out]
      refine ⟨rfl, ?_, HT.out.then (turns_setCells _ _ _)⟩
      rw [setL_take _ _ _ _ (Nat.le_refl _), flat_take tkC 4 tkC_len, midL_take (by rw [HM.out]; exact hn) HM.out.symm] at ht
      exact ht
end Go.Proofs.YtpbheicfplpemaaGreat

namespace Go.Proofs.YtpbheicfplpemaaGreat
open Go.RowKit

set_option maxRecDepth 20000 in
set_option maxHeartbeats 8000000 in
theorem dropQ0 (w : World) (q : Nat) (most grace next : Int) (wv : Value) (ts : List Tk) (O T : Nat) (om : Int → Option Ot) (tm : ByteArray → Option Int) (h : QS w q most grace next wv ts O T om tm) (key : ByteArray) (hk : tm key = none) :
    Calls Tryz.prog 15 #[.pointer (some ⟨q, 0, none⟩), .string key] w fun e w' => e = .returned (.bool false) ∧ Below w.heap.size w w' := by
  have hbX := Below.new w (.cells #[.string key] 9)
  have KX := (Blk.new w 9 [.string key]).cell 0
  have HX := h.bel hbX
  obtain ⟨_, _, k2, _, _, k5⟩ := HX.cells
  have HM := Lib.hid (made1 (w.alloc (.cells #[.string key] 9)) q next h.pos k2)
  obtain ⟨nT, hT⟩ := HX.there
  have HLK := Lib.hid (fun n : Nat => lookS (hT.below (below_drewN' (Below.refl _ _) n)) key true)
  rw [hk] at HLK
  simp only [Option.getD_none, Option.isSome_none, if_true] at HLK
  have BX := Lib.hid hbX
  simp only [List.getElem?_cons_zero] at KX
  have k5 := Lib.hid k5
  have KX := Lib.hid KX
  clear h hT HX hk k2 hbX
  go_enter Tryz.func15, Tryz.ntmps15
  go_upto_region 1 with (fail)
  have k5 := k5.out
  have KX := KX.out
  have HLK := HLK.out
  generalize w.alloc (.cells #[.string key] 9) = X at *
  generalize hb0 : w.heap.size = b0 at *
  have HB0 := Lib.hid hb0
  clear hb0
  go_upto_region 3 with (go_at_call 39; refine HM.out.mono ?_; rintro e w' ⟨rfl, rfl⟩)
  go_quiet (fail)
  have h3d := Lib.hid (below_drewN' (Below.refl w'.heap.size w') nq)
  go_wp2_with fail
  go_ret
  exact ⟨rfl, by have hb := BX.out.trans (h3d.out.mono (HB0.out ▸ BX.out.size)); rwa [← HB0.out] at hb⟩
set_option maxRecDepth 20000 in
set_option maxHeartbeats 8000000 in
theorem dropQ1 (w : World) (q : Nat) (most grace next : Int) (wv : Value) (ts : List Tk) (O T : Nat) (om : Int → Option Ot) (tm : ByteArray → Option Int) (h : QS w q most grace next wv ts O T om tm) (key : ByteArray) (x : Int) (hk : tm key = some x) (hx : 0 < x) :
    Calls Tryz.prog 15 #[.pointer (some ⟨q, 0, none⟩), .string key] w fun e w' => e = .returned (.bool true) ∧ QS w' q most grace next wv ts O T (wipI om x) (wipS tm key) ∧ Turns (QSet q wv O T) w w' := by
  have hbX := Below.new w (.cells #[.string key] 9)
  have KX := (Blk.new w 9 [.string key])
  have HX := h.bel hbX
  obtain ⟨_, _, k2, _, _, k5⟩ := HX.cells
  have HM := Lib.hid (made1 (w.alloc (.cells #[.string key] 9)) q next h.pos k2)
  obtain ⟨nT, hT⟩ := HX.there
  obtain ⟨nO, hO⟩ := HX.outs
  have HLK := Lib.hid (fun n : Nat => lookS (hT.below (below_drewN' (Below.refl _ _) n)) key true)
  rw [hk] at HLK
  simp only [Option.getD_some, Option.isSome_some, if_true] at HLK
  have hOq : O ≠ q := hO.ne_cells HX.blk
  have hTq : T ≠ q := hT.ne_cells HX.blk
  have HQ := Lib.hid (show ∀ j, QSet q wv O T j → j < w.heap.size from h.lts)
  have BX := Lib.hid hbX
  have k5 := Lib.hid k5
  have KX := Lib.hid KX
  have HX := Lib.hid HX
  have HO := Lib.hid hO
  have HT := Lib.hid hT
  have hg : decide (0 < x) = true := decide_eq_true hx
  clear h hT hO hk k2 hbX
  go_enter Tryz.func15, Tryz.ntmps15
  go_upto_region 1 with (fail)
  have k5 := k5.out
  have k0 := KX.out.cell 0
  simp only [List.getElem?_cons_zero] at k0
  have HLK := HLK.out
  generalize w.alloc (.cells #[.string key] 9) = X at *
  generalize hb0 : w.heap.size = b0 at *
  have HB0 := Lib.hid hb0
  clear hb0
  have hqb : q < b0 := HQ.out q (.inl rfl)
  have hOb : O < b0 := HQ.out O (.inr (.inl rfl))
  have hTb : T < b0 := HQ.out T (.inr (.inr (.inl rfl)))
  go_upto_region 3 with (go_at_call 39; refine HM.out.mono ?_; rintro e w' ⟨rfl, rfl⟩)
  go_quiet (fail)
  clear HLK k5 k0
  have h3d := below_drewN' (Below.refl w'.heap.size w') nq
  have HX3 := Lib.hid (HX.out.bel h3d)
  have KX3 := Lib.hid (KX.out.bel h3d)
  have HT3 := Lib.hid (HT.out.below h3d)
  have HO3 := Lib.hid (HO.out.below h3d)
  have B3 := Lib.hid (BX.out.trans (h3d.mono (HB0.out ▸ BX.out.size)))
  clear h3d HX KX HT HO BX HM
  generalize w'.drewN nq = Y at *
  obtain ⟨_, _, _, _, _, k5⟩ := HX3.out.cells
  have k0 := KX3.out.cell 0
  simp only [List.getElem?_cons_zero] at k0
  go_upto_region 6 with (fail)
  refine wp_tail 5 (by kernel_rfl) (by kernel_rfl) ?_
  simp only [List.take_succ_cons, List.take_zero, List.drop_succ_cons, List.drop_zero]
  repeat still_step
  refine wpStill_nil ?_
  refine wpl_delete (w := Y.drew) rfl _ _ 79 9 rfl (str_keys Tryz.underlying9) Tryz.underlying79 (HT3.out.below (below_drewN' (Below.refl _ _) 1)) key rfl rfl ?_
  intro w4 hm4 ht4
  have TT := Turns.of_map (S := fun j => j = T) ht4 rfl
  have O4 := Lib.hid ((HO3.out.below (below_drewN' (Below.refl _ _) 1)).turns TT HX3.out.ne)
  have HM4 := Lib.hid hm4
  have hT4 := ((Turns.refl (fun j => j = T) Y).drewN 1).then TT
  have T4 := Lib.hid hT4
  have HB4 := HX3.out.blk.turns hT4 (Ne.symm hTq)
  have R4 := Lib.hid (own_turns HX3.out.row hT4 (fun g' hg' e => own_ne_map HX3.out.row hg' HT3.out e))
  have k4 := HB4.cell 4
  have B4 := Lib.hid HB4
  simp only [List.getElem?_cons_succ, List.getElem?_cons_zero] at k4
  have HO := HO3
  clear hm4 ht4 TT hT4 HB4 k5 k0 HT3 HO3 KX3
  go_wp2_with (at_delete; refine wpl_delete (w := w4) rfl _ _ 78 3 rfl (int_keys Tryz.underlying3) Tryz.underlying78 O4.out x rfl rfl ?_; intro w5 hm5 ht5; have TO := Lib.hid (Turns.of_map (S := fun j => j = O) ht5 rfl); have HM5 := Lib.hid hm5; clear hm5 ht5)
  go_ret
  have hm5 := HM5.out
  rw [oV_wip] at hm5
  have hm4 := HM4.out.turns TO.out (fun e => HX3.out.ne e.symm)
  rw [sV_wip] at hm4
  have ht : Turns (QSet q wv O T) w Y := by
    have hb := B3.out
    rw [← HB0.out] at hb
    exact Turns.of_below hb
  refine ⟨rfl, ⟨B4.out.turns TO.out (Ne.symm hOq), own_turns R4.out TO.out (fun g' hg' e => own_ne_map HX3.out.row hg' HO.out e), ⟨_, hm5⟩, ⟨_, hm4⟩, HX3.out.ne, HX3.out.few, HX3.out.pos, HX3.out.nxl⟩, ?_⟩
  have t1 := (T4.out.mono (T := QSet q wv O T) (fun _ _ e => .inr (.inr (.inl e)))).then (TO.out.mono (fun _ _ e => .inr (.inl e)))
  exact ht.then t1
set_option maxRecDepth 20000 in
set_option maxHeartbeats 8000000 in
theorem dropQ2 (w : World) (q : Nat) (most grace next : Int) (wv : Value) (ts : List Tk) (O T : Nat) (om : Int → Option Ot) (tm : ByteArray → Option Int) (h : QS w q most grace next wv ts O T om tm) (key : ByteArray) (x : Int) (hk : tm key = some x) (hx : ¬ 0 < x) (n : Nat) (hn : n < ts.length) (hnd : ∀ j (hj : j < ts.length), isKey key ts[j] = decide (j = n)) :
    Calls Tryz.prog 15 #[.pointer (some ⟨q, 0, none⟩), .string key] w fun e w' => e = .returned (.bool true) ∧ ∃ wv', QS w' q most grace next wv' (ts.eraseIdx n) O T om (wipS tm key) ∧ NextR w wv wv' ∧ Turns (QSet q wv O T) w w' := by
  have hbX := Below.new w (.cells #[.string key] 9)
  have KX := (Blk.new w 9 [.string key])
  have HX := h.bel hbX
  obtain ⟨_, _, k2, _, _, k5⟩ := HX.cells
  have HM := Lib.hid (made1 (w.alloc (.cells #[.string key] 9)) q next h.pos k2)
  obtain ⟨nT, hT⟩ := HX.there
  obtain ⟨nO, hO⟩ := HX.outs
  have HLK := Lib.hid (fun n : Nat => lookS (hT.below (below_drewN' (Below.refl _ _) n)) key true)
  rw [hk] at HLK
  simp only [Option.getD_some, Option.isSome_some, if_true] at HLK
  have hOq : O ≠ q := hO.ne_cells HX.blk
  have hTq : T ≠ q := hT.ne_cells HX.blk
  have HQ := Lib.hid (show ∀ j, QSet q wv O T j → j < w.heap.size from h.lts)
  have BX := Lib.hid hbX
  have k5 := Lib.hid k5
  have KX := Lib.hid KX
  have HX := Lib.hid HX
  have HO := Lib.hid hO
  have HT := Lib.hid hT
  have hg : decide (0 < x) = false := decide_eq_false hx
  obtain ⟨g, cap, rfl, _, hgl, _, _⟩ := own_at h.row (by omega)
  have hgO : g ≠ O := fun e => own_ne_map HX.out.row (g := g) rfl hO (by rw [e])
  have hgT : g ≠ T := fun e => own_ne_map HX.out.row (g := g) rfl hT (by rw [e])
  have hgq : g ≠ q := fun e => own_ne_blk HX.out.row (g := g) rfl HX.out.blk (by decide) e
  clear h hT hO hk k2 hbX
  go_enter Tryz.func15, Tryz.ntmps15
  go_upto_region 1 with (fail)
  have k5 := k5.out
  have k0 := KX.out.cell 0
  simp only [List.getElem?_cons_zero] at k0
  have HLK := HLK.out
  generalize w.alloc (.cells #[.string key] 9) = X at *
  generalize hb0 : w.heap.size = b0 at *
  have HB0 := Lib.hid hb0
  clear hb0
  have hqb : q < b0 := HQ.out q (.inl rfl)
  have hOb : O < b0 := HQ.out O (.inr (.inl rfl))
  have hgb : g < b0 := HQ.out g (.inr (.inr (.inr rfl)))
  have hTb : T < b0 := HQ.out T (.inr (.inr (.inl rfl)))
  go_upto_region 3 with (go_at_call 39; refine HM.out.mono ?_; rintro e w' ⟨rfl, rfl⟩)
  go_quiet (fail)
  clear HLK k5 k0
  have h3d := below_drewN' (Below.refl w'.heap.size w') nq
  have HX3 := Lib.hid (HX.out.bel h3d)
  have KX3 := Lib.hid (KX.out.bel h3d)
  have HT3 := Lib.hid (HT.out.below h3d)
  have HO3 := Lib.hid (HO.out.below h3d)
  have B3 := Lib.hid (BX.out.trans (h3d.mono (HB0.out ▸ BX.out.size)))
  clear h3d HX KX HT HO BX HM
  generalize w'.drewN nq = Y at *
  obtain ⟨_, _, _, _, _, k5⟩ := HX3.out.cells
  have k0 := KX3.out.cell 0
  simp only [List.getElem?_cons_zero] at k0
  go_upto_region 6 with (fail)
  refine wp_tail 5 (by kernel_rfl) (by kernel_rfl) ?_
  simp only [List.take_succ_cons, List.take_zero, List.drop_succ_cons, List.drop_zero]
  repeat still_step
  refine wpStill_nil ?_
  refine wpl_delete (w := Y.drew) rfl _ _ 79 9 rfl (str_keys Tryz.underlying9) Tryz.underlying79 (HT3.out.below (below_drewN' (Below.refl _ _) 1)) key rfl rfl ?_
  intro w4 hm4 ht4
  have TT := Turns.of_map (S := fun j => j = T) ht4 rfl
  have O4 := Lib.hid ((HO3.out.below (below_drewN' (Below.refl _ _) 1)).turns TT HX3.out.ne)
  have HM4 := Lib.hid hm4
  have hT4 := ((Turns.refl (fun j => j = T) Y).drewN 1).then TT
  have T4 := Lib.hid hT4
  have HB4 := HX3.out.blk.turns hT4 (Ne.symm hTq)
  have R4 := Lib.hid (own_turns HX3.out.row hT4 (fun g' hg' e => own_ne_map HX3.out.row hg' HT3.out e))
  have k4 := HB4.cell 3
  have K4 := Lib.hid (KX3.out.turns hT4 (by omega))
  have B4 := Lib.hid HB4
  simp only [List.getElem?_cons_succ, List.getElem?_cons_zero] at k4
  have HO := HO3
  clear hm4 ht4 TT hT4 HB4 k5 k0 HT3 HO3
  clear KX3
  have hD := Lib.hid (delF w4 g cap b0 ts R4.out HX3.out.few key (by have := K4.out.cell 0; simpa using this) K4.out.lt (by omega) n hn hnd)
  go_wp2_with (go_at_call 49; refine hD.out.mono ?_; rintro e w5 ⟨rfl, hr5, ht5⟩; have R5 := Lib.hid hr5; have T5 := Lib.hid ht5; have B5 := Lib.hid (B4.out.turns ht5 (Ne.symm hgq)); clear hr5 ht5 k4; have k4 := B5.out.cell 3; have k4z := B5.out.fz 3; simp only [List.getElem?_cons_succ, List.getElem?_cons_zero] at k4)
  go_ret
  have hm4 := HM4.out.turns T5.out (fun e => hgT e.symm)
  rw [sV_wip] at hm4
  have TS : Turns (fun j => j = q) w5 (w5.setCell ⟨q, 3, none⟩ (.slice (some ⟨g, 0, none⟩) (ts.length - 1) cap)) := (Turns.refl (fun j => j = q) w5).set ⟨q, 3, none⟩ _ (fun _ => rfl)
  have ht : Turns (QSet q (.slice (some ⟨g, 0, none⟩) ts.length cap) O T) w Y := by
    have hb := B3.out
    rw [← HB0.out] at hb
    exact Turns.of_below hb
  have hl : (ts.eraseIdx n).length = ts.length - 1 := List.length_eraseIdx_of_lt hn
  have hr := own_turns R5.out TS (fun g' hg' e => by
    simp only [Value.ownBlock, Option.some.injEq] at hg'
    exact hgq (by omega))
  have hb := B5.out.set 3 (.slice (some ⟨g, 0, none⟩) (ts.length - 1) cap)
  simp only [List.set_cons_succ, List.set_cons_zero] at hb
  refine ⟨rfl, _, ⟨hb, by rw [hl]; exact hr, ⟨_, (O4.out.turns T5.out (Ne.symm hgO)).turns TS hOq⟩, ⟨_, hm4.turns TS hTq⟩, HX3.out.ne, by have := HX3.out.few; omega, HX3.out.pos, HX3.out.nxl⟩, fun _ h => .inl h, ?_⟩
  have t1 := (T4.out.mono (T := QSet q (.slice (some ⟨g, 0, none⟩) ts.length cap) O T) (fun _ _ e => .inr (.inr (.inl e)))).then (T5.out.mono (fun _ _ e => .inr (.inr (.inr (by rw [e]; rfl)))))
  exact (ht.then t1).then (TS.mono (fun _ _ e => .inl e))
end Go.Proofs.YtpbheicfplpemaaGreat

namespace Go.Proofs.YtpbheicfplpemaaGreat
open Go.RowKit

theorem own_empty (w : World) (base : Nat) (e : TypeId) (size : Nat) (hb : base ≤ w.heap.size) : (w.alloc (.cells #[] e)).ownsRow base e size (.slice (some ⟨w.heap.size, 0, none⟩) 0 0) 0 [] := by
  refine ⟨by simp, .inr ⟨w.heap.size, 0, #[], rfl, hb, heap_alloc_new w _, by omega, by unfold maxLen; omega, by simp, by simp⟩⟩
theorem eql_nil (w : World) (a : Option Addr) (l c : Nat) : (binOp .eql 80 (.slice a l c) (.slice none 0 0)).run Tryz.prog w = .ok (.bool a.isNone) w := by
  simp only [binOp]
  simp [run_equal_slice_nil w 80 _ a l c Tryz.underlying80]
set_option maxRecDepth 20000 in
theorem clone_nil (w : World) : Calls Tryz.prog 40 #[.slice none 0 0] w fun e w' => e = .returned (.slice none 0 0) ∧ w' = w := by
  have hq := fun w => eql_nil w none 0 0
  go_enter Tryz.func40, Tryz.ntmps40
  go_wp2_with fail
  go_ret
  exact ⟨rfl, rfl⟩
set_option maxRecDepth 20000 in
set_option maxHeartbeats 4000000 in
theorem clone_own (w : World) (v : Value) (n : Nat) (cs : List Value) (h : w.ownsRow 0 85 4 v n cs) (hone : ∀ u ∈ cs, u.oneCell' = true) (hn : n ≤ 1000000) :
    Calls Tryz.prog 40 #[v] w fun e w' => ∃ v', e = .returned v' ∧ w'.ownsRow w.heap.size 85 4 v' n cs ∧ Below w.heap.size w w' := by
  obtain ⟨i0, hi, hz0, hz1, hz2⟩ := info_parts info_task
  rcases h.2 with ⟨rfl, rfl⟩ | ⟨g, cap, cur, rfl, h3, h4, h5, h6, h7, h8⟩
  · have hcs : cs = [] := List.eq_nil_of_length_eq_zero (by have := h.1; omega)
    subst hcs
    exact (clone_nil w).mono fun e w' ⟨he, hw⟩ => ⟨_, he, by rw [hw]; exact World.ownsRow_nil _ _ _ _, by rw [hw]; exact Below.refl _ _⟩
  · have HO := Lib.hid (own_empty w w.heap.size 85 4 (Nat.le_refl _))
    have hnews : ∀ j u, cs[j]? = some u → (w.alloc (.cells #[] 85)).cell? ((⟨g, 0, none⟩ : Addr).add j) = some u := fun j u hj => by
      have e : (⟨g, 0, none⟩ : Addr).add j = ⟨g, j, none⟩ := by simp [Addr.add]; omega
      rw [e]
      have h' := h.alloc (.cells #[] 85)
      rw [h'.cellAt j (by have := (List.getElem?_eq_some_iff.1 hj).1; have := h.1; omega), hj]
    have HN := Lib.hid hnews
    have HL := Lib.hid h.1
    have HB := Lib.hid (Below.new w (.cells #[] 85))
    have hl1 : Hid (0 + n ≤ maxLen) := Lib.hid (by unfold maxLen; omega)
    have hl2 : Hid ((0 + n) * 48 ≤ 140737488355328) := Lib.hid (by omega)
    have hbs : Hid (w.heap.size ≤ (w.alloc (.cells #[] 85)).heap.size) := Lib.hid (by simp)
    have hq := fun w => eql_nil w (some ⟨g, 0, none⟩) n cap
    clear h h3 h4 h5 h6 h7 h8 hnews
    go_enter Tryz.func40, Tryz.ntmps40
    go_wp2_with (at_builtin; refine wpList_append_own_at _ rfl _ _ 80 rfl w.heap.size 85 i0 _ 4 48 Tryz.underlying80 hi hz0 hz1 hz2 rfl (by decide) _ _ _ rfl HO.out ⟨g, 0, none⟩ n cap cs rfl HL.out HN.out hone hl1.out hl2.out hbs.out ?_; intro v1 y1 hown1 hgr1 _ _)
    go_ret
    rw [Nat.zero_add, List.nil_append] at hown1
    exact ⟨_, rfl, hown1, HB.out.grown hgr1 HB.out.size (fun r e => by injection e with e; exact Nat.le_of_eq e)⟩
set_option maxRecDepth 20000 in
set_option maxHeartbeats 4000000 in
theorem mcloneI (w : World) (M : Nat) (m : Int → Option Value) (n : Nat) (h : MapIs kInt w M m n) :
    Calls Tryz.prog 41 #[.map (some M)] w fun e w' => e = .returned (.map (some w.heap.size)) ∧ MapIs kInt w' w.heap.size m n ∧ Below w.heap.size w w' := by
  obtain ⟨es, clock, hb, hrest⟩ := h
  have HRest := Lib.hid hrest
  have hq := fun w => run_eql_map_nil_sl (P := Tryz.prog) w 78 _ _ (some M) Tryz.underlying78
  clear hrest
  go_enter Tryz.func41, Tryz.ntmps41
  go_wp2_with fail
  rw [run_callFunc_extern Tryz.func82 (by kernel_rfl) (by kernel_rfl) (by kernel_rfl) (e := Extern.MapsClone.clone) (by kernel_rfl), run_maps_clone_sl w 78 hb]
  simp only [Result.andThen]
  rw [Oper.upon_value]
  go_wp2_with fail
  rw [run_typeAssert_map_sl _ 78 _ _ _ _ Tryz.underlying78]
  simp only [Result.andThen]
  rw [Oper.upon_value]
  go_wp2_with fail
  go_ret
  exact ⟨rfl, ⟨es, clock, heap_alloc_new w _, HRest.out⟩, Below.new _ _⟩

set_option maxRecDepth 20000 in
set_option maxHeartbeats 4000000 in
theorem mcloneS (w : World) (M : Nat) (m : ByteArray → Option Value) (n : Nat) (h : MapIs kStr w M m n) :
    Calls Tryz.prog 42 #[.map (some M)] w fun e w' => e = .returned (.map (some w.heap.size)) ∧ MapIs kStr w' w.heap.size m n ∧ Below w.heap.size w w' := by
  obtain ⟨es, clock, hb, hrest⟩ := h
  have HRest := Lib.hid hrest
  have hq := fun w => run_eql_map_nil_sl (P := Tryz.prog) w 79 _ _ (some M) Tryz.underlying79
  clear hrest
  go_enter Tryz.func42, Tryz.ntmps42
  go_wp2_with fail
  rw [run_callFunc_extern Tryz.func82 (by kernel_rfl) (by kernel_rfl) (by kernel_rfl) (e := Extern.MapsClone.clone) (by kernel_rfl), run_maps_clone_sl w 79 hb]
  simp only [Result.andThen]
  rw [Oper.upon_value]
  go_wp2_with fail
  rw [run_typeAssert_map_sl _ 79 _ _ _ _ Tryz.underlying79]
  simp only [Result.andThen]
  rw [Oper.upon_value]
  go_wp2_with fail
  go_ret
  exact ⟨rfl, ⟨es, clock, heap_alloc_new w _, HRest.out⟩, Below.new _ _⟩

end Go.Proofs.YtpbheicfplpemaaGreat

namespace Go.Proofs.YtpbheicfplpemaaGreat
open Go.RowKit

theorem own_base {W : World} {base base' : Nat} {e : TypeId} {size : Nat} {v : Value} {k : Nat} {xs : List Value} (h : W.ownsRow base e size v k xs) (hb : base' ≤ base) : W.ownsRow base' e size v k xs := by
  refine ⟨h.1, ?_⟩
  rcases h.2 with hn | ⟨g, cap, cur, hv, hbg, rest⟩
  · exact .inl hn
  · exact .inr ⟨g, cap, cur, hv, Nat.le_trans hb hbg, rest⟩
def TwinY (w : World) (most grace next : Int) (ts : List Tk) (om : Int → Option Ot) (tm : ByteArray → Option Int) (e : Ending) (w' : World) : Prop :=
  ∃ q' wv' O' T', e = .returned (.pointer (some ⟨q', 0, none⟩)) ∧ QS w' q' most grace next wv' ts O' T' om tm ∧ (∀ i, QSet q' wv' O' T' i → w.heap.size ≤ i) ∧ Below w.heap.size w w'
set_option maxRecDepth 20000 in
set_option maxHeartbeats 8000000 in
theorem twinQ (w : World) (q : Nat) (most grace next : Int) (wv : Value) (ts : List Tk) (O T : Nat) (om : Int → Option Ot) (tm : ByteArray → Option Int) (h : QS w q most grace next wv ts O T om tm) :
    Calls Tryz.prog 12 #[.pointer (some ⟨q, 0, none⟩)] w (TwinY w most grace next ts om tm) := by
  obtain ⟨A0, c0, rfl⟩ := own_slice' h.row
  have HH := Lib.hid h
  obtain ⟨k0, k1, k2, k3, k4, k5⟩ := h.cells
  have HM := Lib.hid (made1 w q next h.pos k2)
  clear h
  go_enter Tryz.func12, Tryz.ntmps12
  go_upto_region 4 with (go_at_call 39; refine HM.out.mono ?_; rintro e w' ⟨rfl, rfl⟩)
  have hbY := Below.new w' (.cells #[.int .i64 most, .int .i64 grace, .int .i64 next, .slice A0 ts.length c0, .map (some O), .map (some T)] 82)
  have KX := Lib.hid (Blk.new w' 82 [.int .i64 most, .int .i64 grace, .int .i64 next, .slice A0 ts.length c0, .map (some O), .map (some T)])
  have HY := Lib.hid (HH.out.bel hbY)
  have BY := Lib.hid hbY
  have hql := HH.out.blk.lt
  have hxs : w'.heap.size < (w'.alloc (.cells #[.int .i64 most, .int .i64 grace, .int .i64 next, .slice A0 ts.length c0, .map (some O), .map (some T)] 82)).heap.size := KX.out.lt
  clear hbY HM k0 k1 k2 k3 k4 k5
  generalize w'.alloc (.cells #[.int .i64 most, .int .i64 grace, .int .i64 next, .slice A0 ts.length c0, .map (some O), .map (some T)] 82) = Y at *
  generalize hx : w'.heap.size = x at *
  have HXE := Lib.hid hx
  clear hx
  have hS : ∀ X, Below Y.heap.size Y X → X.cell? ⟨q, 3, none⟩ = some (.slice A0 ts.length c0) ∧ X.cell? ⟨q, 4, none⟩ = some (.map (some O)) ∧ X.cell? ⟨q, 5, none⟩ = some (.map (some T)) := fun X hX => by
    obtain ⟨_, _, _, k3, k4, k5⟩ := (HY.out.bel hX).cells
    exact ⟨k3, k4, k5⟩
  obtain ⟨k3, k4, k5⟩ := hS Y (Below.refl _ _)
  have HSS := Lib.hid hS
  obtain ⟨nO, hO⟩ := HY.out.outs
  obtain ⟨nT, hT⟩ := HY.out.there
  have hone : ∀ u ∈ ts.flatMap tkC, u.oneCell' = true := fun u hu => by
    obtain ⟨t, _, hx⟩ := List.mem_flatMap.1 hu
    simp [tkC] at hx
    rcases hx with rfl | rfl | rfl | rfl <;> rfl
  have HCL := Lib.hid (show ∀ X, Below Y.heap.size Y X → Calls Tryz.prog 40 #[.slice A0 ts.length c0] X fun e X' => ∃ v', e = .returned v' ∧ X'.ownsRow Y.heap.size 85 4 v' ts.length (ts.flatMap tkC) ∧ Below Y.heap.size Y X' ∧ Below X.heap.size X X' from fun X hX => by
    refine (clone_own X _ ts.length _ (own_turns HY.out.row (.of_below (S := fun _ => False) hX) (fun _ _ => id)) hone (by have := HH.out.few; omega)).mono ?_
    rintro e X' ⟨v', rfl, h1, h2⟩
    exact ⟨v', rfl, own_base h1 hX.size, hX.trans (h2.mono hX.size), h2⟩)
  have HOL := Lib.hid (show ∀ X, Below Y.heap.size Y X → Calls Tryz.prog 41 #[.map (some O)] X fun e X' => ∃ M', e = .returned (.map (some M')) ∧ MapIs kInt X' M' (oV om) nO ∧ Y.heap.size ≤ M' ∧ Below Y.heap.size Y X' ∧ Below X.heap.size X X' from fun X hX => by
    refine (mcloneI X O _ nO (hO.below hX)).mono ?_
    rintro e X' ⟨rfl, h1, h2⟩
    exact ⟨_, rfl, h1, hX.size, hX.trans (h2.mono hX.size), h2⟩)
  have HTL := Lib.hid (show ∀ X, Below Y.heap.size Y X → Calls Tryz.prog 42 #[.map (some T)] X fun e X' => ∃ M', e = .returned (.map (some M')) ∧ MapIs kStr X' M' (sV tm) nT ∧ X.heap.size ≤ M' ∧ Below Y.heap.size Y X' ∧ Below X.heap.size X X' from fun X hX => by
    refine (mcloneS X T _ nT (hT.below hX)).mono ?_
    rintro e X' ⟨rfl, h1, h2⟩
    exact ⟨_, rfl, h1, Nat.le_refl _, hX.trans (h2.mono hX.size), h2⟩)
  have HB0 := Lib.hid (below_drewN' (Below.refl Y.heap.size Y) 1)
  clear hS hO hT hone
  go_region_law (go_simp; (first | (go_at_call 40; refine (HCL.out _ (by first | exact HB0.out | exact HCB.out | exact HOB.out)).mono ?_; rintro e X1 ⟨vc, rfl, d1, d2, d3⟩; obtain ⟨Ac, kc, rfl⟩ := own_slice' d1; have HCR := Lib.hid d1; have HCB := Lib.hid d2; have HCX := Lib.hid d3; have hs := HSS.out _ d2; obtain ⟨j3, j4, j5⟩ := hs; clear d1 d2 d3) | (go_at_call 41; refine (HOL.out _ (by first | exact HCB.out)).mono ?_; rintro e X2 ⟨Oc, rfl, d1, d2, d3, d4⟩; have HOR := Lib.hid d1; have HOG := Lib.hid d2; have HOB := Lib.hid d3; have HOX := Lib.hid d4; have hs := HSS.out _ d3; obtain ⟨j3, j4, j5⟩ := hs; clear d1 d2 d3 d4) | (go_at_call 42; refine (HTL.out _ (by first | exact HOB.out)).mono ?_; rintro e X3 ⟨Tc, rfl, d1, d2, d3, d4⟩; have HTR := Lib.hid d1; have HTG := Lib.hid d2; have HTB := Lib.hid d3; have HTX := Lib.hid d4; clear d1 d2 d3 d4; have KZ := KX.out.bel HTB.out; have z3 := KZ.fz 3; have z4 := KZ.fz 4; have z5 := KZ.fz 5; have y3 := KZ.cell 3; have y4 := KZ.cell 4; have y5 := KZ.cell 5; simp only [List.getElem?_cons_succ, List.getElem?_cons_zero] at y3 y4 y5; have KZH := Lib.hid KZ; clear KZ)))
  all_goals
    go_wp2_with fail
    go_ret
    have hk := ((KZH.out.set 3 (.slice Ac ts.length kc)).set 4 (.map (some Oc))).set 5 (.map (some Tc))
    simp only [List.set_cons_succ, List.set_cons_zero] at hk
    have TX : Turns (fun j => j = x) X3 (((X3.setCell ⟨x, 3, none⟩ (.slice Ac ts.length kc)).setCell ⟨x, 4, none⟩ (.map (some Oc))).setCell ⟨x, 5, none⟩ (.map (some Tc))) := (((Turns.refl (fun j => j = x) X3).set ⟨x, 3, none⟩ _ (fun _ => rfl)).set ⟨x, 4, none⟩ _ (fun _ => rfl)).set ⟨x, 5, none⟩ _ (fun _ => rfl)
    have hw := HXE.out
    have BX3 := BY.out.trans (HTB.out.mono (show x ≤ Y.heap.size from Nat.le_of_lt hxs))
    have hT3 := (Turns.of_below (S := fun i => x ≤ i) (by rw [hw]; exact BX3)).then (TX.mono (fun i _ e => Nat.le_of_eq e.symm))
    have rT := own_turns (own_turns (own_turns HCR.out (.of_below (S := fun _ => False) HOX.out) (fun _ _ => id)) (.of_below (S := fun _ => False) HTX.out) (fun _ _ => id)) TX (fun g hg e => by have := (own_lt HCR.out hg).1; omega)
    refine ⟨x, _, Oc, Tc, rfl, ⟨hk, own_base rT (Nat.zero_le _), ⟨nO, (HOR.out.below HTX.out).turns TX (by have := HOG.out; omega)⟩, ⟨nT, HTR.out.turns TX (by have := HTG.out; have := HOB.out.size; omega)⟩, by have := HOR.out.lt; have := HTG.out; omega, HH.out.few, HH.out.pos, HH.out.nxl⟩, ?_, hT3.below (Nat.le_refl _) (fun _ _ e => Nat.le_trans (Nat.le_of_eq hw) e)⟩
    rintro i (rfl | rfl | rfl | hi)
    · omega
    · have := HOG.out; omega
    · have := HTG.out; have := HOB.out.size; omega
    · have := (own_lt HCR.out hi).1; omega
end Go.Proofs.YtpbheicfplpemaaGreat

namespace Go.Proofs.YtpbheicfplpemaaGreat
open Go.RowKit

def beatOt (x : Ot) (now lease : Int) : Ot := { x with until_ := max x.until_ (addI now lease) }
def BeatY (w : World) (q : Nat) (most grace next : Int) (wv : Value) (ts : List Tk) (O T : Nat) (om : Int → Option Ot) (tm : ByteArray → Option Int) (k now lease : Int) (x : Ot) (e : Ending) (w' : World) : Prop :=
  e = .returned (.int .i64 0) ∧ QS w' q most grace next wv ts O T (updI om k (beatOt x now lease)) tm ∧ Turns (QSet q wv O T) w w'
set_option maxRecDepth 20000 in
theorem beatA (w : World) (q : Nat) (most grace next : Int) (wv : Value) (ts : List Tk) (O T : Nat) (om : Int → Option Ot) (tm : ByteArray → Option Int) (h : QS w q most grace next wv ts O T om tm) (k now lease : Int) (hl : lease < 1) :
    Calls Tryz.prog 53 #[.pointer (some ⟨q, 0, none⟩), .int .i64 k, .int .i64 now, .int .i64 lease] w fun e w' => e = .returned (.int .i64 1) ∧ Below w.heap.size w w' := by
  obtain ⟨_, _, c2, _, _, _⟩ := h.cells
  have hM := Lib.hid (made1 w q next h.pos c2)
  clear h
  go_enter Tryz.func53, Tryz.ntmps53
  go_wp2_with (go_at_call 39; refine hM.out.mono ?_; rintro e w' ⟨rfl, rfl⟩)
  go_ret
  exact ⟨rfl, Below.refl _ _⟩
set_option maxRecDepth 20000 in
theorem beat0 (w : World) (q : Nat) (most grace next : Int) (wv : Value) (ts : List Tk) (O T : Nat) (om : Int → Option Ot) (tm : ByteArray → Option Int) (h : QS w q most grace next wv ts O T om tm) (k now lease : Int) (hl : ¬ lease < 1) (hx : om k = none) :
    Calls Tryz.prog 53 #[.pointer (some ⟨q, 0, none⟩), .int .i64 k, .int .i64 now, .int .i64 lease] w fun e w' => e = .returned (.int .i64 5) ∧ Below w.heap.size w w' := by
  obtain ⟨_, _, c2, _, _, _⟩ := h.cells
  have hM := Lib.hid (made1 w q next h.pos c2)
  have hF := Lib.hid (find0 w q most grace next wv ts O T om tm h k hx)
  unfold otV at hF
  clear h
  go_enter Tryz.func53, Tryz.ntmps53
  go_wp2_with (first | (go_at_call 39; refine hM.out.mono ?_; rintro e w' ⟨rfl, rfl⟩) | (go_at_call 61; refine hF.out.mono ?_; rintro e w1 ⟨rfl, hb1⟩; have HB1 := Lib.hid hb1; clear hb1))
  go_ret
  exact ⟨rfl, below_trans' HB1.out (Below.new _ _)⟩
set_option maxRecDepth 20000 in
set_option maxHeartbeats 8000000 in
theorem beat1 (w : World) (q : Nat) (most grace next : Int) (wv : Value) (ts : List Tk) (O T : Nat) (om : Int → Option Ot) (tm : ByteArray → Option Int) (h : QS w q most grace next wv ts O T om tm) (k now lease : Int) (x : Ot) (hl : ¬ lease < 1) (hle : lease ≤ 9223372036854775807) (hno : -9223372036854775808 ≤ now ∧ now ≤ 9223372036854775807) (hx : om k = some x) :
    Calls Tryz.prog 53 #[.pointer (some ⟨q, 0, none⟩), .int .i64 k, .int .i64 now, .int .i64 lease] w (BeatY w q most grace next wv ts O T om tm k now lease x) := by
  obtain ⟨_, _, c2, _, _, _⟩ := h.cells
  have hM := Lib.hid (made1 w q next h.pos c2)
  have HF := Lib.hid (find1 w q most grace next wv ts O T om tm h k x hx)
  have HH := Lib.hid h
  unfold otV at HF
  clear h
  go_enter Tryz.func53, Tryz.ntmps53
  go_upto_region 5 with (first | (go_at_call 39; refine hM.out.mono ?_; rintro e w' ⟨rfl, rfl⟩) | (go_at_call 61; refine HF.out.mono ?_; rintro e w1 ⟨rfl, hb1⟩; have HB1 := Lib.hid hb1; clear hb1))
  have hbX := Below.new w1 (.cells #[.string x.tk.key, .string x.tk.sticky, .int .i64 x.tk.ready, .int .i64 x.tk.att, .int .i64 x.token, .string x.worker, .int .i64 x.until_] 88)
  have KX := Lib.hid (Blk.new w1 88 (otL x))
  have BX := Lib.hid (below_trans' HB1.out hbX)
  have HX := Lib.hid (HH.out.bel BX.out)
  have hql : ∀ i, QSet q wv O T i → i < w1.heap.size := fun i hi => Nat.lt_of_lt_of_le (HH.out.lts i hi) HB1.out.size
  simp only [otL] at KX
  have hwl := HB1.out.size
  clear hbX HB1 HF hM c2
  generalize w1.alloc (.cells #[.string x.tk.key, .string x.tk.sticky, .int .i64 x.tk.ready, .int .i64 x.tk.att, .int .i64 x.token, .string x.worker, .int .i64 x.until_] 88) = X at *
  generalize w1.heap.size = l at *
  have m6 := KX.out.cell 6
  have mz := KX.out.fz 6
  simp only [List.getElem?_cons_succ, List.getElem?_cons_zero] at m6
  have HQL := Lib.hid hql
  clear hql
  have HA := Lib.hid (addQ X.drew now lease hno ⟨by omega, hle⟩)
  refine wp_tail 7 (by kernel_rfl) (by kernel_rfl) ?_
  simp only [List.take_succ_cons, List.take_zero, List.drop_succ_cons, List.drop_zero]
  repeat (first | still_step | still_call HA.out)
  refine wpStill_nil ?_
  have m6d : X.drew.cell? ⟨l, 6, none⟩ = some (.int .i64 x.until_) := m6
  clear m6 mz
  have mzd : X.drew.frozen? ⟨l, 6, none⟩ = false := KX.out.fz 6
  go_upto_region 6 with (fail)
  have hXd : Below X.heap.size X X.drew := below_drewN' (Below.refl X.heap.size X) 1
  have TZ : Turns (fun i => i = l) X.drew (X.drew.setCell ⟨l, 6, none⟩ (.int .i64 (max x.until_ (addI now lease)))) := (Turns.refl (fun i => i = l) X.drew).set ⟨l, 6, none⟩ _ (fun _ => rfl)
  have KZ := Lib.hid ((KX.out.bel hXd).set 6 (.int .i64 (max x.until_ (addI now lease))))
  have hQL := HQL.out
  have HZ := Lib.hid ((HX.out.bel hXd).keep TZ (fun i hi e => by have := hQL i hi; omega))
  have BZ := Lib.hid ((Turns.of_below (S := fun i => l ≤ i) BX.out).trans ((Turns.of_below (S := fun i => l ≤ i) hXd).trans TZ (fun i _ e => by omega)) (fun i _ e => e))
  clear mzd m6d hXd TZ hQL KX HX BX HA
  generalize hZe : X.drew.setCell ⟨l, 6, none⟩ (.int .i64 (max x.until_ (addI now lease))) = Z at *
  rw [show (X.setCell ⟨l, 6, none⟩ (.int .i64 (max x.until_ (addI now lease)))).drew = Z from hZe]
  clear hZe
  obtain ⟨_, _, _, _, c4, _⟩ := HZ.out.cells
  have m0 := KZ.out.cell 0
  have m1 := KZ.out.cell 1
  have m2 := KZ.out.cell 2
  have m3 := KZ.out.cell 3
  have m4 := KZ.out.cell 4
  have m5 := KZ.out.cell 5
  have m6 := KZ.out.cell 6
  simp only [List.set_cons_succ, List.set_cons_zero, List.getElem?_cons_succ, List.getElem?_cons_zero] at m0 m1 m2 m3 m4 m5 m6
  obtain ⟨nO, hO⟩ := HZ.out.outs
  obtain ⟨nT, hT⟩ := HZ.out.there
  have hOq : O ≠ q := hO.ne_cells HZ.out.blk
  have HO := Lib.hid hO
  have HT := Lib.hid hT
  clear hO hT
  have hql := HZ.out.blk.lt
  have hll := KZ.out.lt
  refine wp_tail 6 (by kernel_rfl) (by kernel_rfl) ?_
  simp only [List.take_succ_cons, List.take_zero, List.drop_succ_cons, List.drop_zero]
  repeat still_step
  refine wpStill_nil ?_
  clear c4 m0 m1 m2 m3 m4 m5 m6
  have hZd : Below Z.heap.size Z Z.drew := below_drewN' (Below.refl Z.heap.size Z) 1
  refine wpl_update (w := Z.drew) rfl _ _ _ 78 rfl (int_keys Tryz.underlying3) Tryz.underlying78 (HO.out.below hZd) k (otV (beatOt x now lease)) rfl rfl rfl ?_
  intro w3 hm3 ht3
  have TT : Turns (fun j => j = O) Z w3 := ((Turns.refl (fun j => j = O) Z).drewN 1).trans (.of_map (S := fun j => j = O) ht3 rfl) (fun _ _ e => e)
  have HM3 := Lib.hid hm3
  have HTT := Lib.hid TT
  clear hm3 ht3 TT
  go_wp2_with fail
  go_ret
  refine ⟨rfl, ⟨HZ.out.blk.turns HTT.out (Ne.symm hOq), own_turns HZ.out.row HTT.out (fun g hg e => own_ne_map HZ.out.row hg HO.out e), ⟨_, by have := HM3.out; rw [oV_upd] at this; exact this⟩, ⟨_, HT.out.turns HTT.out (fun e => HZ.out.ne e.symm)⟩, HH.out.ne, HH.out.few, HH.out.pos, HH.out.nxl⟩, ?_⟩
  exact (Turns.mono (T := QSet q wv O T) (BZ.out) (fun i hi e => by omega)).trans HTT.out (fun i _ e => .inr (.inl e))
end Go.Proofs.YtpbheicfplpemaaGreat
