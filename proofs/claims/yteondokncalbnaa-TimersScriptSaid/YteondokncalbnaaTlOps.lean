/- timers: a table as a list: Len, Next, All, Due. -/
import Derived.Test.YteondokncalbnaaTlDrop
namespace Go.Proofs.Yteondokncalbnaa
open Go.RowKit

def ltC (x : Lt) : List Value := [.int .i64 x.1, .string x.2.1, .int .i64 x.2.2]
theorem ltC_len (x : Lt) : (ltC x).length = 3 := rfl
theorem tmV_lt (ys : List Tri) : ys.flatMap tmV = (ys.map lt).flatMap ltC := by
  rw [List.flatMap_map]; rfl
theorem tmC_lt {xs : List Th} (h : ∀ t ∈ xs, ∃ o k, t.v = timV t.key o k ∧ 0 ≤ k) : ∀ ls : List Th, (∀ t ∈ ls, t ∈ xs) → ls.flatMap tmC = (ls.map (fun t => lt (tri t))).flatMap ltC
  | [], _ => rfl
  | t :: ls, hl => by
    rw [List.flatMap_cons, List.map_cons, List.flatMap_cons, tmC_lt h ls (fun u hu => hl u (List.mem_cons_of_mem _ hu))]
    obtain ⟨o, k, e, _⟩ := h t (hl t List.mem_cons_self)
    rw [tri_key e]
    unfold tmC
    rw [e]
    rfl
theorem lenL (w : World) (t : Nat) (S : Nat → Prop) (L : List Lt) (N : Nat) (h : TL w t S L N) :
    Calls Try.prog 13 #[.pointer (some ⟨t, 0, none⟩)] w fun e w' => e = .returned (.int .i64 (L.length : Int)) ∧ w' = w := by
  obtain ⟨p, v, M, A, xs, nx, h1, h2, _, _⟩ := h.ex
  rw [h2.len]
  exact lenTab w t p v M A xs nx h1
def nextD : List Lt → Int
  | [] => 0
  | x :: _ => x.1
theorem nextL (w : World) (t : Nat) (S : Nat → Prop) (L : List Lt) (N : Nat) (h : TL w t S L N) :
    Calls Try.prog 12 #[.pointer (some ⟨t, 0, none⟩)] w fun e w' => e = .returned (.tuple #[.int .i64 (nextD L), .bool (decide (0 < L.length))]) ∧ Below w.heap.size w w' := by
  obtain ⟨p, v, M, A, xs, nx, h1, h2, _, _⟩ := h.ex
  have e1 : nk xs = nextD L := by
    obtain ⟨ys, hs, rfl⟩ := h2.ys
    cases ys with
    | nil =>
      have := hs.1.length_eq
      simp at this
      obtain rfl : xs = [] := List.eq_nil_of_length_eq_zero this.symm
      rfl
    | cons y ys =>
      obtain ⟨h0, e⟩ := head_sorted h1.st.heap h2.apart hs.1 hs.2
      rw [nk_pos h0]
      show _ = (lt y).1
      have := h2.dues hs y List.mem_cons_self
      unfold lt
      rw [this, e]
      rfl
  have e2 : isB xs = decide (0 < L.length) := by unfold isB; rw [h2.len]
  rw [← e1, ← e2]
  exact nextTab w t p v M A xs nx h1
theorem allL (w : World) (t : Nat) (S : Nat → Prop) (L : List Lt) (N : Nat) (h : TL w t S L N) :
    Calls Try.prog 17 #[.pointer (some ⟨t, 0, none⟩)] w fun e w' => ∃ A c, e = .returned (.slice A L.length c) ∧ w'.ownsRow w.heap.size 31 3 (.slice A L.length c) L.length (L.flatMap ltC) ∧ Below w.heap.size w w' := by
  obtain ⟨p, v, M, A, xs, nx, h1, h2, _, _⟩ := h.ex
  refine (allTab w t p v M A xs nx h1).mono ?_
  rintro e w' ⟨c, A', ys, rfl, hs, hl, ho, hb⟩
  obtain ⟨zs, hz, rfl⟩ := h2.ys
  have e1 := hz.one h2.apart hs
  subst e1
  rw [tmV_lt] at ho
  rw [List.length_map]
  exact ⟨A', c, rfl, ho, hb⟩
def ltE (now : Int) (L : List Lt) : List Lt := L.filter (fun y => decide (y.1 ≤ now))
def ltG (now : Int) (L : List Lt) : List Lt := L.filter (fun y => decide (now < y.1))
theorem dueL (w : World) (t : Nat) (S : Nat → Prop) (L : List Lt) (N : Nat) (h : TL w t S L N) (now : Int) :
    Calls Try.prog 11 #[.pointer (some ⟨t, 0, none⟩), .int .i64 now] w fun e w' => ∃ A c, e = .returned (.slice A (ltE now L).length c) ∧ w'.ownsRow w.heap.size 31 3 (.slice A (ltE now L).length c) (ltE now L).length ((ltE now L).flatMap ltC) ∧
      ∃ S', TL w' t S' (ltG now L) N ∧ Grows w S S' ∧ Turns S w w' := by
  obtain ⟨p, v, M, A, xs, nx, h1, h2, h3, h4⟩ := h.ex
  refine (dueTab w t p v M A xs nx now h1).mono ?_
  rintro e w' ⟨lv, rfl, ls, zs, v', hd, hz, ho, hs, hv, ht⟩
  obtain ⟨e1, h5⟩ := h2.due now hd hz
  rw [tmC_lt h2.key ls (fun u hu => hd.perm.mem_iff.1 (List.mem_append_left _ hu)), e1] at ho
  have e2 : ls.length = (ltE now L).length := by unfold ltE; rw [← e1, List.length_map]
  rw [e2] at ho
  obtain ⟨A', c, rfl⟩ := own_slice' ho
  refine ⟨A', c, rfl, ho, TSet t p v' M A, ⟨⟨p, v', M, A, zs, nx, hs, h5, h3, fun _ => Iff.rfl⟩, Nat.le_trans (List.length_filter_le _ _) h.lim⟩, fun i hi => .inl ((h4 i).2 (hi.imp id (Or.imp id (fun hs => (HS.own hv).1 hs)))), ht.mono (fun i _ e => (h4 i).2 e)⟩
/-- a row of timers, read -/
theorem ltC_cells {w : World} {base g n c : Nat} {L : List Lt} (h : w.ownsRow base 31 3 (.slice (some ⟨g, 0, none⟩) n c) n (L.flatMap ltC)) (hn : L.length = n) (k : Nat) (hk : k < L.length) :
    w.cell? ⟨g, k * 3, none⟩ = some (.int .i64 (L[k]).1) ∧ w.cell? ⟨g, k * 3 + 1, none⟩ = some (.string (L[k]).2.1) ∧ w.cell? ⟨g, k * 3 + 2, none⟩ = some (.int .i64 (L[k]).2.2) := by
  have hx : ∀ j, j < 3 → w.cell? ⟨g, k * 3 + j, none⟩ = (ltC L[k])[j]? := fun j hj => by
    rw [h.cellAt _ (by omega), flat_get ltC 3 ltC_len L k j hj, List.getElem?_eq_getElem hk]
    rfl
  have h0 := hx 0 (by omega)
  rw [Nat.add_zero] at h0
  exact ⟨h0, hx 1 (by omega), hx 2 (by omega)⟩
theorem Grows.turns {w w1 w2 : World} {S S1 : Nat → Prop} (t1 : Turns S w w1) (g : Grows w S S1) (t2 : Turns S1 w1 w2) : Turns S w w2 := t1.trans t2 (fun i hi e => (g i e).resolve_right (by omega))
theorem Grows.trans {w w1 : World} {S S1 S2 : Nat → Prop} (g : Grows w S S1) (h : Grows w1 S1 S2) (hs : w.heap.size ≤ w1.heap.size) : Grows w S S2 := fun i hi => by
  rcases h i hi with e | e
  · exact g i e
  · exact .inr (by omega)
theorem Grows.refl (w : World) (S : Nat → Prop) : Grows w S S := fun _ h => .inl h

/-! ### DropAll -/
def owB (o : ByteArray) (x : Lt) : Bool := decide (x.2.1 = o)
def dropA (L : List Lt) (o : ByteArray) : List Lt := L.filter (fun x => !owB o x)
def dropK (L : List Lt) (o : ByteArray) (k : Nat) : List Lt := dropA (L.take k) o ++ L.drop k
theorem dropK_0 (L : List Lt) (o : ByteArray) : dropK L o 0 = L := by simp [dropK, dropA]
theorem dropK_all (L : List Lt) (o : ByteArray) : dropK L o L.length = dropA L o := by simp [dropK]
theorem dropK_stay {L : List Lt} {o : ByteArray} {k : Nat} (hk : k < L.length) (h : L[k].2.1 ≠ o) : dropK L o (k + 1) = dropK L o k := by
  unfold dropK dropA
  rw [List.take_succ_eq_append_getElem hk, List.filter_append, List.drop_eq_getElem_cons hk]
  simp [owB, h]
theorem dropK_go {L : List Lt} {o : ByteArray} {k : Nat} (hn : (L.map (·.2)).Nodup) (hk : k < L.length) (h : L[k].2.1 = o) : dropL (dropK L o k) o L[k].2.2 = dropK L o (k + 1) ∧ named (dropK L o k) o L[k].2.2 := by
  constructor
  · unfold dropK dropL
    rw [List.filter_append, List.drop_eq_getElem_cons hk, List.take_succ_eq_append_getElem hk]
    unfold dropA
    rw [List.filter_append]
    have e1 : ((L.take k).filter (fun x => !owB o x)).filter (otherB o L[k].2.2) = (L.take k).filter (fun x => !owB o x) := by
      rw [List.filter_eq_self]
      intro x hx
      have := (List.mem_filter.1 hx).2
      exact otherB_no.2 (fun e => by simp [owB, e.1] at this)
    have e2 : [L[k]].filter (fun x => !owB o x) = [] := by simp [owB, h]
    rw [e1, e2, List.append_nil, List.filter_cons_of_neg (by simp [otherB, h])]
    congr 1
    rw [List.filter_eq_self]
    intro x hx
    refine otherB_no.2 (fun e => ?_)
    obtain ⟨i, hi, rfl⟩ := List.mem_iff_getElem.1 hx
    rw [List.getElem_drop] at e
    have hi' : k + 1 + i < L.length := by simp at hi; omega
    have h1 : (L.map (·.2))[k]'(by simpa using hk) = (L.map (·.2))[k + 1 + i]'(by simpa using hi') := by
      rw [List.getElem_map, List.getElem_map]
      exact Prod.ext (by rw [h]; exact e.1.symm) e.2.symm
    have := (List.getElem_inj hn).1 h1
    omega
  · refine ⟨L[k], ?_, h, rfl⟩
    unfold dropK
    refine List.mem_append_right _ ?_
    rw [List.drop_eq_getElem_cons hk]
    exact List.mem_cons_self
def cntK (L : List Lt) (o : ByteArray) (k : Nat) : Nat := ((L.take k).filter (owB o)).length
theorem cntK_le (L : List Lt) (o : ByteArray) (k : Nat) : cntK L o k ≤ k := by
  unfold cntK
  have h1 := List.length_filter_le (owB o) (L.take k)
  rw [List.length_take] at h1
  omega
theorem cntK_go {L : List Lt} {o : ByteArray} {k : Nat} (hk : k < L.length) (h : L[k].2.1 = o) : cntK L o (k + 1) = cntK L o k + 1 := by
  unfold cntK
  rw [List.take_succ_eq_append_getElem hk, List.filter_append]
  simp [owB, h]
theorem cntK_stay {L : List Lt} {o : ByteArray} {k : Nat} (hk : k < L.length) (h : L[k].2.1 ≠ o) : cntK L o (k + 1) = cntK L o k := by
  unfold cntK
  rw [List.take_succ_eq_append_getElem hk, List.filter_append]
  simp [owB, h]
theorem dropK_named {L : List Lt} {N : Nat} {w : World} {t : Nat} {S : Nat → Prop} (h : TL w t S L N) : (L.map (·.2)).Nodup := h.names
set_option maxRecDepth 20000 in
set_option maxHeartbeats 8000000 in
theorem dropAllL (w : World) (t : Nat) (S : Nat → Prop) (L : List Lt) (N : Nat) (h : TL w t S L N) (o : ByteArray) :
    Calls Try.prog 16 #[.pointer (some ⟨t, 0, none⟩), .string o] w fun e w' => e = .returned (.int .i64 ((L.filter (owB o)).length : Int)) ∧ ∃ S', TL w' t S' (dropA L o) N ∧ Grows w S S' ∧ Turns S w w' := by
  have HT := Lib.hid h
  have hlim := h.lim
  have HN := Lib.hid h.names
  have HL := Lib.hid h.lts
  have HA := Lib.hid (allL w t S L N h)
  clear h
  go_enter Try.func16, Try.ntmps16
  go_wp2_with fail
  refine HA.out.mono ?_
  rintro e w1 ⟨Aa, ca, rfl, ho, hb⟩
  have HO := Lib.hid ho
  have HB := Lib.hid hb
  have H1 := Lib.hid (HT.out.bel hb)
  have hws := hb.size
  clear ho hb HA
  go_wp2_with fail
  go_loopw [5, 11] (fun gv iv wr => ∃ (k : Nat) (S' : Nat → Prop), k ≤ L.length ∧ gv = .int .i64 (cntK L o k : Int) ∧ iv = .int .i64 (k : Int) ∧ Hid (TL wr t S' (dropK L o k) N) ∧ Hid (Grows w1 S S') ∧ Hid (Turns S w1 wr)) (fun _ iv _ => L.length - (intOf iv).toNat)
  case atStart => exact ⟨0, S, by omega, rfl, rfl, by rw [dropK_0]; exact H1, Lib.hid (Grows.refl _ _), Lib.hid (Turns.refl _ _)⟩
  case round =>
    obtain ⟨k, S', hk, rfl, rfl, hT, hG, hU⟩ := hrel
    by_cases hlt : k < L.length
    · have hlt1 : (k : Int) < (L.length : Int) := by omega
      obtain ⟨g, c0, he, hvb, hg, hnc, hcm⟩ := own_at HO.out (by omega)
      injection he with he1 he2 he3
      subst he1 he3
      have hgl : g < w1.heap.size ∧ w.heap.size ≤ g := ⟨(own_lo HO.out hvb).2, (own_lo HO.out hvb).1⟩
      have hrow := own_turns HO.out hU.out (fun g' hg' hs => by
        have h1 := HL.out g' hs
        have h2 := (own_lo HO.out hg').1
        omega)
      obtain ⟨d0, d1, d2⟩ := ltC_cells hrow rfl k hlt
      have hck := cntK_le L o k
      unfold maxLen at hcm
      have HX : Hid (Blk (wr.alloc (.cells #[.int .i64 L[k].1, .string L[k].2.1, .int .i64 L[k].2.2] 31)) wr.heap.size 31 [.int .i64 L[k].1, .string L[k].2.1, .int .i64 L[k].2.2]) := Lib.hid (Blk.new wr 31 [.int .i64 L[k].1, .string L[k].2.1, .int .i64 L[k].2.2])
      have BX : Hid (Below wr.heap.size wr (wr.alloc (.cells #[.int .i64 L[k].1, .string L[k].2.1, .int .i64 L[k].2.2] 31))) := Lib.hid (Below.new wr _)
      have HT2 := Lib.hid (hT.out.bel BX.out)
      have HU2 := Lib.hid (hU.out.then (.of_below BX.out))
      clear hrow
      go_upto_region 5 with (fail)
      clear d0 d1 d2
      generalize wr.alloc (.cells #[.int .i64 L[k].1, .string L[k].2.1, .int .i64 L[k].2.2] 31) = X at *
      generalize wr.heap.size = bx at *
      have k0 := HX.out.cell 0
      have k1 := HX.out.cell 1
      have k2 := HX.out.cell 2
      simp only [List.getElem?_cons_succ, List.getElem?_cons_zero] at k0 k1 k2
      by_cases hc : L[k].2.1 = o
      · obtain ⟨e1, e2⟩ := dropK_go HN.out hlt hc
        have HD := drop_any X t S' (dropK L o k) N HT2.out o L[k].2.2
        unfold DropY at HD
        rw [e1] at HD
        have HDr := Lib.hid HD
        have HC := Lib.hid hc
        have HE2 := Lib.hid e2
        have HCn := Lib.hid (cntK_go hlt hc)
        rw [hc] at k1
        clear hc e1 e2 HD
        go_wp2_with (go_at_call 15; refine HDr.out.mono ?_; rintro e w3 ⟨b, rfl, hb, S2, h3, g3, t3⟩; obtain rfl : b = true := hb.2 HE2.out; have H3 := Lib.hid h3; have G3 := Lib.hid g3; have T3 := Lib.hid t3; clear h3 g3 t3 hb)
        go_roundw
        case measure => simp only [intOf]; omega
        case rel => exact ⟨k + 1, S2, by omega, by rw [HCn.out]; go_num, by go_num, H3, Lib.hid (hG.out.trans G3.out HU2.out.size), Lib.hid (Grows.turns HU2.out hG.out T3.out)⟩
      · have hq : (L[k].2.1.toList == o.toList) = false := by
          rw [beq_eq_false_iff_ne]
          exact fun e => hc (bytes_ext e)
        have HCn := Lib.hid (cntK_stay hlt hc)
        have HDk := Lib.hid (dropK_stay hlt hc)
        clear hc
        go_wp2_with fail
        go_roundw
        case measure => simp only [intOf]; omega
        case rel => exact ⟨k + 1, S', by omega, by rw [HCn.out], by go_num, by rw [HDk.out]; exact HT2, hG, HU2⟩
    · obtain rfl : k = L.length := by omega
      have hlt1 : ¬ (L.length : Int) < (L.length : Int) := by omega
      have HD : Hid (dropK L o L.length = dropA L o) := Lib.hid (dropK_all L o)
      have HCn : Hid (cntK L o L.length = (L.filter (owB o)).length) := Lib.hid (by unfold cntK; rw [List.take_length])
      go_wp2_with fail
      go_ret
      have hT2 := hT.out
      rw [HD.out] at hT2
      refine ⟨by rw [← HCn.out]; rfl, S', hT2, fun i hi => (hG.out i hi).imp id (fun e => by omega), (Turns.of_below HB.out).then hU.out⟩
end Go.Proofs.Yteondokncalbnaa
