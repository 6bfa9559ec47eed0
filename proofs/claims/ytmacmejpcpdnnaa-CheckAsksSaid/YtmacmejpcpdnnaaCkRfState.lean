/- check: the document's state on the way: find, wrong, make. -/
import Derived.Test.YtmacmejpcpdnnaaCkRfKids
import Derived.BigQuiet
namespace Go.Proofs.Ytmacmejpcpdnnaa
open Go.RowKit

def vrC (q : ByteArray × Int) : List Value := [.string q.1, .int .i64 q.2]
theorem vrC_len (q : ByteArray × Int) : (vrC q).length = 2 := rfl
/-- a slice that reads as variables that are seen -/
structure Vs (w : World) (A : Option Addr) (c : Nat) (l : Vrs) : Prop where
  cap : l.length ≤ c ∧ c ≤ maxLen
  cell : ∀ i (h : i < l.length), ∃ b, A = some ⟨b, 0, none⟩ ∧ b < w.heap.size ∧ w.cell? ⟨b, i * 2, none⟩ = some (.string l[i].1) ∧ w.cell? ⟨b, i * 2 + 1, none⟩ = some (.int .i64 l[i].2)
  wf : ∀ q ∈ l, -1 ≤ q.2 ∧ q.2 ≤ 1000000
/-- where it lies -/
def VsB (A : Option Addr) (n : Nat) (i : Nat) : Prop := 0 < n ∧ ∃ x, A = some x ∧ x.block = i
theorem Vs.turns {S : Nat → Prop} {w w' : World} {A : Option Addr} {c : Nat} {l : Vrs} (h : Vs w A c l) (k : Turns S w w') (hs : ∀ i, VsB A l.length i → ¬ S i) : Vs w' A c l :=
  ⟨h.cap, fun i hi => by
    obtain ⟨b, e, hb, c0, c1⟩ := h.cell i hi
    have hn : ¬ S b := hs b ⟨by omega, _, e, rfl⟩
    exact ⟨b, e, Nat.lt_of_lt_of_le hb k.size, (k.cell (p := ⟨b, _, none⟩) hb hn).trans c0, (k.cell (p := ⟨b, _, none⟩) hb hn).trans c1⟩, h.wf⟩
theorem Vs.bel {w w' : World} {A : Option Addr} {c : Nat} {l : Vrs} (h : Vs w A c l) (k : Below w.heap.size w w') : Vs w' A c l := h.turns (.of_below (S := fun _ => False) k) (fun _ _ q => q)
theorem Vs.of {w : World} {base : Nat} {A : Option Addr} {c : Nat} {l : Vrs} (h : w.ownsRow base 56 2 (.slice A l.length c) l.length (l.flatMap vrC)) (wf : ∀ q ∈ l, -1 ≤ q.2 ∧ q.2 ≤ 1000000) : Vs w A c l := by
  rcases Nat.eq_zero_or_pos l.length with h0 | h0
  · rcases h.2 with ⟨e, _⟩ | ⟨g, cap, cur, e, _, h4, h5, h6, _⟩
    · injection e with _ _ e3
      exact ⟨⟨by omega, by rw [e3]; exact Nat.zero_le _⟩, fun i hi => by omega, wf⟩
    · injection e with _ _ e3
      exact ⟨⟨by omega, by rw [e3]; exact h6⟩, fun i hi => by omega, wf⟩
  · obtain ⟨g, cap, e, _, hg, h1, h2⟩ := own_at h h0
    injection e with e1 _ e3
    subst e1 e3
    have hc : ∀ i (hi : i < l.length) j, j < 2 → w.cell? ⟨g, i * 2 + j, none⟩ = (vrC l[i])[j]? := by
      intro i hi j hj
      rw [h.cellAt (i * 2 + j) (by omega), flat_get vrC 2 vrC_len l i j hj, List.getElem?_eq_getElem hi]
      rfl
    exact ⟨⟨h1, h2⟩, fun i hi => ⟨g, rfl, hg, hc i hi 0 (by decide), hc i hi 1 (by decide)⟩, wf⟩
theorem toList_inj {s s' : ByteArray} (h : s.toList = s'.toList) : s = s' := by
  rw [ByteArray.toList_eq, ByteArray.toList_eq] at h
  obtain ⟨⟨l⟩⟩ := s
  obtain ⟨⟨l'⟩⟩ := s'
  simp only at h
  rw [h]
set_option maxRecDepth 20000 in
set_option maxHeartbeats 1600000 in
theorem find_any (w : World) (A : Option Addr) (c : Nat) (l : Vrs) (name : ByteArray) (h : Vs w A c l) (hl : l.length ≤ 100000) :
    Calls Try.prog 39 #[.slice A l.length c, .string name] w fun e w' => e = .returned (.int .i64 (findV l name)) ∧ w = w' := by
  have HV := Lib.hid h
  have hcap := h.cap.1
  have hcap2 := h.cap.2
  unfold maxLen at hcap2
  clear h
  obtain ⟨m, hm⟩ : ∃ m, l.length = m := ⟨_, rfl⟩
  rw [hm] at hl hcap ⊢
  have HM := Lib.hid hm
  clear hm
  go_enter Try.func39, Try.ntmps39
  go_wp2_with fail
  go_loopw [5] (fun iv wr => ∃ i : Nat, iv = .int .i64 ((i : Int) - 1) ∧ i ≤ m ∧ w = wr ∧ Hid (findV l name = findV (l.take i) name)) (fun iv _ => ((intOf iv) + 1).toNat)
  case atStart => exact ⟨m, rfl, Nat.le_refl _, rfl, Lib.hid (by rw [List.take_of_length_le (by rw [HM.out]; exact Nat.le_refl _)])⟩
  case round =>
    obtain ⟨i, rfl, hi9, rfl, HF⟩ := hrel
    by_cases hlt : 0 < i
    · obtain ⟨j, rfl⟩ : ∃ j, i = j + 1 := ⟨i - 1, by omega⟩
      have hjl : j < l.length := by rw [HM.out]; omega
      have hi0 : (((j + 1 : Nat) : Int) - 1) = (j : Int) := by omega
      have hlt' : (0 : Int) ≤ (j : Int) := by omega
      obtain ⟨b, e, hb, c0, c1⟩ := HV.out.cell j hjl
      subst e
      have hv9 := HV.out.wf _ (List.getElem_mem hjl)
      have htk : findV (l.take (j + 1)) name = if l[j].1 = name then l[j].2 else findV (l.take j) name := by rw [List.take_succ_eq_append_getElem hjl, findV_snoc]
      have hjm : (j : Int) < (m : Int) := by omega
      cases hq : (l[j].1.toList == name.toList) with
      | true =>
        have hE : findV l name = l[j].2 := by rw [HF.out, htk, if_pos (toList_inj (by simpa using hq))]
        have HE := Lib.hid hE
        have HQ := Lib.hid hq
        rw [hi0]
        clear hE htk hi0
        go_wp2_with fail
        go_ret
        exact ⟨by rw [HE.out]; rfl, rfl⟩
      | false =>
        have hE : findV l name = findV (l.take j) name := by
          rw [HF.out, htk, if_neg (fun e => by rw [e] at hq; simp at hq)]
        have HE := Lib.hid hE
        have HQ := Lib.hid hq
        rw [hi0]
        clear hE htk hi0
        go_wp2_with fail
        exact ⟨⟨j, rfl, by omega, by first | rfl | trivial, HE⟩, by simp [intOf] <;> omega⟩
    · obtain rfl : i = 0 := by omega
      have hE : findV l name = -1 := HF.out
      have HE := Lib.hid hE
      clear hE
      go_wp2_with fail
      go_ret
      exact ⟨by rw [HE.out]; rfl, rfl⟩
/-- the state in memory -/
structure RSt (w : World) (base p : Nat) (a : Option Addr) (n c : Nat) (t : List Tw) (g cL : Nat) (s : RS) : Prop where
  blk : ∃ atv ev : Int, Blk w p 52 [.slice a n c, .slice (some ⟨g, 0, none⟩) n cL, .int .i64 (s.made : Int), .int .i64 atv, .int .i64 ev] ∧ (match s.fl with | none => ev = 0 | some (q, e) => atv = (q : Int) ∧ ev = (e : Int) ∧ e ≠ 0)
  row : w.ownsRow base 3 1 (.slice (some ⟨g, 0, none⟩) n cL) n (s.L.map intI)
  len : s.L.length = n
  tw : TreeIn w a n c t
  far : ∀ b o, a = some ⟨b, o, none⟩ → 0 < n → b ≠ p ∧ b ≠ g
  ne : p ≠ g
  made : s.made ≤ 100000
def RSet (p g : Nat) (i : Nat) : Prop := i = p ∨ i = g
theorem RSt.keep {S : Nat → Prop} {w w' : World} {base p : Nat} {a : Option Addr} {n c : Nat} {t : List Tw} {g cL : Nat} {s : RS} (h : RSt w base p a n c t g cL s) (k : Turns S w w') (hs : ∀ i, i < w.heap.size → ¬ S i) : RSt w' base p a n c t g cL s := by
  obtain ⟨atv, ev, hb, hm⟩ := h.blk
  have kb : Below w.heap.size w w' := k.below (Nat.le_refl _) (fun i hi q => (hs i hi q).elim)
  exact ⟨⟨atv, ev, hb.bel kb, hm⟩, own_turns h.row (.of_below (S := fun _ => False) kb) (fun _ _ q => q), h.len, h.tw.bel kb, h.far, h.ne, h.made⟩
theorem RSt.bel {w w' : World} {base p : Nat} {a : Option Addr} {n c : Nat} {t : List Tw} {g cL : Nat} {s : RS} (h : RSt w base p a n c t g cL s) (k : Below w.heap.size w w') : RSt w' base p a n c t g cL s := h.keep (S := fun _ => False) (.of_below k) (fun _ _ q => q)
theorem RSt.tree {w w' : World} {base p : Nat} {a : Option Addr} {n c : Nat} {t : List Tw} {g cL : Nat} {s : RS} (h : RSt w base p a n c t g cL s) (k : Turns (RSet p g) w w') : TreeIn w' a n c t :=
  ⟨h.tw.cap, ⟨h.tw.tw.len, fun i hi => by
    obtain ⟨b, o, e, h1, h2, c0, c1, c2, c3⟩ := h.tw.tw.cell i hi
    have hn := h.far b o e (by rw [← h.tw.tw.len]; omega)
    have hS : ¬ RSet p g b := by rintro (q | q); exact hn.1 q; exact hn.2 q
    have := k.size
    exact ⟨b, o, e, by omega, by omega, (k.cell (p := ⟨b, _, none⟩) h2 hS).trans c0, (k.cell (p := ⟨b, _, none⟩) h2 hS).trans c1, (k.cell (p := ⟨b, _, none⟩) h2 hS).trans c2, (k.cell (p := ⟨b, _, none⟩) h2 hS).trans c3⟩, h.tw.tw.wf⟩⟩
set_option maxRecDepth 20000 in
set_option maxHeartbeats 1600000 in
theorem wrong_any (w : World) (base p : Nat) (a : Option Addr) (n c : Nat) (t : List Tw) (g cL : Nat) (s : RS) (h : RSt w base p a n c t g cL s) (at_ e : Nat) (he : e ≠ 0) :
    Calls Try.prog 40 #[.pointer (some ⟨p, 0, none⟩), .int .i64 (at_ : Int), .int .i64 (e : Int)] w fun en w' => en = .returned (.tuple #[]) ∧ RSt w' base p a n c t g cL (wrongR s at_ e) ∧ Turns (RSet p g) w w' := by
  obtain ⟨atv, ev, hb, hm⟩ := h.blk
  have HH := Lib.hid h
  have HB := Lib.hid hb
  have c4 := hb.cell 4
  have f3 := hb.fz 3
  have f4 := hb.fz 4
  simp only [List.getElem?_cons_zero, List.getElem?_cons_succ] at c4
  have hp0 := hb.lt
  cases hfl : s.fl with
  | none =>
    rw [hfl] at hm
    simp only at hm
    subst hm
    have HFL := Lib.hid hfl
    have c3 := hb.cell 3
    simp only [List.getElem?_cons_zero, List.getElem?_cons_succ] at c3
    clear h hb hfl
    go_enter Try.func40, Try.ntmps40
    go_wp2_with fail
    go_end0
    have T1 : Turns (fun i => i = p) w ((w.setCell ⟨p, 3, none⟩ (.int .i64 (at_ : Int))).setCell ⟨p, 4, none⟩ (.int .i64 (e : Int))) := ((Turns.refl (fun i => i = p) w).set ⟨p, 3, none⟩ _ (fun _ => rfl)).set ⟨p, 4, none⟩ _ (fun _ => rfl)
    have TS : Turns (RSet p g) w ((w.setCell ⟨p, 3, none⟩ (.int .i64 (at_ : Int))).setCell ⟨p, 4, none⟩ (.int .i64 (e : Int))) := T1.mono (fun i _ q => .inl q)
    have hB2 := (HB.out.set 3 (.int .i64 (at_ : Int))).set 4 (.int .i64 (e : Int))
    have hw : wrongR s at_ e = ⟨s.made, s.L, some (at_, e)⟩ := by unfold wrongR; rw [if_pos HFL.out]
    rw [hw]
    refine ⟨rfl, ⟨⟨(at_ : Int), (e : Int), hB2, rfl, rfl, he⟩, ?_, HH.out.len, HH.out.tree TS, HH.out.far, HH.out.ne, HH.out.made⟩, TS⟩
    refine own_turns HH.out.row T1 (fun g' hg' e' => ?_)
    simp only [Value.ownBlock, Option.some.injEq] at hg'
    exact HH.out.ne (by rw [← e', ← hg'])
  | some q =>
    obtain ⟨q, e2⟩ := q
    rw [hfl] at hm
    obtain ⟨h1, h2, h3⟩ := hm
    have hev : (ev == 0) = false := by rw [beq_eq_false_iff_ne]; omega
    have HW : Hid (wrongR s at_ e = s) := Lib.hid (by unfold wrongR; rw [if_neg (by rw [hfl]; simp)])
    clear h hb hfl h1 h2
    go_enter Try.func40, Try.ntmps40
    go_wp2_with fail
    go_end0
    rw [HW.out]
    exact ⟨rfl, HH.out, Turns.refl _ _⟩
end Go.Proofs.Ytmacmejpcpdnnaa
