/- check: the document's Asks; the law's texts. -/
import Derived.Test.YtmacmejpcpdnnaaCkNamed
namespace Go.Proofs.Ytmacmejpcpdnnaa
open Go.RowKit Go.Deep

def RefY (w : World) (t : List Tw) (e : Ending) (w' : World) : Prop :=
  Below w.heap.size w w' ∧ ∃ A1 A2 A3 c1 c2 c3, e = .returned (.tuple #[.slice A1 (lst t 50).length c1, .slice A2 (lst t 51).length c2, .slice A3 (lst t 56).length c3, .int .i64 (eR (slots t) : Int)]) ∧
    Strs w' w.heap.size A1 (lst t 50).length (lst t 50) ∧ Strs w' w.heap.size A2 (lst t 51).length (lst t 51) ∧ Strs w' w.heap.size A3 (lst t 56).length (lst t 56)
theorem lst_len (t : List Tw) (op : Nat) : (lst t op).length ≤ t.length := by
  unfold lst
  split
  · exact Nat.le_trans (foldIns_len _) (asks_len t op)
  · simp
set_option maxRecDepth 20000 in
set_option maxHeartbeats 12800000 in
theorem refasks_any (w : World) (a : Option Addr) (n c : Nat) (t : List Tw) (h : TreeIn w a n c t) (hn : n ≤ 5000) :
    Calls Try.prog 20 #[.slice a n c] w (RefY w t) := by
  have HSL := Lib.hid ((rslots_any w a n c t h).mono (fun e w' q => slotsY_own q))
  have HNA : Hid (∀ W, Below w.heap.size w W → ∀ op : Nat, op ≤ 255 → Calls Try.prog 31 #[.slice a n c, .int .u8 (op : Int)] W fun e w' => ∃ A m cc, e = .returned (.slice A m cc) ∧ Strs w' W.heap.size A m ((asks t op).foldl insS []) ∧ Below W.heap.size W w') := Lib.hid (fun W hW op hop => (asknamed_any W a n c t (h.bel hW) hn op hop).mono (fun e w' q => by
    obtain ⟨A, m, cc, rfl, ho, hb⟩ := q
    obtain ⟨A', c', e1, hs, _, _, _⟩ := Strs.of_own ho
    injection e1 with e1 _ _
    subst e1
    exact ⟨A, m, cc, rfl, hs, hb⟩))
  clear h
  unfold RefY lst
  by_cases hz : eR (slots t) = 0
  · simp only [if_pos hz]
    rw [hz] at HSL ⊢
    have q0 : (((0 : Nat) : Int)) = 0 := rfl
    rw [q0] at HSL ⊢
    clear hz q0
    have H50 := Lib.hid (fun W hW => HNA.out W hW 50 (by omega))
    have H51 := Lib.hid (fun W hW => HNA.out W hW 51 (by omega))
    have H56 := Lib.hid (fun W hW => HNA.out W hW 56 (by omega))
    clear HNA
    go_enter Try.func20, Try.ntmps20
    go_wp2_with (first | (go_at_call 10; refine HSL.out.mono ?_; rintro e w1 ⟨A1, c1, rfl, ho1, hb1⟩; have HB1 := Lib.hid hb1; clear ho1 hb1) | (go_at_call 31; refine (H50.out w1 HB1.out).mono ?_; rintro e w2 ⟨A2, m2, c2, rfl, hs2, hb2⟩; have HS2 := Lib.hid hs2; have HB2 := Lib.hid hb2; have HB2' := Lib.hid (HB1.out.trans (hb2.mono HB1.out.size)); clear hs2 hb2 H50) | (go_at_call 31; refine (H51.out w2 HB2'.out).mono ?_; rintro e w3 ⟨A3, m3, c3, rfl, hs3, hb3⟩; have HS3 := Lib.hid hs3; have HB3 := Lib.hid hb3; have HB3' := Lib.hid (HB2'.out.trans (hb3.mono HB2'.out.size)); clear hs3 hb3 H51) | (go_at_call 31; refine (H56.out w3 HB3'.out).mono ?_; rintro e w4 ⟨A4, m4, c4, rfl, hs4, hb4⟩; have HS4 := Lib.hid hs4; have HB4 := Lib.hid hb4; have HB4' := Lib.hid (HB3'.out.trans (hb4.mono HB3'.out.size)); clear hs4 hb4 H56))
    (try simp only [Exit.inBlock, Exit.then]); refine bodyPost_ret (results_tmp4 rfl _ _ _) rfl ?_
    have e2 := HS2.out.len
    have e3 := HS3.out.len
    have e4 := HS4.out.len
    have s2 := (HS2.out.bel HB3.out).bel HB4.out
    have s3 := HS3.out.bel HB4.out
    have s4 := HS4.out
    subst e2 e3 e4
    exact ⟨HB4'.out, A2, A3, A4, c2, c3, c4, rfl, s2.lower HB1.out.size, s3.lower HB2'.out.size, s4.lower HB3'.out.size⟩
  · simp only [if_neg hz]
    generalize eR (slots t) = k at *
    have z1 : ¬ (k : Int) = 0 := by omega
    have z2 : ((k : Int) == 0) = false := by rw [beq_eq_false_iff_ne]; omega
    clear hz HNA
    go_enter Try.func20, Try.ntmps20
    go_wp2_with (go_at_call 10; refine HSL.out.mono ?_; rintro e w1 ⟨A1, c1, rfl, ho1, hb1⟩; have HB1 := Lib.hid hb1; clear ho1 hb1)
    (try simp only [Exit.inBlock, Exit.then]); refine bodyPost_ret (results_tmp4 rfl _ _ _) rfl ?_
    exact ⟨HB1.out, none, none, none, 0, 0, 0, rfl, ⟨rfl, fun i hi => by simp at hi⟩, ⟨rfl, fun i hi => by simp at hi⟩, ⟨rfl, fun i hi => by simp at hi⟩⟩
set_option maxRecDepth 20000 in
set_option maxHeartbeats 3200000 in
theorem texts_any (w : World) (B1 B2 : Nat) (A1 A2 : Option Addr) (c1 c2 : Nat) (l : List (List UInt8)) (h1 : Strs w B1 A1 l.length l) (h2 : Strs w B2 A2 l.length l) (hl : l.length ≤ 5000) :
    Calls Try.prog 21 #[.slice A1 l.length c1, .slice A2 l.length c2] w fun e w' => e = .returned (.bool true) ∧ Below w.heap.size w w' := by
  have H1 := Lib.hid h1
  have H2 := Lib.hid h2
  clear h1 h2
  obtain ⟨m, hm⟩ : ∃ m, l.length = m := ⟨_, rfl⟩
  rw [hm] at hl H1 H2 ⊢
  have HM := Lib.hid hm
  clear hm
  go_enter Try.func21, Try.ntmps21
  go_wp2_with fail
  go_loopw [5] (fun iv wr => ∃ i : Nat, iv = .int .i64 (i : Int) ∧ i ≤ m ∧ Hid (Below w.heap.size w wr)) (fun iv _ => m - (intOf iv).toNat)
  case atStart => exact ⟨0, rfl, Nat.zero_le _, Lib.hid (Below.refl _ _)⟩
  case round =>
    obtain ⟨i, rfl, hi9, HW⟩ := hrel
    by_cases hlt : i < m
    · have hlt' : (i : Int) < (m : Int) := by omega
      have hiL : i < l.length := by rw [HM.out]; exact hlt
      obtain ⟨g1, e1, _, g1l, x1, _⟩ := H1.out.cell i hiL
      obtain ⟨g2, e2, _, g2l, x2, _⟩ := H2.out.cell i hiL
      have y1 := (HW.out.cell (p := ⟨g1, i, none⟩) g1l).trans x1
      have y2 := (HW.out.cell (p := ⟨g2, i, none⟩) g2l).trans x2
      subst e1 e2
      generalize l[i] = s at *
      go_wp2_with fail
      go_quiet (fail)
      go_wp2_with fail
      exact ⟨⟨i + 1, by go_num, by omega, Lib.hid (below_drewN' HW.out _)⟩, by simp [intOf]; omega⟩
    · obtain rfl : i = m := by omega
      have hlt' : ¬ (i : Int) < (i : Int) := by omega
      go_wp2_with fail
      go_ret
      exact ⟨rfl, HW.out⟩
end Go.Proofs.Ytmacmejpcpdnnaa
