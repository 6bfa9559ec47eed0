/- queue's reader: head, at any bytes. -/
import Derived.Test.YtpbheicfplpemaaGreatQuOpenP
namespace Go.Proofs.YtpbheicfplpemaaGreat
open Go.RowKit

def HeadEr (w : World) (r : Nat) (A : Option Addr) (len cap : Nat) (l : List UInt8) (p en : Nat) (e : Ending) (w' : World) : Prop :=
  e = .returned (.pointer none) ∧ ER w' r 57 [] A len cap l p en ∧ w.grownBy w' (some r)

set_option maxRecDepth 20000 in
set_option maxHeartbeats 4000000 in
theorem head_e1 (w : World) (r : Nat) (A : Option Addr) (len cap : Nat) (l : List UInt8) (h : ER w r 57 [] A len cap l 0 0) (hsz : l.length ≤ 1000000) (p en : Nat) (h1 : rdNum l 0 = .error (p, en)) :
    Calls Tryz.prog 20 #[.pointer (some ⟨r, 0, none⟩)] w (HeadEr w r A len cap l p en) := by
  have hen : Hid (en ≠ 0) := Lib.hid ((rdNum_er h.at_le h1).2)
  have hn : ((en : Int) == 0) = false := by rw [beq_eq_false_iff_ne]; have := hen.out; omega
  have E0 := Lib.hid h
  have HSZ := Lib.hid hsz
  go_enter Tryz.func20, Tryz.ntmps20
  have HB0 := Lib.hid (by have := num_any w r A len cap l 0 E0.out HSZ.out; rw [h1] at this; exact this)
  go_wp2_with (go_at_call 62; refine HB0.out.mono ?_; rintro e w1 ⟨⟨rfl, e2⟩, g2⟩; have E1 := Lib.hid e2; have G1 := Lib.hid g2; clear e2 g2; have c1 := E1.out.c1; have c2 := E1.out.c2)
  have HB1 := Lib.hid (idle_int64 w1 r _ [] A len cap l p en E1.out hen.out (.func (.func 64) #[] #[]))
  go_wp2_with (go_at_call 63; refine HB1.out.mono ?_; rintro e w' ⟨rfl, rfl⟩)
  have HB2 := Lib.hid (num_idle w1 r _ A len cap l p en E1.out hen.out)
  go_wp2_with (go_at_call 62; refine HB2.out.mono ?_; rintro e w' ⟨rfl, rfl⟩)
  go_ret
  exact ⟨rfl, E1.out, G1.out⟩
set_option maxRecDepth 20000 in
set_option maxHeartbeats 4000000 in
theorem head_e2a (w : World) (r : Nat) (A : Option Addr) (len cap : Nat) (l : List UInt8) (h : ER w r 57 [] A len cap l 0 0) (hsz : l.length ≤ 1000000) (m t1 : Nat) (h1 : rdNum l 0 = .ok (m, t1)) (hm : m < 1) :
    Calls Tryz.prog 20 #[.pointer (some ⟨r, 0, none⟩)] w (HeadEr w r A len cap l 0 1) := by
  have q1 : decide ((m : Int) < 1) = true := decide_eq_true (by omega)
  have hen : Hid ((1 : Nat) ≠ 0) := Lib.hid (by decide)
  have E0 := Lib.hid h
  have HSZ := Lib.hid hsz
  go_enter Tryz.func20, Tryz.ntmps20
  have HB0 := Lib.hid (by have := num_any w r A len cap l 0 E0.out HSZ.out; rw [h1] at this; exact this)
  go_wp2_with (go_at_call 62; refine HB0.out.mono ?_; rintro e w1 ⟨⟨rfl, e2⟩, g2⟩; have E1 := Lib.hid e2; have G1 := Lib.hid g2; clear e2 g2; have c1 := E1.out.c1; have c2 := E1.out.c2)
  have HB1 := Lib.hid (fail1 w1 r _ rfl A len cap l t1 0 E1.out 0 1 (Nat.zero_le _))
  go_wp2_with (go_at_call 24; refine HB1.out.mono ?_; rintro e w2 ⟨rfl, e2, g2⟩; have E2 := Lib.hid e2; have G2 := Lib.hid g2; clear e2 g2 c1 c2; have c1 := E2.out.c1; have c2 := E2.out.c2)
  have HB2 := Lib.hid (idle_int64 w2 r _ [] A len cap l 0 1 E2.out hen.out (.func (.func 64) #[] #[]))
  go_wp2_with (go_at_call 63; refine HB2.out.mono ?_; rintro e w' ⟨rfl, rfl⟩)
  have HB3 := Lib.hid (num_idle w2 r _ A len cap l 0 1 E2.out hen.out)
  go_wp2_with (go_at_call 62; refine HB3.out.mono ?_; rintro e w' ⟨rfl, rfl⟩)
  go_ret
  exact ⟨rfl, E2.out, (G1.out.trans G2.out)⟩
set_option maxRecDepth 20000 in
set_option maxHeartbeats 4000000 in
theorem head_e2b (w : World) (r : Nat) (A : Option Addr) (len cap : Nat) (l : List UInt8) (h : ER w r 57 [] A len cap l 0 0) (hsz : l.length ≤ 1000000) (m t1 : Nat) (h1 : rdNum l 0 = .ok (m, t1)) (hm : 4096 < m) :
    Calls Tryz.prog 20 #[.pointer (some ⟨r, 0, none⟩)] w (HeadEr w r A len cap l 0 1) := by
  have q1 : decide ((m : Int) < 1) = false := decide_eq_false (by omega)
  have q2 : decide ((4096 : Int) < (m : Int)) = true := decide_eq_true (by omega)
  have hen : Hid ((1 : Nat) ≠ 0) := Lib.hid (by decide)
  have E0 := Lib.hid h
  have HSZ := Lib.hid hsz
  go_enter Tryz.func20, Tryz.ntmps20
  have HB0 := Lib.hid (by have := num_any w r A len cap l 0 E0.out HSZ.out; rw [h1] at this; exact this)
  go_wp2_with (go_at_call 62; refine HB0.out.mono ?_; rintro e w1 ⟨⟨rfl, e2⟩, g2⟩; have E1 := Lib.hid e2; have G1 := Lib.hid g2; clear e2 g2; have c1 := E1.out.c1; have c2 := E1.out.c2)
  have HB1 := Lib.hid (fail1 w1 r _ rfl A len cap l t1 0 E1.out 0 1 (Nat.zero_le _))
  go_wp2_with (go_at_call 24; refine HB1.out.mono ?_; rintro e w2 ⟨rfl, e2, g2⟩; have E2 := Lib.hid e2; have G2 := Lib.hid g2; clear e2 g2 c1 c2; have c1 := E2.out.c1; have c2 := E2.out.c2)
  have HB2 := Lib.hid (idle_int64 w2 r _ [] A len cap l 0 1 E2.out hen.out (.func (.func 64) #[] #[]))
  go_wp2_with (go_at_call 63; refine HB2.out.mono ?_; rintro e w' ⟨rfl, rfl⟩)
  have HB3 := Lib.hid (num_idle w2 r _ A len cap l 0 1 E2.out hen.out)
  go_wp2_with (go_at_call 62; refine HB3.out.mono ?_; rintro e w' ⟨rfl, rfl⟩)
  go_ret
  exact ⟨rfl, E2.out, (G1.out.trans G2.out)⟩
set_option maxRecDepth 20000 in
set_option maxHeartbeats 4000000 in
theorem head_e3 (w : World) (r : Nat) (A : Option Addr) (len cap : Nat) (l : List UInt8) (h : ER w r 57 [] A len cap l 0 0) (hsz : l.length ≤ 1000000) (m t1 : Nat) (h1 : rdNum l 0 = .ok (m, t1)) (hm : 1 ≤ m ∧ m ≤ 4096) (p en : Nat) (h2 : Cd.rdInt l t1 = .error (p, en)) :
    Calls Tryz.prog 20 #[.pointer (some ⟨r, 0, none⟩)] w (HeadEr w r A len cap l p en) := by
  have q1 : decide ((m : Int) < 1) = false := decide_eq_false (by omega)
  have q2 : decide ((4096 : Int) < (m : Int)) = false := decide_eq_false (by omega)
  have hen : Hid (en ≠ 0) := Lib.hid (by have := rdInt_er (rdNum_le h1).1 h2; omega)
  have hn : ((en : Int) == 0) = false := by rw [beq_eq_false_iff_ne]; have := hen.out; omega
  have E0 := Lib.hid h
  have HSZ := Lib.hid hsz
  go_enter Tryz.func20, Tryz.ntmps20
  have HB0 := Lib.hid (by have := num_any w r A len cap l 0 E0.out HSZ.out; rw [h1] at this; exact this)
  go_wp2_with (go_at_call 62; refine HB0.out.mono ?_; rintro e w1 ⟨⟨rfl, e2⟩, g2⟩; have E1 := Lib.hid e2; have G1 := Lib.hid g2; clear e2 g2; have c1 := E1.out.c1; have c2 := E1.out.c2)
  have HB1 := Lib.hid (by have := next_int64 w1 r 57 [] A len cap l t1 E1.out HSZ.out; rw [rdInt_shft E1.out.at_le, h2] at this; exact this)
  unfold i64V at HB1
  go_wp2_with (go_at_call 63; refine HB1.out.mono ?_; rintro e w2 ⟨⟨rfl, e2⟩, g2⟩; have E2 := Lib.hid e2; have G2 := Lib.hid g2; clear e2 g2 c1 c2; have c1 := E2.out.c1; have c2 := E2.out.c2)
  have HB2 := Lib.hid (num_idle w2 r _ A len cap l p en E2.out hen.out)
  go_wp2_with (go_at_call 62; refine HB2.out.mono ?_; rintro e w' ⟨rfl, rfl⟩)
  go_ret
  exact ⟨rfl, E2.out, (G1.out.trans G2.out)⟩
set_option maxRecDepth 20000 in
set_option maxHeartbeats 4000000 in
theorem head_e4 (w : World) (r : Nat) (A : Option Addr) (len cap : Nat) (l : List UInt8) (h : ER w r 57 [] A len cap l 0 0) (hsz : l.length ≤ 1000000) (m t1 : Nat) (h1 : rdNum l 0 = .ok (m, t1)) (hm : 1 ≤ m ∧ m ≤ 4096) (g : Int) (t2 : Nat) (h2 : Cd.rdInt l t1 = .ok (g, t2)) (hg : g < 0) :
    Calls Tryz.prog 20 #[.pointer (some ⟨r, 0, none⟩)] w (HeadEr w r A len cap l t1 1) := by
  have q1 : decide ((m : Int) < 1) = false := decide_eq_false (by omega)
  have q2 : decide ((4096 : Int) < (m : Int)) = false := decide_eq_false (by omega)
  have q3 : decide (g < 0) = true := decide_eq_true hg
  have hen : Hid ((1 : Nat) ≠ 0) := Lib.hid (by decide)
  have E0 := Lib.hid h
  have HSZ := Lib.hid hsz
  go_enter Tryz.func20, Tryz.ntmps20
  have HB0 := Lib.hid (by have := num_any w r A len cap l 0 E0.out HSZ.out; rw [h1] at this; exact this)
  go_wp2_with (go_at_call 62; refine HB0.out.mono ?_; rintro e w1 ⟨⟨rfl, e2⟩, g2⟩; have E1 := Lib.hid e2; have G1 := Lib.hid g2; clear e2 g2; have c1 := E1.out.c1; have c2 := E1.out.c2)
  have HB1 := Lib.hid (by have := next_int64 w1 r 57 [] A len cap l t1 E1.out HSZ.out; rw [rdInt_shft E1.out.at_le, h2] at this; exact this)
  unfold i64V at HB1
  go_wp2_with (go_at_call 63; refine HB1.out.mono ?_; rintro e w2 ⟨⟨rfl, e2⟩, g2⟩; have E2 := Lib.hid e2; have G2 := Lib.hid g2; clear e2 g2 c1 c2; have c1 := E2.out.c1; have c2 := E2.out.c2)
  have HB2 := Lib.hid (fail1 w2 r _ rfl A len cap l t2 0 E2.out t1 1 (rdNum_le h1).1)
  go_wp2_with (go_at_call 24; refine HB2.out.mono ?_; rintro e w3 ⟨rfl, e2, g2⟩; have E3 := Lib.hid e2; have G3 := Lib.hid g2; clear e2 g2 c1 c2; have c1 := E3.out.c1; have c2 := E3.out.c2)
  have HB3 := Lib.hid (num_idle w3 r _ A len cap l t1 1 E3.out hen.out)
  go_wp2_with (go_at_call 62; refine HB3.out.mono ?_; rintro e w' ⟨rfl, rfl⟩)
  go_ret
  exact ⟨rfl, E3.out, ((G1.out.trans G2.out).trans G3.out)⟩
set_option maxRecDepth 20000 in
set_option maxHeartbeats 4000000 in
theorem head_e5 (w : World) (r : Nat) (A : Option Addr) (len cap : Nat) (l : List UInt8) (h : ER w r 57 [] A len cap l 0 0) (hsz : l.length ≤ 1000000) (m t1 : Nat) (h1 : rdNum l 0 = .ok (m, t1)) (hm : 1 ≤ m ∧ m ≤ 4096) (g : Int) (t2 : Nat) (h2 : Cd.rdInt l t1 = .ok (g, t2)) (hg : 0 ≤ g) (p en : Nat) (h3 : rdNum l t2 = .error (p, en)) :
    Calls Tryz.prog 20 #[.pointer (some ⟨r, 0, none⟩)] w (HeadEr w r A len cap l p en) := by
  have q1 : decide ((m : Int) < 1) = false := decide_eq_false (by omega)
  have q2 : decide ((4096 : Int) < (m : Int)) = false := decide_eq_false (by omega)
  have q3 : decide (g < 0) = false := decide_eq_false (by omega)
  have hen : Hid (en ≠ 0) := Lib.hid ((rdNum_er (rdInt_le h2) h3).2)
  have hn : ((en : Int) == 0) = false := by rw [beq_eq_false_iff_ne]; have := hen.out; omega
  have E0 := Lib.hid h
  have HSZ := Lib.hid hsz
  go_enter Tryz.func20, Tryz.ntmps20
  have HB0 := Lib.hid (by have := num_any w r A len cap l 0 E0.out HSZ.out; rw [h1] at this; exact this)
  go_wp2_with (go_at_call 62; refine HB0.out.mono ?_; rintro e w1 ⟨⟨rfl, e2⟩, g2⟩; have E1 := Lib.hid e2; have G1 := Lib.hid g2; clear e2 g2; have c1 := E1.out.c1; have c2 := E1.out.c2)
  have HB1 := Lib.hid (by have := next_int64 w1 r 57 [] A len cap l t1 E1.out HSZ.out; rw [rdInt_shft E1.out.at_le, h2] at this; exact this)
  unfold i64V at HB1
  go_wp2_with (go_at_call 63; refine HB1.out.mono ?_; rintro e w2 ⟨⟨rfl, e2⟩, g2⟩; have E2 := Lib.hid e2; have G2 := Lib.hid g2; clear e2 g2 c1 c2; have c1 := E2.out.c1; have c2 := E2.out.c2)
  have HB2 := Lib.hid (by have := num_any w2 r A len cap l t2 E2.out HSZ.out; rw [h3] at this; exact this)
  go_wp2_with (go_at_call 62; refine HB2.out.mono ?_; rintro e w3 ⟨⟨rfl, e2⟩, g2⟩; have E3 := Lib.hid e2; have G3 := Lib.hid g2; clear e2 g2 c1 c2; have c1 := E3.out.c1; have c2 := E3.out.c2)
  go_ret
  exact ⟨rfl, E3.out, ((G1.out.trans G2.out).trans G3.out)⟩
set_option maxRecDepth 20000 in
set_option maxHeartbeats 4000000 in
theorem head_e6 (w : World) (r : Nat) (A : Option Addr) (len cap : Nat) (l : List UInt8) (h : ER w r 57 [] A len cap l 0 0) (hsz : l.length ≤ 1000000) (m t1 : Nat) (h1 : rdNum l 0 = .ok (m, t1)) (hm : 1 ≤ m ∧ m ≤ 4096) (g : Int) (t2 : Nat) (h2 : Cd.rdInt l t1 = .ok (g, t2)) (hg : 0 ≤ g) (t3 : Nat) (h3 : rdNum l t2 = .ok (0, t3)) :
    Calls Tryz.prog 20 #[.pointer (some ⟨r, 0, none⟩)] w (HeadEr w r A len cap l t2 1) := by
  have q1 : decide ((m : Int) < 1) = false := decide_eq_false (by omega)
  have q2 : decide ((4096 : Int) < (m : Int)) = false := decide_eq_false (by omega)
  have q3 : decide (g < 0) = false := decide_eq_false (by omega)
  have hen : Hid ((1 : Nat) ≠ 0) := Lib.hid (by decide)
  have E0 := Lib.hid h
  have HSZ := Lib.hid hsz
  go_enter Tryz.func20, Tryz.ntmps20
  have HB0 := Lib.hid (by have := num_any w r A len cap l 0 E0.out HSZ.out; rw [h1] at this; exact this)
  go_wp2_with (go_at_call 62; refine HB0.out.mono ?_; rintro e w1 ⟨⟨rfl, e2⟩, g2⟩; have E1 := Lib.hid e2; have G1 := Lib.hid g2; clear e2 g2; have c1 := E1.out.c1; have c2 := E1.out.c2)
  have HB1 := Lib.hid (by have := next_int64 w1 r 57 [] A len cap l t1 E1.out HSZ.out; rw [rdInt_shft E1.out.at_le, h2] at this; exact this)
  unfold i64V at HB1
  go_wp2_with (go_at_call 63; refine HB1.out.mono ?_; rintro e w2 ⟨⟨rfl, e2⟩, g2⟩; have E2 := Lib.hid e2; have G2 := Lib.hid g2; clear e2 g2 c1 c2; have c1 := E2.out.c1; have c2 := E2.out.c2)
  have HB2 := Lib.hid (by have := num_any w2 r A len cap l t2 E2.out HSZ.out; rw [h3] at this; exact this)
  go_wp2_with (go_at_call 62; refine HB2.out.mono ?_; rintro e w3 ⟨⟨rfl, e2⟩, g2⟩; have E3 := Lib.hid e2; have G3 := Lib.hid g2; clear e2 g2 c1 c2; have c1 := E3.out.c1; have c2 := E3.out.c2)
  have HB3 := Lib.hid (fail1 w3 r _ rfl A len cap l t3 0 E3.out t2 1 (rdInt_le h2))
  go_wp2_with (go_at_call 24; refine HB3.out.mono ?_; rintro e w4 ⟨rfl, e2, g2⟩; have E4 := Lib.hid e2; have G4 := Lib.hid g2; clear e2 g2 c1 c2; have c1 := E4.out.c1; have c2 := E4.out.c2)
  go_ret
  exact ⟨rfl, E4.out, (((G1.out.trans G2.out).trans G3.out).trans G4.out)⟩
def HeadQ (w : World) (r : Nat) (A : Option Addr) (len cap : Nat) (l : List UInt8) (e : Ending) (w' : World) : Prop :=
  match rdHd l with
  | .ok ((m, g, x), t) => HeadOk w r A len cap l m g x t e w' ∧ (1 ≤ m ∧ m ≤ 4096) ∧ 0 ≤ g ∧ (0 < x ∧ x ≤ 4611686018427387904)
  | .error (p, en) => HeadEr w r A len cap l p en e w' ∧ en ≠ 0
theorem head_any (w : World) (r : Nat) (A : Option Addr) (len cap : Nat) (l : List UInt8) (h : ER w r 57 [] A len cap l 0 0) (hsz : l.length ≤ 1000000) :
    Calls Tryz.prog 20 #[.pointer (some ⟨r, 0, none⟩)] w (HeadQ w r A len cap l) := by
  rcases h1 : rdNum l 0 with ⟨p, en⟩ | ⟨m, t1⟩
  · have hr : rdHd l = .error (p, en) := by unfold rdHd; rw [h1]
    exact (head_e1 w r A len cap l h hsz p en h1).mono fun e w' hh => by unfold HeadQ; rw [hr]; exact ⟨hh, (rdNum_er (Nat.zero_le _) h1).2⟩
  · by_cases hm : m < 1
    · have hr : rdHd l = .error (0, 1) := by unfold rdHd; rw [h1]; simp only; rw [if_pos (.inl hm)]
      exact (head_e2a w r A len cap l h hsz m t1 h1 hm).mono fun e w' hh => by unfold HeadQ; rw [hr]; exact ⟨hh, by decide⟩
    by_cases hm2 : 4096 < m
    · have hr : rdHd l = .error (0, 1) := by unfold rdHd; rw [h1]; simp only; rw [if_pos (.inr hm2)]
      exact (head_e2b w r A len cap l h hsz m t1 h1 hm2).mono fun e w' hh => by unfold HeadQ; rw [hr]; exact ⟨hh, by decide⟩
    have hmm : 1 ≤ m ∧ m ≤ 4096 := by omega
    have hmn : ¬ (m < 1 ∨ 4096 < m) := by omega
    rcases h2 : Cd.rdInt l t1 with ⟨p, en⟩ | ⟨g, t2⟩
    · have hr : rdHd l = .error (p, en) := by unfold rdHd; rw [h1]; simp only; rw [if_neg hmn, h2]
      exact (head_e3 w r A len cap l h hsz m t1 h1 hmm p en h2).mono fun e w' hh => by unfold HeadQ; rw [hr]; exact ⟨hh, by have := rdInt_er (rdNum_le h1).1 h2; omega⟩
    · by_cases hg : g < 0
      · have hr : rdHd l = .error (t1, 1) := by unfold rdHd; rw [h1]; simp only; rw [if_neg hmn, h2]; simp only; rw [if_pos hg]
        exact (head_e4 w r A len cap l h hsz m t1 h1 hmm g t2 h2 hg).mono fun e w' hh => by unfold HeadQ; rw [hr]; exact ⟨hh, by decide⟩
      rcases h3 : rdNum l t2 with ⟨p, en⟩ | ⟨x, t3⟩
      · have hr : rdHd l = .error (p, en) := by unfold rdHd; rw [h1]; simp only; rw [if_neg hmn, h2]; simp only; rw [if_neg hg, h3]
        exact (head_e5 w r A len cap l h hsz m t1 h1 hmm g t2 h2 (by omega) p en h3).mono fun e w' hh => by unfold HeadQ; rw [hr]; exact ⟨hh, (rdNum_er (rdInt_le h2) h3).2⟩
      · by_cases hx : x = 0
        · subst hx
          have hr : rdHd l = .error (t2, 1) := by unfold rdHd; rw [h1]; simp only; rw [if_neg hmn, h2]; simp only; rw [if_neg hg, h3]; simp only; rw [if_pos trivial]
          exact (head_e6 w r A len cap l h hsz m t1 h1 hmm g t2 h2 (by omega) t3 h3).mono fun e w' hh => by unfold HeadQ; rw [hr]; exact ⟨hh, by decide⟩
        · have hr : rdHd l = .ok ((m, g, x), t3) := by unfold rdHd; rw [h1]; simp only; rw [if_neg hmn, h2]; simp only; rw [if_neg hg, h3]; simp only; rw [if_neg hx]
          have hx2 : 0 < x ∧ x ≤ 4611686018427387904 := ⟨by omega, (rdNum_le h3).2⟩
          exact (head_ok w r A len cap l h hsz m g x t1 t2 t3 h1 h2 h3 hmm (by omega) hx2).mono fun e w' hh => by unfold HeadQ; rw [hr]; exact ⟨hh, hmm, by omega, hx2⟩
end Go.Proofs.YtpbheicfplpemaaGreat
