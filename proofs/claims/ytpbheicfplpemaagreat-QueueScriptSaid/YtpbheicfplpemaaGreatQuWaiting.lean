/- queue: a task that waits is read of the bytes. -/
import Derived.Test.YtpbheicfplpemaaGreatQuAny
import Derived.Test.YtpbheicfplpemaaGreatQuPut
import Derived.Test.YtpbheicfplpemaaGreatQuLook
import Derived.Test.YtpbheicfplpemaaGreatQaA
import Derived.BigQuiet
namespace Go.Proofs.YtpbheicfplpemaaGreat
open Go.RowKit

theorem ER.turns {S : Nat → Prop} {w w' : World} {r : Nat} {T : TypeId} {more : List Value} {A : Option Addr} {len cap : Nat} {l : List UInt8} {a e : Nat} (h : ER w r T more A len cap l a e) (k : Turns S w w') (hr : ¬ S r) (hi : ∀ ad, A = some ad → 0 < l.length → ¬ S ad.block) : ER w' r T more A len cap l a e :=
  ⟨(k.block r h.lt hr).trans h.blk, ⟨h.inn.bs.kept k.size fun ad e h0 => k.block ad.block (h.inn.lt ad e h0) (hi ad e h0), fun ad e h0 => Nat.lt_of_lt_of_le (h.inn.lt ad e h0) k.size, h.inn.cap_le⟩, h.apart, h.at_le⟩
/-- what is read as a task that waits, and where and how the reader then is -/
def tk4 (l : List UInt8) (s : Nat × Nat) : Tk × (Nat × Nat) :=
  (⟨⟨(aft [] (Cd.rdText l) s).1.toArray⟩, ⟨(aft [] (Cd.rdText l) (aft [] (Cd.rdText l) s).2).1.toArray⟩, (aft 0 (Cd.rdInt l) (aft [] (Cd.rdText l) (aft [] (Cd.rdText l) s).2).2).1, ((aft 0 (rdNum l) (aft 0 (Cd.rdInt l) (aft [] (Cd.rdText l) (aft [] (Cd.rdText l) s).2).2).2).1 : Int)⟩,
   (aft 0 (rdNum l) (aft 0 (Cd.rdInt l) (aft [] (Cd.rdText l) (aft [] (Cd.rdText l) s).2).2).2).2)
def WaitingY (w : World) (q r : Nat) (most grace next : Int) (wv : Value) (ts : List Tk) (O T : Nat) (om : Int → Option Ot) (tm : ByteArray → Option Int) (A : Option Addr) (len cap : Nat) (l : List UInt8) (a : Nat) (e : Ending) (w' : World) : Prop :=
  e = .returned (.tuple #[]) ∧
  (((tk4 l (a, 0)).2.2 ≠ 0 ∧ ER w' r 57 [] A len cap l (tk4 l (a, 0)).2.1 (tk4 l (a, 0)).2.2 ∧ w.grownBy w' (some r)) ∨
   ((tk4 l (a, 0)).2.2 = 0 ∧ tm (tk4 l (a, 0)).1.key ≠ none ∧ ER w' r 57 [] A len cap l a 6 ∧ w.grownBy w' (some r)) ∨
   ((tk4 l (a, 0)).2.2 = 0 ∧ tm (tk4 l (a, 0)).1.key = none ∧ ER w' r 57 [] A len cap l (tk4 l (a, 0)).2.1 0 ∧
     ∃ wv', QS w' q most grace next wv' (ts ++ [(tk4 l (a, 0)).1]) O T om (updS tm (tk4 l (a, 0)).1.key 0) ∧ NextR w wv wv' ∧ Turns (fun i => QSet q wv O T i ∨ i = r) w w'))
set_option maxRecDepth 20000 in
set_option maxHeartbeats 4000000 in
theorem waiting_any (w : World) (q r : Nat) (most grace next : Int) (wv : Value) (ts : List Tk) (O T : Nat) (om : Int → Option Ot) (tm : ByteArray → Option Int) (A : Option Addr) (len cap : Nat) (l : List UInt8) (a : Nat)
    (h : ER w r 57 [] A len cap l a 0) (hq : QS w q most grace next wv ts O T om tm) (hne : ∀ i, QSet q wv O T i → i ≠ r) (hin : ∀ ad, A = some ad → 0 < l.length → ¬ QSet q wv O T ad.block) (hsz : l.length ≤ 1000000) (hf : ts.length < 100000) :
    Calls Tryz.prog 22 #[.pointer (some ⟨r, 0, none⟩), .pointer (some ⟨q, 0, none⟩)] w (WaitingY w q r most grace next wv ts O T om tm A len cap l a) := by
  have hat := h.at_le
  have c1 := h.c1
  obtain ⟨p1, e1⟩ : ∃ p, aft [] (Cd.rdText l) (a, 0) = p := ⟨_, rfl⟩
  obtain ⟨p2, e2⟩ : ∃ p, aft [] (Cd.rdText l) p1.2 = p := ⟨_, rfl⟩
  obtain ⟨p3, e3⟩ : ∃ p, aft 0 (Cd.rdInt l) p2.2 = p := ⟨_, rfl⟩
  obtain ⟨p4, e4⟩ : ∃ p, aft 0 (rdNum l) p3.2 = p := ⟨_, rfl⟩
  have HT := Lib.hid (show tk4 l (a, 0) = (⟨⟨p1.1.toArray⟩, ⟨p2.1.toArray⟩, p3.1, (p4.1 : Int)⟩, p4.2) by unfold tk4; rw [e1, e2, e3, e4])
  have H1 := Lib.hid (any_string w r A len cap l (a, 0) h hsz)
  rw [e1] at H1
  have H2 := Lib.hid (fun (X : World) (hX : ER X r 57 [] A len cap l p1.2.1 p1.2.2) => by
    have := any_string X r A len cap l p1.2 hX hsz
    rw [e2] at this
    exact this)
  have H3 := Lib.hid (fun (X : World) (hX : ER X r 57 [] A len cap l p2.2.1 p2.2.2) => by
    have := any_int64 X r A len cap l p2.2 hX hsz
    rw [e3] at this
    exact this)
  have H4 := Lib.hid (fun (X : World) (hX : ER X r 57 [] A len cap l p3.2.1 p3.2.2) => by
    have := any_num X r A len cap l p3.2 hX hsz
    rw [e4] at this
    exact this)
  clear e1 e2 e3 e4
  obtain ⟨x1, s1⟩ := p1
  obtain ⟨x2, s2⟩ := p2
  obtain ⟨x3, s3⟩ := p3
  obtain ⟨x4, t4, n4⟩ := p4
  have HQ := Lib.hid hq
  have HE := Lib.hid h
  unfold strV at H1 H2
  clear h hq
  go_enter Tryz.func22, Tryz.ntmps22
  go_wp2_with (go_at_call 65; refine H1.out.mono ?_; rintro e w1 ⟨rfl, h1, g1⟩; have E1 := Lib.hid h1; have G1 := Lib.hid g1; have HB := Lib.hid (H2.out w1 E1.out); clear h1 g1)
  go_wp2_with (go_at_call 65; refine HB.out.mono ?_; rintro e w2 ⟨rfl, h2, g2⟩; have E2 := Lib.hid h2; have G2 := Lib.hid g2; have HC := Lib.hid (H3.out w2 E2.out); clear h2 g2)
  go_wp2_with (go_at_call 63; refine HC.out.mono ?_; rintro e w3 ⟨rfl, h3, g3⟩; have E3 := Lib.hid h3; have G3 := Lib.hid g3; have HD := Lib.hid (H4.out w3 E3.out); clear h3 g3)
  have HG := Lib.hid ((G1.out.trans G2.out).trans G3.out)
  have HK := Lib.hid (fun (X : World) (g : w.grownBy X (some r)) => HQ.out.keep (Turns.of_grown (S := fun i => i = r) g (fun r' e => by injection e with e; exact e.symm)) (fun i hi e => hne i hi e))
  clear G1 G2 G3 E1 E2 E3 HB HC H1 H2 H3 H4 c1
  by_cases hn : n4 = 0
  · subst hn
    cases htm : tm ⟨x1.toArray⟩ with
    | some y =>
      go_wp2_with (go_at_call 62; refine HD.out.mono ?_; rintro e w4 ⟨rfl, h4, g4⟩; have E4 := Lib.hid h4; have G4 := Lib.hid (HG.out.trans g4); have c2 := (E4.out.below (Below.new w4 (.cells #[.string ⟨x1.toArray⟩, .string ⟨x2.toArray⟩, .int .i64 x3, .int .i64 (x4 : Int)] 85))).c2; have S4 := Lib.hid ((HK.out w4 G4.out).bel (Below.new w4 (.cells #[.string ⟨x1.toArray⟩, .string ⟨x2.toArray⟩, .int .i64 x3, .int .i64 (x4 : Int)] 85))); obtain ⟨q0, _, q2, q3, _, q5⟩ := S4.out.cells; clear h4 g4)
      have E5 := Lib.hid (E4.out.below (Below.new w4 (.cells #[.string ⟨x1.toArray⟩, .string ⟨x2.toArray⟩, .int .i64 x3, .int .i64 (x4 : Int)] 85)))
      have B5 := Lib.hid (Below.new w4 (.cells #[.string ⟨x1.toArray⟩, .string ⟨x2.toArray⟩, .int .i64 x3, .int .i64 (x4 : Int)] 85))
      have d0 : (w4.alloc (.cells #[.string ⟨x1.toArray⟩, .string ⟨x2.toArray⟩, .int .i64 x3, .int .i64 (x4 : Int)] 85)).cell? ⟨w4.heap.size, 0, none⟩ = some (.string ⟨x1.toArray⟩) := by rw [cell_of_row _ w4.heap.size 0 _ _ _ (heap_alloc_new w4 _)]; rfl
      have d1 : (w4.alloc (.cells #[.string ⟨x1.toArray⟩, .string ⟨x2.toArray⟩, .int .i64 x3, .int .i64 (x4 : Int)] 85)).cell? ⟨w4.heap.size, 1, none⟩ = some (.string ⟨x2.toArray⟩) := by rw [cell_of_row _ w4.heap.size 1 _ _ _ (heap_alloc_new w4 _)]; rfl
      have d2 : (w4.alloc (.cells #[.string ⟨x1.toArray⟩, .string ⟨x2.toArray⟩, .int .i64 x3, .int .i64 (x4 : Int)] 85)).cell? ⟨w4.heap.size, 2, none⟩ = some (.int .i64 x3) := by rw [cell_of_row _ w4.heap.size 2 _ _ _ (heap_alloc_new w4 _)]; rfl
      have d3 : (w4.alloc (.cells #[.string ⟨x1.toArray⟩, .string ⟨x2.toArray⟩, .int .i64 x3, .int .i64 (x4 : Int)] 85)).cell? ⟨w4.heap.size, 3, none⟩ = some (.int .i64 (x4 : Int)) := by rw [cell_of_row _ w4.heap.size 3 _ _ _ (heap_alloc_new w4 _)]; rfl
      generalize w4.alloc (.cells #[.string ⟨x1.toArray⟩, .string ⟨x2.toArray⟩, .int .i64 x3, .int .i64 (x4 : Int)] 85) = X at *
      have hlk : ∀ n, (Instr.lookup 79 (.map (some T)) (.string ⟨x1.toArray⟩) true).run Tryz.prog (X.drewN n) = .ok (.tuple #[.int .i64 y, .bool true]) (X.drewN n) := fun n => by
        obtain ⟨nT, hT⟩ := (S4.out.bel (below_drewN' (Below.refl X.heap.size X) n)).there
        have := lookS hT ⟨x1.toArray⟩ true
        rw [htm] at this
        simpa using this
      go_big_quiet (fail)
      have B6 := Lib.hid (below_drewN' (Below.refl X.heap.size X) nq)
      have HF := Lib.hid (fail1 (X.drewN nq) r _ rfl A len cap l t4 0 (E5.out.below B6.out) a 6 hat)
      go_wp2_with (go_at_call 24; refine HF.out.mono ?_; rintro e w5 ⟨rfl, h5, g5⟩; have E7 := Lib.hid h5; have G5 := Lib.hid g5; clear h5 g5)
      go_end0
      refine ⟨rfl, .inr (.inl ?_)⟩
      rw [HT.out]
      exact ⟨rfl, by rw [htm]; simp, E7.out, ((G4.out.trans (grown_of_below B5.out _)).trans (grown_of_below B6.out _)).trans G5.out⟩
    | none =>
      go_wp2_with (go_at_call 62; refine HD.out.mono ?_; rintro e w4 ⟨rfl, h4, g4⟩; have E4 := Lib.hid h4; have G4 := Lib.hid (HG.out.trans g4); have c2 := (E4.out.below (Below.new w4 (.cells #[.string ⟨x1.toArray⟩, .string ⟨x2.toArray⟩, .int .i64 x3, .int .i64 (x4 : Int)] 85))).c2; have S4 := Lib.hid ((HK.out w4 G4.out).bel (Below.new w4 (.cells #[.string ⟨x1.toArray⟩, .string ⟨x2.toArray⟩, .int .i64 x3, .int .i64 (x4 : Int)] 85))); obtain ⟨q0, _, q2, q3, _, q5⟩ := S4.out.cells; clear h4 g4)
      have E5 := Lib.hid (E4.out.below (Below.new w4 (.cells #[.string ⟨x1.toArray⟩, .string ⟨x2.toArray⟩, .int .i64 x3, .int .i64 (x4 : Int)] 85)))
      have B5 := Lib.hid (Below.new w4 (.cells #[.string ⟨x1.toArray⟩, .string ⟨x2.toArray⟩, .int .i64 x3, .int .i64 (x4 : Int)] 85))
      have d0 : (w4.alloc (.cells #[.string ⟨x1.toArray⟩, .string ⟨x2.toArray⟩, .int .i64 x3, .int .i64 (x4 : Int)] 85)).cell? ⟨w4.heap.size, 0, none⟩ = some (.string ⟨x1.toArray⟩) := by rw [cell_of_row _ w4.heap.size 0 _ _ _ (heap_alloc_new w4 _)]; rfl
      have d1 : (w4.alloc (.cells #[.string ⟨x1.toArray⟩, .string ⟨x2.toArray⟩, .int .i64 x3, .int .i64 (x4 : Int)] 85)).cell? ⟨w4.heap.size, 1, none⟩ = some (.string ⟨x2.toArray⟩) := by rw [cell_of_row _ w4.heap.size 1 _ _ _ (heap_alloc_new w4 _)]; rfl
      have d2 : (w4.alloc (.cells #[.string ⟨x1.toArray⟩, .string ⟨x2.toArray⟩, .int .i64 x3, .int .i64 (x4 : Int)] 85)).cell? ⟨w4.heap.size, 2, none⟩ = some (.int .i64 x3) := by rw [cell_of_row _ w4.heap.size 2 _ _ _ (heap_alloc_new w4 _)]; rfl
      have d3 : (w4.alloc (.cells #[.string ⟨x1.toArray⟩, .string ⟨x2.toArray⟩, .int .i64 x3, .int .i64 (x4 : Int)] 85)).cell? ⟨w4.heap.size, 3, none⟩ = some (.int .i64 (x4 : Int)) := by rw [cell_of_row _ w4.heap.size 3 _ _ _ (heap_alloc_new w4 _)]; rfl
      generalize w4.alloc (.cells #[.string ⟨x1.toArray⟩, .string ⟨x2.toArray⟩, .int .i64 x3, .int .i64 (x4 : Int)] 85) = X at *
      have hlk : ∀ n, (Instr.lookup 79 (.map (some T)) (.string ⟨x1.toArray⟩) true).run Tryz.prog (X.drewN n) = .ok (.tuple #[.int .i64 0, .bool false]) (X.drewN n) := fun n => by
        obtain ⟨nT, hT⟩ := (S4.out.bel (below_drewN' (Below.refl X.heap.size X) n)).there
        have := lookS hT ⟨x1.toArray⟩ true
        rw [htm] at this
        simpa using this
      go_big_quiet (fail)
      have B6 := Lib.hid (below_drewN' (Below.refl X.heap.size X) nq)
      have HW := Lib.hid (waitQ (X.drewN nq) q most grace next _ ts O T om tm (S4.out.bel B6.out) ⟨⟨x1.toArray⟩, ⟨x2.toArray⟩, x3, (x4 : Int)⟩ hf)
      unfold tkV at HW
      go_wp2_with (go_at_call 43; refine HW.out.mono ?_; rintro e w5 ⟨rfl, wv5, s5, n5, t5⟩; have S5 := Lib.hid s5; have N5 := Lib.hid n5; have T5 := Lib.hid t5; clear s5 n5 t5)
      go_end0
      refine ⟨rfl, .inr (.inr ?_)⟩
      rw [HT.out]
      have E6 := E5.out.below B6.out
      have hs := Nat.le_trans G4.out.size (Nat.le_trans B5.out.size B6.out.size)
      have K : Turns (fun i => QSet q wv O T i ∨ i = r) w (X.drewN nq) := ((Turns.of_grown G4.out (fun r' e => by injection e with e; exact .inr e.symm)).then (.of_below B5.out)).then (.of_below B6.out)
      exact ⟨rfl, htm, E6.turns T5.out (fun e => hne r e rfl) hin, wv5, S5.out, N5.out.later hs, K.then (T5.out.mono (fun i _ e => .inl e))⟩
  · have hb : ((n4 : Int) != 0) = true := by rw [bne_iff_ne]; omega
    go_wp2_with (go_at_call 62; refine HD.out.mono ?_; rintro e w4 ⟨rfl, h4, g4⟩; have E4 := Lib.hid h4; have G4 := Lib.hid (HG.out.trans g4); have c2 := (E4.out.below (Below.new w4 (.cells #[.string ⟨x1.toArray⟩, .string ⟨x2.toArray⟩, .int .i64 x3, .int .i64 (x4 : Int)] 85))).c2; clear h4 g4)
    go_end0
    refine ⟨rfl, .inl ?_⟩
    rw [HT.out]
    exact ⟨hn, E4.out.below (Below.new _ _), G4.out.trans (grown_of_below (Below.new _ _) _)⟩
end Go.Proofs.YtpbheicfplpemaaGreat
