/- The document's queue (prompterref22): number, count, head, waiting, away. -/
import Derived.Test.YtpbheicfplpemaaGreatRqMem
import Derived.Test.YtpbheicfplpemaaGreatCodeRefs
namespace Go.Proofs.YtpbheicfplpemaaGreat
open Go.RowKit

def natV (x : Nat) : Value := .int .i64 (x : Int)
set_option maxRecDepth 20000 in
theorem rqNumber (w : World) (A : Option Addr) (len cap : Nat) (l : List UInt8) (a : Nat) (h : Bs w A len l) (hat : a ≤ l.length) (hsz : l.length ≤ 1000000) :
    Calls Tryz.prog 67 #[.slice A len cap, .int .i64 (a : Int)] w fun e w' => Says natV (.int .i64 0) (rdNum l a) e ∧ w' = w := by
  have HC := Lib.hid (refUint_any w A len cap l a h hat hsz)
  clear h
  rcases hu : Cd.rdUint l a with ⟨p, en⟩ | ⟨n, t⟩
  · have hen : ((en : Int) != 0) = true := by rw [bne_iff_ne]; have := rdUint_errno hu; omega
    have HR : Hid (rdNum l a = .error (p, en)) := Lib.hid (by unfold rdNum; rw [hu])
    have HS := Lib.hid hu
    clear hu
    go_enter Tryz.func67, Tryz.ntmps67
    go_wp2_with fail
    refine HC.out.mono ?_
    rintro e w' ⟨hs, rfl⟩
    obtain rfl := hs.of_error HS.out
    go_wp2_with fail
    go_ret3
    refine ⟨?_, rfl⟩
    rw [HR.out]
    rfl
  · have hlt := Cd.rdUint_lt hu
    have HS := Lib.hid hu
    by_cases hn : 4611686018427387904 < n
    · have HR : Hid (rdNum l a = .error (a, 1)) := Lib.hid (by unfold rdNum; rw [hu]; simp only; rw [if_pos hn])
      have hn1 : (4611686018427387904 : Int) < (n : Int) := by omega
      clear hu hn hlt
      go_enter Tryz.func67, Tryz.ntmps67
      go_wp2_with fail
      refine HC.out.mono ?_
      rintro e w' ⟨hs, rfl⟩
      obtain rfl := hs.of_ok HS.out
      unfold u64V
      go_wp2_with fail
      go_ret3
      refine ⟨?_, rfl⟩
      rw [HR.out]
      rfl
    · have HR : Hid (rdNum l a = .ok (n, t)) := Lib.hid (by unfold rdNum; rw [hu]; simp only; rw [if_neg hn])
      have hn1 : ¬ (4611686018427387904 : Int) < (n : Int) := by omega
      have hcv : IntKind.i64.wrap (n : Int) = (n : Int) := wrap_i64' _ (by omega) (by omega)
      clear hu hn hlt
      go_enter Tryz.func67, Tryz.ntmps67
      go_wp2_with fail
      refine HC.out.mono ?_
      rintro e w' ⟨hs, rfl⟩
      obtain rfl := hs.of_ok HS.out
      unfold u64V
      go_wp2_with fail
      go_ret3
      refine ⟨?_, rfl⟩
      rw [HR.out]
      rfl
theorem rdCnt_num {l : List UInt8} {a n t : Nat} (h : rdNum l a = .ok (n, t)) (hn : ¬ 65536 < n) : rdCnt l a = .ok (n, t) := by unfold rdCnt; rw [h]; simp only; rw [if_neg hn]
set_option maxRecDepth 20000 in
theorem rqCount (w : World) (A : Option Addr) (len cap : Nat) (l : List UInt8) (a : Nat) (h : Bs w A len l) (hat : a ≤ l.length) (hsz : l.length ≤ 1000000) :
    Calls Tryz.prog 26 #[.slice A len cap, .int .i64 (a : Int)] w fun e w' => Says natV (.int .i64 0) (rdCnt l a) e ∧ w' = w := by
  have HC := Lib.hid (rqNumber w A len cap l a h hat hsz)
  clear h
  rcases hu : rdNum l a with ⟨p, en⟩ | ⟨n, t⟩
  · have hen : ((en : Int) == 0) = false := by rw [beq_eq_false_iff_ne]; have := rdNum_er hat hu; omega
    have HR : Hid (rdCnt l a = .error (p, en)) := Lib.hid (by unfold rdCnt; rw [hu])
    have HS := Lib.hid hu
    clear hu
    go_enter Tryz.func26, Tryz.ntmps26
    go_wp2_with fail
    refine HC.out.mono ?_
    rintro e w' ⟨hs, rfl⟩
    obtain rfl := hs.of_error HS.out
    go_wp2_with fail
    go_ret3
    refine ⟨?_, rfl⟩
    rw [HR.out]
    rfl
  · have HS := Lib.hid hu
    by_cases hn : 65536 < n
    · have HR : Hid (rdCnt l a = .error (a, 2)) := Lib.hid (by unfold rdCnt; rw [hu]; simp only; rw [if_pos hn])
      have hn1 : (65536 : Int) < (n : Int) := by omega
      have hn2 : decide ((65536 : Int) < (n : Int)) = true := decide_eq_true hn1
      clear hu hn
      go_enter Tryz.func26, Tryz.ntmps26
      go_wp2_with fail
      refine HC.out.mono ?_
      rintro e w' ⟨hs, rfl⟩
      obtain rfl := hs.of_ok HS.out
      unfold natV
      go_wp2_with fail
      go_ret3
      refine ⟨?_, rfl⟩
      rw [HR.out]
      rfl
    · have HR : Hid (rdCnt l a = .ok (n, t)) := Lib.hid (rdCnt_num hu hn)
      have hn1 : ¬ (65536 : Int) < (n : Int) := by omega
      have hn2 : decide ((65536 : Int) < (n : Int)) = false := decide_eq_false hn1
      clear hu hn
      go_enter Tryz.func26, Tryz.ntmps26
      go_wp2_with fail
      refine HC.out.mono ?_
      rintro e w' ⟨hs, rfl⟩
      obtain rfl := hs.of_ok HS.out
      unfold natV
      go_wp2_with fail
      go_ret3
      refine ⟨?_, rfl⟩
      rw [HR.out]
      rfl
def RHeadY (w : World) (l : List UInt8) (e : Ending) (w' : World) : Prop :=
  (match rdHd l with
  | .ok ((m, g, x), t) => ∃ r, e = .returned (.tuple #[.pointer (some ⟨r, 0, none⟩), .int .i64 (t : Int), .int .i64 0]) ∧ RQ w' r (m : Int) g ((x : Int) - 1) (.slice none 0 0) (.slice none 0 0) [] [] ∧ w.heap.size ≤ r
  | .error (p, en) => e = .returned (.tuple #[.pointer none, .int .i64 (p : Int), .int .i64 (en : Int)])) ∧ Below w.heap.size w w'
theorem RHeadY.er {w w' : World} {l : List UInt8} {p en : Nat} (h : rdHd l = .error (p, en)) (hb : Below w.heap.size w w') : RHeadY w l (.returned (.tuple #[.pointer none, .int .i64 (p : Int), .int .i64 (en : Int)])) w' := by
  unfold RHeadY
  rw [h]
  exact ⟨rfl, hb⟩
set_option maxRecDepth 20000 in
set_option maxHeartbeats 4000000 in
theorem rqHead (w : World) (A : Option Addr) (len cap : Nat) (l : List UInt8) (h : Bs w A len l) (hsz : l.length ≤ 1000000) :
    Calls Tryz.prog 25 #[.slice A len cap] w (RHeadY w l) := by
  have HC := Lib.hid (rqNumber w A len cap l 0 h (Nat.zero_le _) hsz)
  have HB := Lib.hid h
  clear h
  rcases h1 : rdNum l 0 with ⟨p, en⟩ | ⟨m, t1⟩
  · have hen : ((en : Int) != 0) = true := by rw [bne_iff_ne]; have := rdNum_er (Nat.zero_le _) h1; omega
    have HR : Hid (rdHd l = .error (p, en)) := Lib.hid (by unfold rdHd; rw [h1])
    have HS := Lib.hid h1
    clear h1
    go_enter Tryz.func25, Tryz.ntmps25
    go_wp2_with fail
    refine HC.out.mono ?_
    rintro e w' ⟨hs, rfl⟩
    obtain rfl := hs.of_error HS.out
    go_wp2_with fail
    go_ret3
    exact RHeadY.er HR.out (Below.refl _ _)
  have HS := Lib.hid h1
  by_cases hm : m < 1 ∨ 4096 < m
  · have HR : Hid (rdHd l = .error (0, 1)) := Lib.hid (by unfold rdHd; rw [h1]; simp only; rw [if_pos hm])
    by_cases hm1 : m < 1
    · have q1 : decide ((m : Int) < 1) = true := decide_eq_true (by omega)
      have q2 : (m : Int) < 1 := by omega
      clear h1 hm hm1
      go_enter Tryz.func25, Tryz.ntmps25
      go_wp2_with fail
      refine HC.out.mono ?_
      rintro e w' ⟨hs, rfl⟩
      obtain rfl := hs.of_ok HS.out
      unfold natV
      go_wp2_with fail
      go_ret3
      exact RHeadY.er HR.out (Below.refl _ _)
    · have q1 : decide ((m : Int) < 1) = false := decide_eq_false (by omega)
      have q2 : ¬ (m : Int) < 1 := by omega
      have q3 : (4096 : Int) < (m : Int) := by omega
      have q4 : decide ((4096 : Int) < (m : Int)) = true := decide_eq_true q3
      clear h1 hm hm1
      go_enter Tryz.func25, Tryz.ntmps25
      go_wp2_with fail
      refine HC.out.mono ?_
      rintro e w' ⟨hs, rfl⟩
      obtain rfl := hs.of_ok HS.out
      unfold natV
      go_wp2_with fail
      go_ret3
      exact RHeadY.er HR.out (Below.refl _ _)
  have q1 : decide ((m : Int) < 1) = false := decide_eq_false (by omega)
  have q2 : ¬ (m : Int) < 1 := by omega
  have q3 : ¬ (4096 : Int) < (m : Int) := by omega
  have q4 : decide ((4096 : Int) < (m : Int)) = false := decide_eq_false q3
  have HI := Lib.hid (refInt_any w A len cap l t1 HB.out (rdNum_le h1).1 hsz)
  rcases h2 : Cd.rdInt l t1 with ⟨p, en⟩ | ⟨g, t2⟩
  · have hen : ((en : Int) != 0) = true := by rw [bne_iff_ne]; have := rdInt_er (rdNum_le h1).1 h2; omega
    have HR : Hid (rdHd l = .error (p, en)) := Lib.hid (by unfold rdHd; rw [h1]; simp only; rw [if_neg hm, h2])
    have HS2 := Lib.hid h2
    clear h1 h2 hm
    go_enter Tryz.func25, Tryz.ntmps25
    go_wp2_with fail
    refine HC.out.mono ?_
    rintro e w' ⟨hs, rfl⟩
    obtain rfl := hs.of_ok HS.out
    unfold natV
    go_wp2_with fail
    refine HI.out.mono ?_
    rintro e w' ⟨hs, rfl⟩
    obtain rfl := hs.of_error HS2.out
    go_wp2_with fail
    go_ret3
    exact RHeadY.er HR.out (Below.refl _ _)
  have HS2 := Lib.hid h2
  by_cases hg : g < 0
  · have HR : Hid (rdHd l = .error (t1, 1)) := Lib.hid (by unfold rdHd; rw [h1]; simp only; rw [if_neg hm, h2]; simp only; rw [if_pos hg])
    clear h1 h2 hm
    go_enter Tryz.func25, Tryz.ntmps25
    go_wp2_with fail
    refine HC.out.mono ?_
    rintro e w' ⟨hs, rfl⟩
    obtain rfl := hs.of_ok HS.out
    unfold natV
    go_wp2_with fail
    refine HI.out.mono ?_
    rintro e w' ⟨hs, rfl⟩
    obtain rfl := hs.of_ok HS2.out
    unfold i64V
    go_wp2_with fail
    go_ret3
    exact RHeadY.er HR.out (Below.refl _ _)
  have HN := Lib.hid (rqNumber w A len cap l t2 HB.out (rdInt_le h2) hsz)
  rcases h3 : rdNum l t2 with ⟨p, en⟩ | ⟨x, t3⟩
  · have hen : ((en : Int) != 0) = true := by rw [bne_iff_ne]; have := rdNum_er (rdInt_le h2) h3; omega
    have HR : Hid (rdHd l = .error (p, en)) := Lib.hid (by unfold rdHd; rw [h1]; simp only; rw [if_neg hm, h2]; simp only; rw [if_neg hg, h3])
    have HS3 := Lib.hid h3
    clear h1 h2 hm h3
    go_enter Tryz.func25, Tryz.ntmps25
    go_wp2_with fail
    refine HC.out.mono ?_
    rintro e w' ⟨hs, rfl⟩
    obtain rfl := hs.of_ok HS.out
    unfold natV
    go_wp2_with fail
    refine HI.out.mono ?_
    rintro e w' ⟨hs, rfl⟩
    obtain rfl := hs.of_ok HS2.out
    unfold i64V
    go_wp2_with fail
    refine HN.out.mono ?_
    rintro e w' ⟨hs, rfl⟩
    obtain rfl := hs.of_error HS3.out
    go_wp2_with fail
    go_ret3
    exact RHeadY.er HR.out (Below.refl _ _)
  have HS3 := Lib.hid h3
  by_cases hx : x = 0
  · subst hx
    have HR : Hid (rdHd l = .error (t2, 1)) := Lib.hid (by unfold rdHd; rw [h1]; simp only; rw [if_neg hm, h2]; simp only; rw [if_neg hg, h3]; simp only; rw [if_pos trivial])
    clear h1 h2 hm h3
    go_enter Tryz.func25, Tryz.ntmps25
    go_wp2_with fail
    refine HC.out.mono ?_
    rintro e w' ⟨hs, rfl⟩
    obtain rfl := hs.of_ok HS.out
    unfold natV
    go_wp2_with fail
    refine HI.out.mono ?_
    rintro e w' ⟨hs, rfl⟩
    obtain rfl := hs.of_ok HS2.out
    unfold i64V
    go_wp2_with fail
    refine HN.out.mono ?_
    rintro e w' ⟨hs, rfl⟩
    obtain rfl := hs.of_ok HS3.out
    unfold natV
    go_wp2_with fail
    go_ret3
    exact RHeadY.er HR.out (Below.refl _ _)
  · have hx0 : ((x : Int) == 0) = false := by rw [beq_eq_false_iff_ne]; omega
    have hwx : IntKind.i64.wrap ((x : Int) - 1) = (x : Int) - 1 := wrap_i64' _ (by omega) (by have := (rdNum_le h3).2; omega)
    have HR : Hid (rdHd l = .ok ((m, g, x), t3)) := Lib.hid (by unfold rdHd; rw [h1]; simp only; rw [if_neg hm, h2]; simp only; rw [if_neg hg, h3]; simp only; rw [if_neg hx])
    clear h1 h2 hm h3
    go_enter Tryz.func25, Tryz.ntmps25
    go_wp2_with fail
    refine HC.out.mono ?_
    rintro e w' ⟨hs, rfl⟩
    obtain rfl := hs.of_ok HS.out
    unfold natV
    go_wp2_with fail
    refine HI.out.mono ?_
    rintro e w' ⟨hs, rfl⟩
    obtain rfl := hs.of_ok HS2.out
    unfold i64V
    go_wp2_with fail
    refine HN.out.mono ?_
    rintro e w' ⟨hs, rfl⟩
    obtain rfl := hs.of_ok HS3.out
    unfold natV
    go_wp2_with fail
    go_ret3
    unfold RHeadY
    rw [HR.out]
    exact ⟨⟨_, rfl, ⟨Blk.new _ 40 [.int .i64 (m : Int), .int .i64 g, .int .i64 ((x : Int) - 1), .slice none 0 0, .slice none 0 0], World.ownsRow_nil _ _ _ _, World.ownsRow_nil _ _ _ _, (fun g hg => by simp [Value.ownBlock] at hg), by simp⟩, Nat.le_refl _⟩, Below.new _ _⟩
end Go.Proofs.YtpbheicfplpemaaGreat
