/- queue: awake. -/
import Derived.Test.YtpbheicfplpemaaQuNone
namespace Go.Proofs.Ytpbheicfplpemaa
open Go.RowKit

def HeadY (w : World) (q : Nat) (most grace next : Int) (wv : Value) (t : Tk) (ts : List Tk) (O T : Nat) (om : Int → Option Ot) (tm : ByteArray → Option Int) (who : ByteArray) (now lease : Int) (e : Ending) (w' : World) : Prop :=
  ∃ wv', e = .returned (.tuple #[.string t.key, .int .i64 next, .int .i64 (t.att + 1), .int .i64 0]) ∧ QS w' q most grace (next + 1) wv' ts O T (updI om next ⟨{ t with att := t.att + 1 }, next, who, addI now lease⟩) (updS tm t.key next) ∧ NextR w wv wv' ∧ Turns (QSet q wv O T) w w'
/-- the first task is handed out where it is for the worker -/
theorem pollHead (w : World) (q : Nat) (most grace next : Int) (wv : Value) (t : Tk) (ts : List Tk) (O T : Nat) (om : Int → Option Ot) (tm : ByteArray → Option Int) (h : QS w q most grace next wv (t :: ts) O T om tm) (who : ByteArray) (now lease : Int) (hnx : next < 1000000000) (hle : 1 ≤ lease ∧ lease ≤ 9223372036854775807) (hno : -9223372036854775808 ≤ now ∧ now ≤ 9223372036854775807) (hg : -9223372036854775808 ≤ grace ∧ grace ≤ 9223372036854775807) (hr : ∀ x ∈ t :: ts, tkRdy x) (hat : ∀ x ∈ t :: ts, 0 ≤ x.att ∧ x.att ≤ 1000000000) (hp : isForI grace who now t = true) :
    Calls Try.prog 12 #[.pointer (some ⟨q, 0, none⟩), .string who, .int .i64 now, .int .i64 lease] w (HeadY w q most grace next wv t ts O T om tm who now lease) := by
  refine (pollQ w q most grace next wv (t :: ts) O T om tm h who now lease hnx hle hno hg hr hat).mono ?_
  rintro e w' (⟨_, hn, _⟩ | ⟨i, wv', hi, h1, h2, rfl, s, n, k⟩)
  · rw [hn t (List.mem_cons_self ..)] at hp
    cases hp
  · have hi0 : i = 0 := by
      rcases Nat.eq_zero_or_pos i with e | e
      · exact e
      · have := h2 0 e
        rw [show gT (t :: ts) 0 = t from rfl, hp] at this
        cases this
    subst hi0
    exact ⟨wv', rfl, s, n, k⟩
set_option maxRecDepth 20000 in
set_option maxHeartbeats 8000000 in
theorem awake_any (w : World) : Calls Try.prog 8 #[] w fun e w' => e = .returned (.bool true) ∧ Below w.heap.size w w' := by
  have HN := Lib.hid (newQ w 2 3 (by omega) (by omega) (by omega))
  go_enter Try.func8, Try.ntmps8
  go_upto_region 4 with (go_at_call 9; refine HN.out.mono ?_; rintro e w1 ⟨q, O, T, rfl, s1, l1, b1⟩; have S1 := Lib.hid s1; have L1 := Lib.hid l1; have B1 := Lib.hid b1; clear s1 l1 b1)
  have HP := Lib.hid (putQ w1 q 2 3 1 _ _ O T _ _ S1.out ⟨#[97]⟩ ⟨#[]⟩ 0 rfl (by simp) (by simp))
  clear HN
  go_upto_region 5 with (go_at_call 10; refine HP.out.mono ?_; rintro e w2 ⟨rfl, wv2, s2, n2, t2⟩; have S2 := Lib.hid s2; have N2 := Lib.hid n2; have T2 := Lib.hid t2; clear s2 n2 t2)
  have HQ := Lib.hid (pollHead w2 q 2 3 1 wv2 _ _ O T _ _ S2.out ⟨#[119]⟩ 0 5 (by omega) (by omega) (by omega) (by omega) (by intro t ht; simp at ht; subst ht; constructor <;> simp) (by intro t ht; simp at ht; subst ht; simp) (by simp [isForI]))
  clear HP
  go_upto_region 6 with (go_at_call 12; refine HQ.out.mono ?_; rintro e w3 ⟨wv3, rfl, s3, n3, t3⟩; have S3 := Lib.hid s3; have N3 := Lib.hid n3; have T3 := Lib.hid t3; clear s3 n3 t3)
  have HD := Lib.hid (done1 w3 q 2 3 _ wv3 _ O T _ _ S3.out 1 _ (if_pos rfl))
  clear HQ
  go_upto_region 7 with (go_at_call 14; refine HD.out.mono ?_; rintro e w4 ⟨rfl, s4, t4⟩; have S4 := Lib.hid s4; have T4 := Lib.hid t4; clear s4 t4)
  have HL := Lib.hid (lenQ w4 q 2 3 _ wv3 _ O T _ _ S4.out)
  clear HD
  simp only [List.length_nil] at HL
  go_wp2_with (go_at_call 11; refine HL.out.mono ?_; rintro e w5 ⟨rfl, rfl⟩)
  go_ret
  have L2 := N2.out.lo L1.out B1.out.size
  have hs2 := Nat.le_trans B1.out.size T2.out.size
  have L3 := N3.out.lo L2 hs2
  have K2 : Turns (fun i => w.heap.size ≤ i) w w2 := (Turns.of_below B1.out).then (T2.out.mono (fun i _ e => L1.out i e))
  have K3 := K2.then (T3.out.mono (fun i _ e => L2 i e))
  have K4 := K3.then (T4.out.mono (fun i _ e => L3 i e))
  exact ⟨rfl, K4.below (Nat.le_refl _) (fun _ _ e => e)⟩
end Go.Proofs.Ytpbheicfplpemaa
