/- disk: what was synced lasts: the law's awake. -/
import Derived.Test.YtoljnklceghcdaaDkTwin
namespace Go.Proofs.Ytoljnklceghcdaa
open Go.RowKit Go.Maps Go.Sort Go.Shelf
variable {Xs : Nat → Prop}

theorem bs_lit (w : World) (l : List UInt8) (h : l.length ≤ maxLen) : Bs (w.alloc (.cells (Cd.bytesV l).toArray 5)) (some ⟨w.heap.size, 0, none⟩) l.length l :=
  .of_own (base := w.heap.size) (cap := l.length) ⟨by simp [Cd.bytesV], .inr ⟨w.heap.size, l.length, _, rfl, Nat.le_refl _, heap_alloc_new w _, Nat.le_refl _, h, by simp [Cd.bytesV], by rw [Nat.mul_one]; exact List.take_of_length_le (by simp [Cd.bytesV])⟩⟩ rfl
/-- Read of a file that is there -/
theorem readOk (w : World) (d F N : Nat) (s : Dk) (h : s.Is Xs w d F N) (k : ByteArray) (l : List UInt8) (n : Nat) (ho : s.off = false) (hk : s.p k = some (l, n)) (hL : l.length ≤ 100000000) :
    Calls Try.prog 13 #[.pointer (some ⟨d, 0, none⟩), .string k] w fun e w' => ∃ A c, e = .returned (.tuple #[.slice A l.length c, .int .i64 0]) ∧ Below w.heap.size w w' ∧ w'.ownsRow w.heap.size 5 1 (.slice A l.length c) l.length (Cd.bytesV l) := by
  have hp : pl s.p k = (l, n) := by simp [pl, hk]
  have ht : thC s.off (s.p k).isSome = 0 := by simp [thC, ho, hk]
  refine (readD w d F N s h k (by rw [hp]; exact hL)).mono ?_
  rintro e w' ⟨v, rfl, hb, _, h2⟩
  have h3 := h2 ht
  rw [hp] at h3
  obtain ⟨A, c, rfl⟩ := own_slice' h3
  exact ⟨A, c, by rw [ht], hb, h3⟩
/-- a disk without files -/
def s0 : Dk := ⟨false, -1, fun _ => none⟩
theorem keys_one {p : Fs} {x : List UInt8} (h1 : p (keyB x) ≠ none) (h2 : ∀ k, k ≠ keyB x → p k = none) : KeysOf p [x] := by
  refine ⟨by simp, fun k => ?_⟩
  rw [List.mem_singleton]
  constructor
  · intro e
    have : k = keyB x := key_inj e
    rw [this]
    exact h1
  · intro e
    by_cases hk : k = keyB x
    · rw [hk]; rfl
    · exact absurd (h2 k hk) e
def kA : ByteArray := ⟨#[97]⟩
def awS (n : Nat) : Dk := match n with
  | 0 => s0
  | 1 => ⟨false, -1, upd (fun _ => none) kA ([1, 2], 0)⟩
  | 2 => ⟨false, -1, upd (upd (fun _ => none) kA ([1, 2], 0)) kA ([1, 2], 2)⟩
  | _ => ⟨false, -1, upd (upd (upd (fun _ => none) kA ([1, 2], 0)) kA ([1, 2], 2)) kA ([1, 2, 3], 2)⟩
theorem aw1 : apS (awS 0) kA [1, 2] = awS 1 := by
  simp [apS, awS, s0, lessF, pl]
theorem aw2 : syS (awS 1) kA = awS 2 := by
  simp [syS, chS, awS, lessF, pl, upd]
theorem aw3 : apS (awS 2) kA [3] = awS 3 := by
  simp [apS, awS, lessF, pl, upd]
theorem aw4 (ks : List (List UInt8)) (h : KeysOf (awS 3).p ks) (n : Nat) (z : Nat → Int) (hn : n = 0) : crashF n z ks 0 (awS 3).p = upd (awS 3).p kA ([1, 2], 2) := by
  have h1 : KeysOf (awS 3).p [[97]] := keys_one (by simp [awS, upd, keyB, kA]) (fun k hk => by
    have : ¬ k = kA := hk
    simp [awS, upd, this])
  rw [h.one h1]
  have e1 : keyB [97] = kA := rfl
  have e2 : pl (awS 3).p kA = ([1, 2, 3], 2) := by simp [pl, awS, upd]
  subst hn
  simp [crashF, e1, e2, more]
set_option maxRecDepth 20000 in
set_option maxHeartbeats 1600000 in
theorem awake_any (w : World) : Calls Try.prog 7 #[] w fun e w' => e = .returned (.bool true) ∧ Below w.heap.size w w' := by
  have HN := Lib.hid (newD (Xs := fun _ => False) w)
  go_enter Try.func7, Try.ntmps7
  go_upto_region 2 with (go_at_call 9; refine HN.out.mono ?_; rintro e w1 ⟨rfl, s1, b1⟩; have S1 := Lib.hid s1; have B1 := Lib.hid b1; clear s1 b1)
  have HTW := Lib.hid (Turns.of_below (S := fun i => w.heap.size ≤ i) B1.out)
  generalize hF : w.heap.size = F at *
  have HF := Lib.hid hF
  clear hF B1
  have HP := Lib.hid (appendD _ (F + 1) F 0 (awS 0) (DS.bel S1.out (Below.new w1 (.cells (Cd.bytesV [1, 2]).toArray 5))) kA (some ⟨w1.heap.size, 0, none⟩) 2 2 [1, 2] (bs_lit w1 [1, 2] (by simp [maxLen])) (by omega) (by simp [awS, s0, pl]) (fun g hg => hg.elim))
  have HB2 := Lib.hid (Below.new w1 (.cells (Cd.bytesV [1, 2]).toArray 5))
  rw [aw1, show apC (awS 0) = 0 from rfl] at HP
  simp only [Cd.bytesV, Cd.byteV, List.map_cons, List.map_nil] at HP HB2
  go_upto_region 3 with (go_at_call 10; refine HP.out.mono ?_; rintro e w2 ⟨rfl, s2, t2⟩; have S2 := Lib.hid s2; have T2 := Lib.hid t2; clear s2 t2)
  have HQ := Lib.hid (syncD w2 (F + 1) F 1 (awS 1) S2.out kA)
  rw [aw2, show chC (awS 1) kA = 0 from rfl] at HQ
  go_upto_region 4 with (go_at_call 11; refine HQ.out.mono ?_; rintro e w3 ⟨rfl, s3, t3⟩; have S3 := Lib.hid s3; have T3 := Lib.hid t3; clear s3 t3)
  have HP3 := Lib.hid (appendD _ (F + 1) F 1 (awS 2) (DS.bel S3.out (Below.new w3 (.cells (Cd.bytesV [3]).toArray 5))) kA (some ⟨w3.heap.size, 0, none⟩) 1 1 [3] (bs_lit w3 [3] (by simp [maxLen])) (by omega) (by simp [awS, pl, upd]) (fun g hg => hg.elim))
  have HB4 := Lib.hid (Below.new w3 (.cells (Cd.bytesV [3]).toArray 5))
  rw [aw3, show apC (awS 2) = 0 from rfl] at HP3
  simp only [Cd.bytesV, Cd.byteV, List.map_cons, List.map_nil] at HP3 HB4
  go_upto_region 5 with (go_at_call 10; refine HP3.out.mono ?_; rintro e w4 ⟨rfl, s4, t4⟩; have S4 := Lib.hid s4; have T4 := Lib.hid t4; clear s4 t4)
  have HC := Lib.hid (crashD w4 (F + 1) F 2 (awS 3) S4.out (by omega) none 0 0 (fun _ => 0) (KeepR.nil _ _) (fun b o e => by cases e) (by omega) (fun k => by simp only [awS, pl_upd]; split <;> simp [pl]))
  go_upto_region 6 with (go_at_call 12; refine HC.out.mono ?_; rintro e w5 ⟨rfl, ks, hks, s5, t5⟩; have S5 := Lib.hid s5; have T5 := Lib.hid t5; have HKS := Lib.hid hks; clear s5 t5 hks)
  rw [aw4 ks HKS.out 0 _ rfl] at S5
  have HR := Lib.hid (readOk w5 (F + 1) F 2 ⟨false, -1, upd (awS 3).p kA ([1, 2], 2)⟩ S5.out kA [1, 2] 2 rfl (by simp [upd]) (by simp))
  go_upto_region 7 with (go_at_call 13; refine HR.out.mono ?_; rintro e w6 ⟨A6, c6, rfl, hb6, ho6⟩; have HO6 := Lib.hid ho6; have HB6 := Lib.hid hb6; clear hb6 ho6)
  have hcv := run_conv_bs (P := Try.prog) (Bs.of_own HO6.out rfl) 29 9 5 Try.underlying29 Try.underlying5 Try.underlying9 c6
  unfold strV at hcv
  clear HO6
  simp only [List.length_cons, List.length_nil, Nat.reduceAdd] at hcv
  go_wp2_with fail
  go_ret
  have ms : ∀ {a b : World}, Turns (DSet (F + 1) F) a b → Turns (fun i => F ≤ i) a b := fun t => t.mono (fun i _ e => by rcases e with e | e <;> omega)
  have K := ((((HTW.out.then (.of_below HB2.out)).then (ms T2.out)).then (ms T3.out)).then (.of_below HB4.out)).then (ms T4.out)
  have K2 := (K.then (ms T5.out)).then (.of_below HB6.out)
  exact ⟨rfl, K2.below (Nat.le_refl _) (fun _ _ e => by have := HF.out; omega)⟩
end Go.Proofs.Ytoljnklceghcdaa
