/- WmA: texts of wal, merged (a claim may hold few texts) -/
import Derived.Test.YteihedfmmiihiaaGreatCodeSpec
namespace Go.Proofs.YteihedfmmiihiaaGreat
open Go.RowKit

/-! ### sums and frames -/
def rowStep (c : Nat) : Nat := (c / 2) ^^^ (3988292384 * (c &&& 1))
def rowN (i : Nat) : Nat := rowStep (rowStep (rowStep (rowStep i)))
def sumHalf (c : Nat) : Nat := (c / 16) ^^^ rowN (c &&& 15)
def sumStep (c : Nat) (x : UInt8) : Nat := sumHalf (sumHalf (c ^^^ x.toNat))
def sumN (l : List UInt8) : Nat := 4294967295 - l.foldl sumStep 4294967295
theorem xor32 {a b : Nat} (ha : a < 4294967296) (hb : b < 4294967296) : a ^^^ b < 4294967296 := Nat.xor_lt_two_pow (n := 32) ha hb
theorem rowStep_lt {c : Nat} (h : c < 4294967296) : rowStep c < 4294967296 := by
  unfold rowStep
  refine xor32 (by omega) ?_
  rw [Nat.and_one_is_mod]
  omega
theorem rowN_lt {i : Nat} (h : i < 4294967296) : rowN i < 4294967296 := rowStep_lt (rowStep_lt (rowStep_lt (rowStep_lt h)))
theorem and15 (c : Nat) : c &&& 15 < 16 := by have := Nat.and_le_right (n := c) (m := 15); omega
theorem sumHalf_lt {c : Nat} (h : c < 4294967296) : sumHalf c < 4294967296 := xor32 (by omega) (rowN_lt (by have := and15 c; omega))
theorem sumStep_lt {c : Nat} (h : c < 4294967296) (x : UInt8) : sumStep c x < 4294967296 := sumHalf_lt (sumHalf_lt (xor32 h (by have := x.toNat_lt; omega)))
theorem fold_lt : ∀ (l : List UInt8) (c : Nat), c < 4294967296 → l.foldl sumStep c < 4294967296
  | [], _, h => h
  | x :: l, c, h => fold_lt l _ (sumStep_lt h x)
theorem sumN_lt (l : List UInt8) : sumN l < 4294967296 := by unfold sumN; omega
def le32 (n : Nat) : List UInt8 := [UInt8.ofNat (n % 256), UInt8.ofNat (n / 256 % 256), UInt8.ofNat (n / 65536 % 256), UInt8.ofNat (n / 16777216 % 256)]
theorem le32_len (n : Nat) : (le32 n).length = 4 := rfl
/-- the number of four bytes at a place -/
def get32 (l : List UInt8) (a : Nat) : Nat := (l.getD a 0).toNat + 256 * (l.getD (a + 1) 0).toNat + 65536 * (l.getD (a + 2) 0).toNat + 16777216 * (l.getD (a + 3) 0).toNat
theorem u8of (n : Nat) : (UInt8.ofNat (n % 256)).toNat = n % 256 := by rw [UInt8.toNat_ofNat']; omega
theorem get32_at {pre l rest : List UInt8} {n : Nat} (hn : n < 4294967296) (h : l = pre ++ (le32 n ++ rest)) : get32 l pre.length = n := by
  subst h
  have e : ∀ j, j < 4 → (pre ++ (le32 n ++ rest)).getD (pre.length + j) 0 = (le32 n).getD j 0 := fun j hj => by
    rw [List.getD_eq_getElem?_getD, List.getD_eq_getElem?_getD, List.getElem?_append_right (by omega), Nat.add_sub_cancel_left, List.getElem?_append_left (by rw [le32_len]; exact hj)]
  have e0 := e 0 (by omega)
  rw [Nat.add_zero] at e0
  unfold get32
  rw [e0, e 1 (by omega), e 2 (by omega), e 3 (by omega)]
  show (UInt8.ofNat (n % 256)).toNat + 256 * (UInt8.ofNat (n / 256 % 256)).toNat + 65536 * (UInt8.ofNat (n / 65536 % 256)).toNat + 16777216 * (UInt8.ofNat (n / 16777216 % 256)).toNat = n
  rw [u8of, u8of, u8of, u8of]
  omega
def frameB (b : List UInt8) : List UInt8 := le32 b.length ++ (le32 (sumN (le32 b.length)) ++ (b ++ le32 (sumN b)))
theorem frameB_len (b : List UInt8) : (frameB b).length = b.length + 12 := by unfold frameB; simp only [List.length_append, le32_len]; omega
/-- what reading a frame asks of the bytes -/
structure FrameAt (l b : List UInt8) : Prop where
  size : get32 l 0 = b.length
  head : get32 l 4 = sumN (l.take 4)
  body : (l.drop 8).take b.length = b
  tail : get32 l (8 + b.length) = sumN b
  len : b.length + 12 ≤ l.length
theorem frame_at {b rest : List UInt8} (hb : b.length < 4294967296) : FrameAt (frameB b ++ rest) b := by
  have e0 : frameB b ++ rest = [] ++ (le32 b.length ++ (le32 (sumN (le32 b.length)) ++ (b ++ (le32 (sumN b) ++ rest)))) := by unfold frameB; simp
  have e1 : frameB b ++ rest = le32 b.length ++ (le32 (sumN (le32 b.length)) ++ (b ++ (le32 (sumN b) ++ rest))) := by unfold frameB; simp
  have e2 : frameB b ++ rest = (le32 b.length ++ (le32 (sumN (le32 b.length)) ++ b)) ++ (le32 (sumN b) ++ rest) := by unfold frameB; simp
  refine ⟨get32_at hb e0, ?_, ?_, ?_, ?_⟩
  · have := get32_at (sumN_lt _) e1
    rw [le32_len] at this
    rw [this, e1, List.take_left' (le32_len _)]
  · have e3 : frameB b ++ rest = (le32 b.length ++ le32 (sumN (le32 b.length))) ++ (b ++ (le32 (sumN b) ++ rest)) := by unfold frameB; simp
    rw [e3, List.drop_left' (by simp [le32_len]), List.take_left]
  · have := get32_at (sumN_lt _) e2
    rwa [show (le32 b.length ++ (le32 (sumN (le32 b.length)) ++ b)).length = 8 + b.length from by simp only [List.length_append, le32_len]; omega] at this
  · rw [List.length_append, frameB_len]; omega
/-- a frame that was torn: either its head is not whole, or its head is right and tells of more than there is -/
def Torn (t : List UInt8) : Prop := t.length < 8 ∨ ∃ n, n ≤ 65536 ∧ get32 t 0 = n ∧ get32 t 4 = sumN (t.take 4) ∧ 8 ≤ t.length ∧ t.length < 8 + n + 4
theorem torn_of {b t u : List UInt8} (hb : b.length ≤ 65536) (h : frameB b = t ++ u) (hu : u ≠ []) : Torn t := by
  by_cases h8 : t.length < 8
  · exact .inl h8
  · right
    have hl : t.length + u.length = b.length + 12 := by rw [← frameB_len, h, List.length_append]
    have hu0 : 0 < u.length := List.length_pos_iff.2 hu
    have hf := frame_at (b := b) (rest := []) (by omega)
    rw [List.append_nil, h] at hf
    have g : ∀ a, a + 4 ≤ 8 → get32 (t ++ u) a = get32 t a := fun a ha => by
      unfold get32
      simp only [List.getD_eq_getElem?_getD]
      rw [List.getElem?_append_left (by omega), List.getElem?_append_left (by omega), List.getElem?_append_left (by omega), List.getElem?_append_left (by omega)]
    refine ⟨b.length, hb, by rw [← g 0 (by omega)]; exact hf.size, ?_, by omega, by omega⟩
    rw [← g 4 (by omega), hf.head, List.take_append_of_le_length (by omega)]
theorem torn_nil : Torn [] := .inl (by simp)
/-! ### runs -/
def runF (r : List UInt8) : List (List UInt8) :=
  if r.length ≤ 60000 then [1 :: r] else (0 :: r.take 60000) :: runF (r.drop 60000)
termination_by r.length
decreasing_by rw [List.length_drop]; omega
def runB (r : List UInt8) : List UInt8 := (runF r).flatMap frameB
theorem runF_le {r : List UInt8} (h : r.length ≤ 60000) : runF r = [1 :: r] := by rw [runF, if_pos h]
theorem runF_gt {r : List UInt8} (h : ¬ r.length ≤ 60000) : runF r = (0 :: r.take 60000) :: runF (r.drop 60000) := by rw [runF, if_neg h]
theorem runB_le {r : List UInt8} (h : r.length ≤ 60000) : runB r = frameB (1 :: r) := by unfold runB; rw [runF_le h]; simp
theorem runB_gt {r : List UInt8} (h : ¬ r.length ≤ 60000) : runB r = frameB (0 :: r.take 60000) ++ runB (r.drop 60000) := by unfold runB; rw [runF_gt h]; simp
/-- the frames of a run: none is empty, none too long -/
def FineF (fs : List (List UInt8)) : Prop := ∀ f ∈ fs, ∃ x ch, f = x :: ch ∧ ch.length ≤ 60000 ∧ (x = 0 ∨ x = 1)
theorem runF_fine (r : List UInt8) : FineF (runF r) := by
  by_cases h : r.length ≤ 60000
  · rw [runF_le h]
    intro f hf
    simp at hf
    exact ⟨1, r, hf, h, .inr rfl⟩
  · rw [runF_gt h]
    intro f hf
    rcases List.mem_cons.1 hf with rfl | hf
    · exact ⟨0, _, rfl, by rw [List.length_take]; omega, .inl rfl⟩
    · exact runF_fine (r.drop 60000) f hf
termination_by r.length
decreasing_by rw [List.length_drop]; omega
/-- what is handed out of frames: whole records, and where each ends -/
def yl : Nat → List UInt8 → List (List UInt8) → List (List UInt8 × Nat)
  | _, _, [] => []
  | _, _, [] :: _ => []
  | a, acc, (x :: ch) :: fs => if x = 0 then yl (a + (ch.length + 13)) (acc ++ ch) fs else (acc ++ ch, a + (ch.length + 13)) :: yl (a + (ch.length + 13)) [] fs
theorem runB_len_le {r : List UInt8} (h : r.length ≤ 60000) : (runB r).length = r.length + 13 := by rw [runB_le h, frameB_len]; simp
theorem yl_run (fs : List (List UInt8)) (r : List UInt8) (a : Nat) (acc : List UInt8) : yl a acc (runF r ++ fs) = (acc ++ r, a + (runB r).length) :: yl (a + (runB r).length) [] fs := by
  by_cases h : r.length ≤ 60000
  · rw [runF_le h, runB_len_le h]
    simp [yl]
  · rw [runF_gt h, runB_gt h, List.cons_append, List.length_append, frameB_len]
    have ih := yl_run fs (r.drop 60000) (a + ((r.take 60000).length + 13)) (acc ++ r.take 60000)
    rw [yl, if_pos rfl, ih, List.append_assoc, List.take_append_drop, List.length_cons]
    have e : a + ((r.take 60000).length + 13) + (runB (r.drop 60000)).length = a + ((r.take 60000).length + 1 + 12 + (runB (r.drop 60000)).length) := by omega
    rw [e]
termination_by r.length
decreasing_by rw [List.length_drop]; omega
/-- a run that was torn: whole frames, none of them the last, and a torn one -/
theorem run_torn (r t u : List UInt8) (h : runB r = t ++ u) (hu : u ≠ []) : ∃ fs x, t = fs.flatMap frameB ++ x ∧ Torn x ∧ FineF fs ∧ ∀ a acc, yl a acc fs = [] := by
  by_cases hr : r.length ≤ 60000
  · rw [runB_le hr] at h
    exact ⟨[], t, rfl, torn_of (by simp; omega) h hu, (by intro f hf; cases hf), fun a acc => rfl⟩
  · rw [runB_gt hr] at h
    have hfl := frameB_len (0 :: r.take 60000)
    by_cases hl : t.length < (frameB (0 :: r.take 60000)).length
    · refine ⟨[], t, rfl, ?_, (by intro f hf; cases hf), fun a acc => rfl⟩
      have e : frameB (0 :: r.take 60000) = t ++ (frameB (0 :: r.take 60000)).drop t.length := by
        have h1 : (frameB (0 :: r.take 60000) ++ runB (r.drop 60000)).take t.length = t := by rw [h, List.take_left]
        rw [List.take_append_of_le_length (by omega)] at h1
        conv => lhs; rw [← List.take_append_drop t.length (frameB (0 :: r.take 60000)), h1]
      exact torn_of (by simp only [List.length_cons, List.length_take]; omega) e (fun e0 => by have := congrArg List.length e0; simp only [List.length_drop, List.length_nil] at this; omega)
    · have e : t = frameB (0 :: r.take 60000) ++ t.drop (frameB (0 :: r.take 60000)).length := by
        have h1 : (t ++ u).take (frameB (0 :: r.take 60000)).length = frameB (0 :: r.take 60000) := by rw [← h, List.take_left]
        rw [List.take_append_of_le_length (by omega)] at h1
        conv => lhs; rw [← List.take_append_drop (frameB (0 :: r.take 60000)).length t, h1]
      have e2 : runB (r.drop 60000) = t.drop (frameB (0 :: r.take 60000)).length ++ u := by
        have h1 : (frameB (0 :: r.take 60000) ++ runB (r.drop 60000)).drop (frameB (0 :: r.take 60000)).length = runB (r.drop 60000) := List.drop_left
        rw [h, List.drop_append_of_le_length (by omega)] at h1
        exact h1.symm
      obtain ⟨fs, x, e3, h4, h5, h6⟩ := run_torn (r.drop 60000) _ u e2 hu
      refine ⟨(0 :: r.take 60000) :: fs, x, ?_, h4, ?_, ?_⟩
      · rw [List.flatMap_cons, List.append_assoc, ← e3]; exact e
      · intro f hf
        rcases List.mem_cons.1 hf with rfl | hf
        · exact ⟨0, _, rfl, by rw [List.length_take]; omega, .inl rfl⟩
        · exact h5 f hf
      · intro a acc
        rw [yl, if_pos rfl]
        exact h6 _ _
termination_by r.length
decreasing_by rw [List.length_drop]; omega
end Go.Proofs.YteihedfmmiihiaaGreat

namespace Go.Proofs.YteihedfmmiihiaaGreat.Cd

theorem toNat_lit (n : Nat) (h : n < 256) : (UInt8.ofNat n).toNat = n := by rw [UInt8.toNat_ofNat']; omega
theorem zero_pos_pow (i n : Nat) (h : n < 2 ^ (64 - 7 * i)) (hi : i = 9) : n < 2 := by subst hi; simpa using h
theorem div_pow (i n : Nat) (hi : i ≤ 8) (h : n < 2 ^ (64 - 7 * i)) : n / 128 < 2 ^ (64 - 7 * (i + 1)) := by
  rw [Nat.div_lt_iff_lt_mul (by omega)]
  have e : 2 ^ (64 - 7 * (i + 1)) * 128 = 2 ^ (64 - 7 * i) := by
    rw [show 64 - 7 * i = (64 - 7 * (i + 1)) + 7 from by omega, Nat.pow_add]
  rw [e]; exact h

theorem rd_wrote : ∀ (f i acc n : Nat) (pre rest : List UInt8), i + f = 10 → 0 < f → n < 2 ^ (64 - 7 * i) → (0 < i → 0 < n) →
    rdU (pre ++ (uB n ++ rest)) f pre.length i acc = .ok (acc + n * 2 ^ (7 * i), pre.length + (uB n).length) := by
  intro f
  induction f with
  | zero => intro i acc n pre rest _ h; omega
  | succ f ih =>
    intro i acc n pre rest hf _ hn hp
    by_cases h : n < 128
    · rw [uB_lt h]
      have ha : pre.length < (pre ++ ([UInt8.ofNat n] ++ rest)).length := by simp
      have hg : (pre ++ ([UInt8.ofNat n] ++ rest))[pre.length].toNat = n := by
        simp; omega
      have hb : ¬ (((pre ++ ([UInt8.ofNat n] ++ rest))[pre.length].toNat = 0 ∧ 0 < i) ∨ (i = 9 ∧ (pre ++ ([UInt8.ofNat n] ++ rest))[pre.length].toNat ≠ 1)) := by
        rw [hg]
        intro hx
        rcases hx with ⟨h0, hi⟩ | ⟨h9, h1⟩
        · have := hp hi; omega
        · have := zero_pos_pow i n hn h9; have := hp (by omega); omega
      rw [rdU_end ha hb (by rw [hg]; exact h), hg, Nat.mod_eq_of_lt h]
      simp
    · rw [uB_ge h]
      have ha : pre.length < (pre ++ ((UInt8.ofNat (n % 128 + 128) :: uB (n / 128)) ++ rest)).length := by simp
      have hg : (pre ++ ((UInt8.ofNat (n % 128 + 128) :: uB (n / 128)) ++ rest))[pre.length].toNat = n % 128 + 128 := by
        simp; omega
      have hi8 : i ≤ 8 := by
        rcases Nat.lt_or_ge i 9 with h9 | h9
        · omega
        · have := zero_pos_pow i n hn (by omega); omega
      have hb : ¬ (((pre ++ ((UInt8.ofNat (n % 128 + 128) :: uB (n / 128)) ++ rest))[pre.length].toNat = 0 ∧ 0 < i) ∨ (i = 9 ∧ (pre ++ ((UInt8.ofNat (n % 128 + 128) :: uB (n / 128)) ++ rest))[pre.length].toNat ≠ 1)) := by
        rw [hg]; omega
      rw [rdU_more ha hb (by rw [hg]; omega), hg]
      have e1 : pre ++ ((UInt8.ofNat (n % 128 + 128) :: uB (n / 128)) ++ rest) = (pre ++ [UInt8.ofNat (n % 128 + 128)]) ++ (uB (n / 128) ++ rest) := by simp
      have e2 : pre.length + 1 = (pre ++ [UInt8.ofNat (n % 128 + 128)]).length := by simp
      rw [e1, e2, ih (i + 1) _ (n / 128) _ rest (by omega) (by omega) (div_pow i n hi8 hn) (fun _ => by omega)]
      congr 1
      have e3 : (n % 128 + 128) % 128 = n % 128 := by omega
      rw [e3]
      have e4 : 2 ^ (7 * (i + 1)) = 128 * 2 ^ (7 * i) := by rw [show 7 * (i + 1) = 7 + 7 * i from by omega, Nat.pow_add]
      rw [e4]
      have e5 : n = n % 128 + 128 * (n / 128) := by omega
      refine Prod.ext ?_ ?_
      · show acc + n % 128 * 2 ^ (7 * i) + n / 128 * (128 * 2 ^ (7 * i)) = acc + n * 2 ^ (7 * i)
        conv => rhs; rw [e5]
        rw [Nat.add_mul, Nat.mul_assoc, Nat.mul_left_comm 128, ← Nat.add_assoc]
      · simp; omega

theorem rdUint_wrote (n : Nat) (hn : n < 18446744073709551616) (rest : List UInt8) : rdUint (uB n ++ rest) 0 = .ok (n, (uB n).length) := by
  have h := rd_wrote 10 0 0 n [] rest (by omega) (by omega) (by simpa using hn) (by omega)
  simpa [rdUint] using h

theorem unzig_zig (i : Int) : unzig (zig i) = i := by
  unfold unzig zig
  split <;> split <;> omega
theorem zig_inj {i k : Int} (h : zig i = zig k) : i = k := by rw [← unzig_zig i, h, unzig_zig]

theorem rdInt_wrote (i : Int) (hn : zig i < 18446744073709551616) (rest : List UInt8) : rdInt (uB (zig i) ++ rest) 0 = .ok (i, (uB (zig i)).length) := by
  rw [rdInt, rdUint_wrote _ hn]
  simp only [unzig_zig]
theorem rdText_wrote (l : List UInt8) (hn : l.length < 18446744073709551616) (rest : List UInt8) : rdText (textB l ++ rest) 0 = .ok (l, (textB l).length) := by
  rw [rdText, textB, List.append_assoc, rdUint_wrote _ hn]
  simp only [rdBytes]
  rw [if_pos (by simp)]
  simp

/-- do bytes begin with others? -/
theorem begins_uB {a b : Nat} (ha : a < 18446744073709551616) (hb : b < 18446744073709551616) : ((uB b).length ≤ (uB a).length ∧ (uB a).take (uB b).length = uB b) ↔ a = b := by
  constructor
  · rintro ⟨_, h⟩
    have e : uB a = uB b ++ (uB a).drop (uB b).length := by
      conv => lhs; rw [← List.take_append_drop (uB b).length (uB a)]
      rw [h]
    have h1 := rdUint_wrote a ha []
    rw [List.append_nil] at h1
    have h2 := rdUint_wrote b hb ((uB a).drop (uB b).length)
    rw [← e, h1] at h2
    injection h2 with h2
    injection h2
  · rintro rfl
    simp
theorem begins_textB {s t : List UInt8} (ha : s.length < 18446744073709551616) (hb : t.length < 18446744073709551616) : ((textB t).length ≤ (textB s).length ∧ (textB s).take (textB t).length = textB t) ↔ s = t := by
  constructor
  · rintro ⟨_, h⟩
    have e : textB s = textB t ++ (textB s).drop (textB t).length := by
      conv => lhs; rw [← List.take_append_drop (textB t).length (textB s)]
      rw [h]
    have h1 := rdText_wrote s ha []
    rw [List.append_nil] at h1
    have h2 := rdText_wrote t hb ((textB s).drop (textB t).length)
    rw [← e, h1] at h2
    injection h2 with h2
    injection h2
  · rintro rfl
    simp
theorem uB_mono : ∀ b a, a ≤ b → (uB a).length ≤ (uB b).length := by
  intro b
  induction b using Nat.strongRecOn with
  | ind b ih =>
    intro a hab
    by_cases ha : a < 128
    · rw [uB_lt ha]; have := uB_pos b; simp; omega
    · rw [uB_ge ha, uB_ge (show ¬ b < 128 by omega)]
      have := ih (b / 128) (by omega) (a / 128) (by omega)
      simp; omega
end Go.Proofs.YteihedfmmiihiaaGreat.Cd

namespace Go.Proofs.YteihedfmmiihiaaGreat
open Go.RowKit

/-- an entry; what is saved -/
structure En where
  term : Int
  data : ByteArray
deriving DecidableEq
structure Sv where
  term : Int
  vote : Int
  log : List En
def none0 : Sv := ⟨0, -1, []⟩
structure EnOk (x : En) : Prop where
  term : 1 ≤ x.term ∧ x.term ≤ 1152921504606846976
  data : x.data.size ≤ 65536
structure SvOk (s : Sv) : Prop where
  term : 0 ≤ s.term ∧ s.term ≤ 1152921504606846976
  vote : -1 ≤ s.vote ∧ s.vote ≤ 6
  log : s.log.length ≤ 4096
  en : ∀ x ∈ s.log, EnOk x
theorem none0_ok : SvOk none0 := ⟨by decide, by decide, by simp [none0], by intro x h; cases h⟩
def enB (x : En) : List UInt8 := Cd.uB x.term.toNat ++ Cd.textB x.data.data.toList
def cutN : List En → List En → Nat
  | x :: a, y :: b => if x = y then cutN a b + 1 else 0
  | _, _ => 0
theorem cutN_le : ∀ a b : List En, cutN a b ≤ a.length ∧ cutN a b ≤ b.length
  | [], _ => by simp [cutN]
  | _ :: _, [] => by simp [cutN]
  | x :: a, y :: b => by
    have := cutN_le a b
    unfold cutN
    split <;> simp <;> omega
theorem cutN_take : ∀ a b : List En, a.take (cutN a b) = b.take (cutN a b)
  | [], b => by simp [cutN]
  | _ :: _, [] => by simp [cutN]
  | x :: a, y :: b => by
    unfold cutN
    split
    · rename_i e; subst e; simp [cutN_take a b]
    · simp
/-- up to the cut they are the same; there they are not -/
theorem cutN_at : ∀ (a b : List En) (k : Nat), (∀ j (h1 : j < a.length) (h2 : j < b.length), j < k → a[j] = b[j]) → k ≤ a.length → k ≤ b.length → (∀ (h1 : k < a.length) (h2 : k < b.length), a[k] ≠ b[k]) → cutN a b = k
  | [], b, k, _, h1, _, _ => by simp at h1; subst h1; rfl
  | _ :: _, [], k, _, _, h2, _ => by simp at h2; subst h2; rfl
  | x :: a, y :: b, 0, _, _, _, h3 => by
    unfold cutN
    rw [if_neg (show ¬ x = y from h3 (by simp) (by simp))]
  | x :: a, y :: b, k + 1, h, h1, h2, h3 => by
    have e : x = y := h 0 (by simp) (by simp) (by omega)
    unfold cutN
    rw [if_pos e]
    congr 1
    refine cutN_at a b k (fun j j1 j2 jk => ?_) (by simpa using h1) (by simpa using h2) (fun k1 k2 => ?_)
    · exact h (j + 1) (by simp; omega) (by simp; omega) (by omega)
    · exact h3 (by simp; omega) (by simp; omega)
def recB (was s : Sv) : List UInt8 :=
  Cd.uB s.term.toNat ++ (Cd.uB (Cd.zig s.vote) ++ (Cd.uB (cutN was.log s.log) ++ (Cd.uB (s.log.length - cutN was.log s.log) ++ (s.log.drop (cutN was.log s.log)).flatMap enB)))
theorem cut_all (was s : Sv) : was.log.take (cutN was.log s.log) ++ s.log.drop (cutN was.log s.log) = s.log := by rw [cutN_take, List.take_append_drop]
/-! ### files -/
def repF : Sv → List Sv → List (List UInt8)
  | _, [] => []
  | s, x :: l => runF (recB s x) ++ repF x l
def repB (s : Sv) (l : List Sv) : List UInt8 := (repF s l).flatMap frameB
def lastS : Sv → List Sv → Sv
  | s, [] => s
  | _, x :: l => lastS x l
theorem repB_cons (s x : Sv) (l : List Sv) : repB s (x :: l) = runB (recB s x) ++ repB x l := by show (repF s (x :: l)).flatMap frameB = _; rw [repF, List.flatMap_append]; rfl
theorem repB_snoc : ∀ (l : List Sv) (s x : Sv), repB s (l ++ [x]) = repB s l ++ runB (recB (lastS s l) x)
  | [], s, x => by rw [List.nil_append, repB_cons]; simp [repB, repF, lastS]
  | y :: l, s, x => by rw [List.cons_append, repB_cons, repB_cons, repB_snoc l y x, List.append_assoc]; rfl
theorem lastS_snoc : ∀ (l : List Sv) (s x : Sv), lastS s (l ++ [x]) = x
  | [], _, _ => rfl
  | _ :: l, _, x => lastS_snoc l _ x
theorem repF_fine : ∀ (l : List Sv) (s : Sv), FineF (repF s l)
  | [], _ => by intro f hf; cases hf
  | x :: l, s => by
    intro f hf
    rcases List.mem_append.1 hf with hf | hf
    · exact runF_fine _ f hf
    · exact repF_fine l x f hf
/-- what is handed out of a file: each record, and where it ends -/
def ylS : Nat → Sv → List Sv → List (List UInt8 × Nat)
  | _, _, [] => []
  | a, s, x :: l => (recB s x, a + (runB (recB s x)).length) :: ylS (a + (runB (recB s x)).length) x l
theorem yl_rep (fs : List (List UInt8)) (hfs : ∀ a acc, yl a acc fs = []) : ∀ (l : List Sv) (s : Sv) (a : Nat), yl a [] (repF s l ++ fs) = ylS a s l
  | [], s, a => by rw [repF, List.nil_append]; exact hfs a []
  | x :: l, s, a => by rw [repF, List.append_assoc, yl_run, List.nil_append, yl_rep fs hfs l x]; rfl
/-- a file that says s: whole runs -/
def FileIs (l : List UInt8) (s : Sv) : Prop := ∃ ss, l = repB none0 ss ∧ lastS none0 ss = s ∧ ∀ x ∈ ss, SvOk x
theorem FileIs.nil : FileIs [] none0 := ⟨[], rfl, rfl, by simp⟩
theorem FileIs.more {l : List UInt8} {s x : Sv} (h : FileIs l s) (hx : SvOk x) : FileIs (l ++ runB (recB s x)) x := by
  obtain ⟨ss, rfl, rfl, hs⟩ := h
  refine ⟨ss ++ [x], (repB_snoc ss none0 x).symm, lastS_snoc _ _ _, fun y hy => ?_⟩
  rcases List.mem_append.1 hy with hy | hy
  · exact hs y hy
  · simp at hy; subst hy; exact hx
theorem FileIs.anew {x : Sv} (hx : SvOk x) : FileIs (runB (recB none0 x)) x := by
  have := FileIs.nil.more hx
  rwa [List.nil_append] at this
theorem lastS_ok : ∀ (ss : List Sv) (s : Sv), SvOk s → (∀ x ∈ ss, SvOk x) → SvOk (lastS s ss)
  | [], _, h, _ => h
  | x :: l, _, _, h => lastS_ok l x (h x List.mem_cons_self) (fun y hy => h y (List.mem_cons_of_mem _ hy))
theorem FileIs.ok {l : List UInt8} {s : Sv} (h : FileIs l s) : SvOk s := by
  obtain ⟨ss, _, rfl, hs⟩ := h
  exact lastS_ok ss none0 none0_ok hs
/-- bytes behind whole runs that say nothing: whole frames that are none of them the last of a run, and a torn one -/
def Rest (t : List UInt8) : Prop := ∃ fs x, t = fs.flatMap frameB ++ x ∧ Torn x ∧ FineF fs ∧ ∀ a acc, yl a acc fs = []
theorem Rest.nil : Rest [] := ⟨[], [], rfl, torn_nil, (by intro f hf; cases hf), fun _ _ => rfl⟩
theorem rest_of {r t u : List UInt8} (h : runB r = t ++ u) (hu : u ≠ []) : Rest t := run_torn r t u h hu
/-- what reading a file goes through -/
theorem file_frames {l t : List UInt8} {s : Sv} (h : FileIs l s) (ht : Rest t) : ∃ ss fs x, l ++ t = fs.flatMap frameB ++ x ∧ Torn x ∧ FineF fs ∧ yl 0 [] fs = ylS 0 none0 ss ∧ l = repB none0 ss ∧ lastS none0 ss = s ∧ ∀ y ∈ ss, SvOk y := by
  obtain ⟨ss, rfl, hl, hs⟩ := h
  obtain ⟨fs, x, rfl, h1, h2, h3⟩ := ht
  refine ⟨ss, repF none0 ss ++ fs, x, by rw [List.flatMap_append, List.append_assoc]; rfl, h1, fun f hf => ?_, yl_rep fs h3 ss none0 0, rfl, hl, hs⟩
  rcases List.mem_append.1 hf with hf | hf
  · exact repF_fine ss none0 f hf
  · exact h2 f hf
theorem ylS_end : ∀ (ss : List Sv) (s : Sv) (a : Nat), a + (repB s ss).length = ((ylS a s ss).getLast?.map (·.2)).getD a
  | [], s, a => by simp [repB, repF, ylS]
  | x :: l, s, a => by
    have ih := ylS_end l x (a + (runB (recB s x)).length)
    rw [repB_cons, List.length_append, ylS, ← Nat.add_assoc, ih, List.getLast?_cons]
    cases (ylS (a + (runB (recB s x)).length) x l).getLast? <;> rfl
end Go.Proofs.YteihedfmmiihiaaGreat
