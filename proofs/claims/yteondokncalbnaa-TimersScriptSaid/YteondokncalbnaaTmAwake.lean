/- timers: awake, filled. -/
import Derived.Test.YteondokncalbnaaTmSet
import Derived.Test.YteondokncalbnaaTmDue
namespace Go.Proofs.Yteondokncalbnaa
open Go.RowKit

theorem TSet.lo {B t p M A : Nat} {v v' : Value} {w : World} (h : ∀ i, TSet t p v M A i → B ≤ i) (n : Next w v v') (hB : B ≤ w.heap.size) : ∀ i, TSet t p v' M A i → B ≤ i := by
  rintro i (hi | hi | hi)
  · exact h i (.inl hi)
  · exact h i (.inr (.inl hi))
  · exact HS.lo (fun j hj => h j (.inr (.inr hj))) n hB i hi
theorem one_due {now : Int} {x : Th} {zs ls xs : List Th} (hz : zs.Perm [x]) (h : DueP now zs ls xs) (hx : ∀ b ∈ xs, now < b.key) (hk : x.key ≤ now) : ls = [x] ∧ xs = [] := by
  have hp := h.perm.trans hz
  have h0 : xs = [] := by
    cases xs with
    | nil => rfl
    | cons b bs =>
      have h1 := hx b List.mem_cons_self
      have h2 : b ∈ [x] := hp.mem_iff.1 (List.mem_append_right _ List.mem_cons_self)
      simp at h2
      subst h2
      omega
  subst h0
  rw [List.append_nil] at hp
  exact ⟨List.perm_singleton.1 hp, rfl⟩
theorem tmeq (a c : Int) (b : ByteArray) (w : World) : (Op.equalIn 10000 31 (.agg #[.int .i64 a, .string b, .int .i64 c]) (.agg #[.int .i64 a, .string b, .int .i64 c])).run Try.prog w = .ok true w := by
  rw [run_equalIn_struct w 9999 _ _ _ (by kernel_rfl) (by kernel_rfl)]
  simp [Program.fieldsOf, Try.underlying31, Op.eqFields, go_sem]

set_option maxRecDepth 20000 in
set_option maxHeartbeats 4000000 in
theorem awake_any (w : World) : Calls Try.prog 9 #[] w fun e w' => e = .returned (.bool true) ∧ Below w.heap.size w w' := by
  go_enter Try.func9, Try.ntmps9
  go_wp2_with fail
  refine (newTab w).mono ?_
  rintro e w1 ⟨t, p, M, A, rfl, h0, hl, hb⟩
  have H0 := Lib.hid h0
  have HL := Lib.hid hl
  have HB := Lib.hid hb
  clear h0 hl hb
  go_wp2_with fail
  refine (set1 w1 t p _ M A [] 0 H0.out 3 ⟨#[97]⟩ 1 (by omega) (by simp) (by simp) (by omega)).mono ?_
  rintro e w2 ⟨rfl, zs, v2, p2, s2, n2, t2⟩
  have P2 := Lib.hid p2
  have S2 := Lib.hid s2
  have N2 := Lib.hid n2
  have T2 := Lib.hid t2
  clear p2 s2 n2 t2
  go_wp2_with fail
  refine (dueTab w2 t p v2 M A zs 1 3 S2.out).mono ?_
  rintro e w3 ⟨lv, rfl, ls, xs, v3, d3, l3, r3, s3, o3, t3⟩
  obtain ⟨rfl, rfl⟩ := one_due P2.out d3 l3 (by simp)
  obtain ⟨g, cap, rfl, hvb, hg, hnc, hcm⟩ := own_at r3 (by simp)
  have c0 := r3.cellAt 0 (by simp)
  have c1 := r3.cellAt 1 (by simp)
  have c2 := r3.cellAt 2 (by simp)
  simp [tmC, timV] at c0 c1 c2
  have S3 := Lib.hid s3
  have T3 := Lib.hid t3
  have HLen := Lib.hid (lenTab w3 t p v3 M A [] 1 s3)
  have heq := tmeq 3 1 ⟨#[97]⟩
  clear d3 l3 r3 s3 o3 t3 hvb
  simp only [List.length_singleton]
  go_wp2_with (go_at_call 13; refine HLen.out.mono ?_; rintro e w' ⟨rfl, rfl⟩)
  go_ret
  have b2 := HB.out.trans (T2.out.below HB.out.size (fun i _ hs => HL.out i hs))
  have l2 := TSet.lo HL.out N2.out HB.out.size
  exact ⟨rfl, b2.trans (T3.out.below b2.size (fun i _ hs => l2 i hs))⟩

/-! ### the timers of 'filled' -/
def ownr (j : Nat) : ByteArray := if j % 2 = 1 then ⟨#[98]⟩ else ⟨#[97]⟩
def tim (z : Nat → Int) (j : Nat) : Th := ⟨z j, j, timV (z j) (ownr j) (j : Int)⟩
def tims (z : Nat → Int) (n : Nat) : List Th := (List.range n).map (tim z)
theorem tims_succ (z : Nat → Int) (n : Nat) : tims z (n + 1) = tims z n ++ [tim z n] := by simp [tims, List.range_succ]
theorem tims_len (z : Nat → Int) (n : Nat) : (tims z n).length = n := by simp [tims]
theorem nm_tim (z : Nat → Int) (j : Nat) : nmOf (tim z j) = (ownr j, (j : Int)) := rfl
theorem mem_tims {z : Nat → Int} {n : Nat} {t : Th} : t ∈ tims z n ↔ t.num < n ∧ t = tim z t.num := by
  unfold tims
  rw [List.mem_map]
  constructor
  · rintro ⟨j, hj, rfl⟩
    exact ⟨List.mem_range.1 hj, rfl⟩
  · rintro ⟨h1, h2⟩
    exact ⟨t.num, List.mem_range.2 h1, h2.symm⟩
theorem tims_new {z : Nat → Int} {k : Nat} {xs : List Th} (h : xs.Perm (tims z k)) : ∀ t ∈ xs, nmOf t ≠ (ownr k, (k : Int)) := fun t ht e => by
  obtain ⟨h1, h2⟩ := mem_tims.1 (h.mem_iff.1 ht)
  rw [h2, nm_tim] at e
  injection e with _ e
  omega

/-- a slice of integers that came in -/
structure Ints (w : World) (a : Option Addr) (n : Nat) (z : Nat → Int) : Prop where
  cell : ∀ i, i < n → ∃ x, a = some x ∧ x.block < w.heap.size ∧ w.cell? (x.add i) = some (.int .i64 (z i))
  wf : ∀ i, i < n → -9223372036854775808 ≤ z i ∧ z i ≤ 9223372036854775807
theorem blk_add (a : Addr) (n : Nat) : (a.add n).block = a.block := by unfold Addr.add; split <;> rfl
theorem Ints.bel {w w' : World} {a : Option Addr} {n : Nat} {z : Nat → Int} (h : Ints w a n z) (hb : Below w.heap.size w w') : Ints w' a n z :=
  ⟨fun i hi => by
    obtain ⟨x, e, hx, hc⟩ := h.cell i hi
    exact ⟨x, e, Nat.lt_of_lt_of_le hx hb.size, (hb.cell (p := x.add i) (by rw [blk_add]; exact hx)).trans hc⟩, h.wf⟩

set_option maxRecDepth 20000 in
set_option maxHeartbeats 4000000 in
theorem filled_any (w : World) (a : Option Addr) (n cap : Nat) (z : Nat → Int) (h : Ints w a n z) (hn : n ≤ 1000) :
    Calls Try.prog 10 #[.slice a n cap] w fun e w' => ∃ t, e = .returned (.tuple #[.pointer (some ⟨t, 0, none⟩), .bool true]) ∧ ∃ p v M A xs, TabS w' t p v M A xs n ∧ xs.Perm (tims z n) ∧ (∀ i, TSet t p v M A i → w.heap.size ≤ i) ∧ Below w.heap.size w w' := by
  have HI := Lib.hid h
  clear h
  go_enter Try.func10, Try.ntmps10
  go_wp2_with fail
  refine (newTab w).mono ?_
  rintro e w1 ⟨t, p, M, A, rfl, h0, hl, hb⟩
  have H0 := Lib.hid h0
  have HL := Lib.hid hl
  have HB := Lib.hid hb
  clear h0 hl hb
  go_wp2_with fail
  go_loopw [5, 6] (fun i _ wr => ∃ (k : Nat) (v : Value) (xs : List Th), k ≤ n ∧ i = .int .i64 (k : Int) ∧ Hid (TabS wr t p v M A xs k) ∧ Hid (xs.Perm (tims z k)) ∧ Hid (∀ i, TSet t p v M A i → w.heap.size ≤ i) ∧ Hid (Below w.heap.size w wr)) (fun i _ _ => n - (intOf i).toNat)
  case atStart => exact ⟨0, _, [], by omega, rfl, H0, Lib.hid (by simp [tims]), HL, HB⟩
  case round =>
    obtain ⟨k, v, xs, hk, rfl, hH, hP, hL, hB⟩ := hrel
    by_cases hlt : k < n
    · have hlt1 : (k : Int) < (n : Int) := by omega
      obtain ⟨x, rfl, hxb, hc⟩ := (HI.out.bel hB.out).cell k hlt
      have hxl : Hid (xs.length = k) := Lib.hid (by rw [hP.out.length_eq, tims_len])
      have HS := Lib.hid (set1 wr t p v M A xs k hH.out (z k) (ownr k) (k : Int) (by omega) (tims_new hP.out) (by rw [hxl.out]; omega) (by omega))
      clear hxb
      by_cases hm : k % 2 = 1
      all_goals
        have ho : Hid (ownr k = if k % 2 = 1 then ⟨#[98]⟩ else ⟨#[97]⟩) := Lib.hid rfl
        have hs := HS.out
        rw [ho.out] at hs
        first | rw [if_pos hm] at hs | rw [if_neg hm] at hs
        have hs2 := Lib.hid hs
        clear hs
      · have hmI : (((k : Int) % 2) == 1) = true := by rw [beq_iff_eq]; omega
        go_wp2_with fail
        refine hs2.out.mono ?_
        rintro e w2 ⟨rfl, zs, v2, p2, h2, n2, t2⟩
        have H2 := Lib.hid h2
        have HB2 := Lib.hid (hB.out.trans (t2.below hB.out.size (fun i _ hs => hL.out i hs)))
        have HL2 := Lib.hid (TSet.lo hL.out n2 hB.out.size)
        have HP2 : Hid (zs.Perm (tims z (k + 1))) := Lib.hid (by rw [tims_succ]; unfold tim; rw [ho.out, if_pos hm]; exact p2.trans (hP.out.append_right _))
        clear h2 p2 n2 t2
        go_wp2_with fail
        go_roundw
        case measure => simp only [intOf]; omega
        case rel => exact ⟨k + 1, v2, zs, by omega, by go_num, H2, HP2, HL2, HB2⟩
      · have hmI : (((k : Int) % 2) == 1) = false := by rw [beq_eq_false_iff_ne]; omega
        go_wp2_with fail
        refine hs2.out.mono ?_
        rintro e w2 ⟨rfl, zs, v2, p2, h2, n2, t2⟩
        have H2 := Lib.hid h2
        have HB2 := Lib.hid (hB.out.trans (t2.below hB.out.size (fun i _ hs => hL.out i hs)))
        have HL2 := Lib.hid (TSet.lo hL.out n2 hB.out.size)
        have HP2 : Hid (zs.Perm (tims z (k + 1))) := Lib.hid (by rw [tims_succ]; unfold tim; rw [ho.out, if_neg hm]; exact p2.trans (hP.out.append_right _))
        clear h2 p2 n2 t2
        go_wp2_with fail
        go_roundw
        case measure => simp only [intOf]; omega
        case rel => exact ⟨k + 1, v2, zs, by omega, by go_num, H2, HP2, HL2, HB2⟩
    · have hlt1 : ¬ (k : Int) < (n : Int) := by omega
      go_wp2_with fail
      go_ret2
      obtain rfl : k = n := by omega
      exact ⟨t, rfl, p, v, M, A, xs, hH.out, hP.out, hL.out, hB.out⟩
end Go.Proofs.Yteondokncalbnaa
