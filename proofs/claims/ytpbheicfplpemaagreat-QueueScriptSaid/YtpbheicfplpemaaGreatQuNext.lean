/- queue: Next. -/
import Derived.Test.YtpbheicfplpemaaGreatQuTell
namespace Go.Proofs.YtpbheicfplpemaaGreat
open Go.RowKit

/-- when the first lease is over -/
def minU : List Ot → Int
  | [] => 0
  | x :: xs => xs.foldl (fun m y => min m y.until_) x.until_
theorem minU_snoc (zs : List Ot) (x : Ot) : minU (zs ++ [x]) = if zs.length = 0 then x.until_ else min (minU zs) x.until_ := by
  cases zs with
  | nil => rfl
  | cons z zs =>
    rw [if_neg (by simp)]
    show (zs ++ [x]).foldl (fun m (y : Ot) => min m y.until_) z.until_ = _
    rw [List.foldl_append]
    rfl
theorem minU_at {zs : List Ot} {k : Nat} (h : k < zs.length) : minU (zs.take (k + 1)) = if k = 0 then zs[k].until_ else min (minU (zs.take k)) zs[k].until_ := by
  rw [List.take_succ_eq_append_getElem h, minU_snoc, List.length_take, Nat.min_eq_left (by omega)]
set_option maxRecDepth 20000 in
set_option maxHeartbeats 4000000 in
theorem nextQ0 (w : World) (q : Nat) (zs : List Ot) (hl : zs.length ≤ 1000000)
    (hs : Calls Tryz.prog 72 #[.pointer (some ⟨q, 0, none⟩)] w fun e W' => ∃ v, e = .returned v ∧ W'.ownsRow w.heap.size 88 7 v zs.length (zs.flatMap otC) ∧ Below w.heap.size w W') :
    Calls Tryz.prog 35 #[.pointer (some ⟨q, 0, none⟩)] w fun e W' => e = .returned (.tuple #[.int .i64 (minU zs), .bool (decide (0 < zs.length))]) ∧ Below w.heap.size w W' := by
  have HQ := Lib.hid hs
  clear hs
  go_enter Tryz.func35, Tryz.ntmps35
  go_wp2_with fail
  refine HQ.out.mono ?_
  rintro e w1 ⟨v, rfl, ho, hb⟩
  obtain ⟨A1, c1, rfl⟩ := own_slice' ho
  have HO := Lib.hid ho
  have HB := Lib.hid hb
  clear ho hb
  go_wp2_with fail
  go_loopw [4, 12] (fun lv iv wr => ∃ k : Nat, k ≤ zs.length ∧ iv = .int .i64 (k : Int) ∧ lv = .int .i64 (minU (zs.take k)) ∧ Hid (Below w1.heap.size w1 wr)) (fun _ iv _ => zs.length - (intOf iv).toNat)
  case atStart => exact ⟨0, by omega, rfl, rfl, Lib.hid (Below.refl _ _)⟩
  case round =>
    obtain ⟨k, hk, rfl, rfl, hB⟩ := hrel
    by_cases hlt : k < zs.length
    · have hlt1 : (k : Int) < (zs.length : Int) := by omega
      obtain ⟨g, c0, he, hvb, hg, hnc, hcm⟩ := own_at HO.out (by omega)
      injection he with he1 he2 he3
      subst he1 he3
      have hx := ot_cells HO.out rfl k hlt
      have d0 := ((hB.out.cell (p := ⟨g, k * 7, none⟩) hg).trans (hx 0 (by omega)))
      have d1 := ((hB.out.cell (p := ⟨g, k * 7 + 1, none⟩) hg).trans (hx 1 (by omega)))
      have d2 := ((hB.out.cell (p := ⟨g, k * 7 + 2, none⟩) hg).trans (hx 2 (by omega)))
      have d3 := ((hB.out.cell (p := ⟨g, k * 7 + 3, none⟩) hg).trans (hx 3 (by omega)))
      have d4 := ((hB.out.cell (p := ⟨g, k * 7 + 4, none⟩) hg).trans (hx 4 (by omega)))
      have d5 := ((hB.out.cell (p := ⟨g, k * 7 + 5, none⟩) hg).trans (hx 5 (by omega)))
      have d6 := ((hB.out.cell (p := ⟨g, k * 7 + 6, none⟩) hg).trans (hx 6 (by omega)))
      have HSn := Lib.hid (minU_at hlt)
      clear hx
      generalize zs[k] = x at *
      generalize minU (zs.take k) = m at *
      simp only [otC, List.getElem?_cons_succ, List.getElem?_cons_zero] at d0 d1 d2 d3 d4 d5 d6
      have BX := Lib.hid (hB.out.trans ((Below.new wr (.cells #[.string x.tk.key, .string x.tk.sticky, .int .i64 x.tk.ready, .int .i64 x.tk.att, .int .i64 x.token, .string x.worker, .int .i64 x.until_] 88)).mono hB.out.size))
      have KX := Lib.hid (Blk.new wr 88 [.string x.tk.key, .string x.tk.sticky, .int .i64 x.tk.ready, .int .i64 x.tk.att, .int .i64 x.token, .string x.worker, .int .i64 x.until_])
      go_upto_region 6 with (fail)
      clear d0 d1 d2 d3 d4 d5 d6
      generalize wr.alloc (.cells #[.string x.tk.key, .string x.tk.sticky, .int .i64 x.tk.ready, .int .i64 x.tk.att, .int .i64 x.token, .string x.worker, .int .i64 x.until_] 88) = X at *
      have u6 := KX.out.cell 6
      simp only [List.getElem?_cons_succ, List.getElem?_cons_zero] at u6
      by_cases hk0 : k = 0
      · subst hk0
        have HE : Hid (minU (zs.take (0 + 1)) = x.until_) := Lib.hid (by rw [HSn.out, if_pos rfl])
        go_wp2_with fail
        go_roundw
        case measure => simp [intOf]; omega
        case rel => exact ⟨0 + 1, by omega, by go_num, by rw [HE.out], BX⟩
      · have hk1 : ((k : Int) == 0) = false := by rw [beq_eq_false_iff_ne]; omega
        by_cases hm : x.until_ < m
        · have hm1 : decide (x.until_ < m) = true := decide_eq_true hm
          have HE : Hid (minU (zs.take (k + 1)) = x.until_) := Lib.hid (by rw [HSn.out, if_neg hk0]; omega)
          clear hk0
          go_wp2_with fail
          go_roundw
          case measure => simp [intOf]; omega
          case rel => exact ⟨k + 1, by omega, by go_num, by rw [HE.out], BX⟩
        · have hm1 : decide (x.until_ < m) = false := decide_eq_false hm
          have HE : Hid (minU (zs.take (k + 1)) = m) := Lib.hid (by rw [HSn.out, if_neg hk0]; omega)
          clear hk0
          go_wp2_with fail
          go_roundw
          case measure => simp [intOf]; omega
          case rel => exact ⟨k + 1, by omega, by go_num, by rw [HE.out], BX⟩
    · obtain rfl : k = zs.length := by omega
      have hlt1 : ¬ (zs.length : Int) < (zs.length : Int) := by omega
      have HT : Hid (zs.take zs.length = zs) := Lib.hid List.take_length
      rw [HT.out]
      by_cases h0 : 0 < zs.length
      · have h1 : decide ((0 : Int) < (zs.length : Int)) = true := decide_eq_true (by omega)
        have h2 : Hid (decide (0 < zs.length) = true) := Lib.hid (decide_eq_true h0)
        clear h0
        go_wp2_with fail
        go_ret2
        exact ⟨by rw [h2.out]; rfl, HB.out.trans (hB.out.mono HB.out.size)⟩
      · have h1 : decide ((0 : Int) < (zs.length : Int)) = false := decide_eq_false (by omega)
        have h2 : Hid (decide (0 < zs.length) = false) := Lib.hid (decide_eq_false h0)
        clear h0
        go_wp2_with fail
        go_ret2
        exact ⟨by rw [h2.out]; rfl, HB.out.trans (hB.out.mono HB.out.size)⟩
theorem nextQ (w : World) (q : Nat) (most grace next : Int) (wv : Value) (ts : List Tk) (O T : Nat) (om : Int → Option Ot) (tm : ByteArray → Option Int) (h : QS w q most grace next wv ts O T om tm) (zs : List Ot) (hz : OutsS om zs) (ho : ∀ x ∈ zs, OtOk x) (hle : zs.length ≤ 1000000) :
    Calls Tryz.prog 35 #[.pointer (some ⟨q, 0, none⟩)] w fun e W' => e = .returned (.tuple #[.int .i64 (minU zs), .bool (decide (0 < zs.length))]) ∧ Below w.heap.size w W' :=
  nextQ0 w q zs hle (sortedQ w q most grace next wv ts O T om tm h zs hz ho hle)
end Go.Proofs.YtpbheicfplpemaaGreat
