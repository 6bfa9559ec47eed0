/- QueueOnce: held, freed, long. -/
import Derived.Test.YtpbheicfplpemaaQuLeP
namespace Go.Proofs.Ytpbheicfplpemaa
open Go.RowKit

/-- a token, and whose it is -/
abbrev Hd := Int × ByteArray
def hdC (h : Hd) : List Value := [.int .i64 h.1, .string h.2]
theorem hdC_len (h : Hd) : (hdC h).length = 2 := rfl
theorem info_hold : (Try.prog.info? 53).map (fun i => (i.zero, i.size, i.bytes)) = some (some (.agg #[.int .i64 0, .string ⟨#[]⟩]), 2, 24) := by kernel_rfl
theorem hd_cells {w : World} {base n g cap : Nat} {hs : List Hd} (h : w.ownsRow base 53 2 (.slice (some ⟨g, 0, none⟩) n cap) n (hs.flatMap hdC)) (hn : hs.length = n) (k : Nat) (hk : k < hs.length) : w.cell? ⟨g, k * 2, none⟩ = some (.int .i64 (hs[k]).1) ∧ w.cell? ⟨g, k * 2 + 1, none⟩ = some (.string (hs[k]).2) := by
  have hx : ∀ j, j < 2 → w.cell? ⟨g, k * 2 + j, none⟩ = (hdC hs[k])[j]? := fun j hj => by
    rw [h.cellAt _ (by omega), flat_get hdC 2 hdC_len hs k j hj, List.getElem?_eq_getElem hk]
    rfl
  exact ⟨hx 0 (by omega), hx 1 (by omega)⟩
set_option maxRecDepth 20000 in
theorem held0 (w : World) (base n : Nat) (v : Value) (hs : List Hd) (h : w.ownsRow base 53 2 v n (hs.flatMap hdC)) (hn : hs.length = n) (hle : n ≤ 1000000) (tok : Int) (hne : ∀ x ∈ hs, x.1 ≠ tok) :
    Calls Try.prog 20 #[v, .int .i64 tok] w fun e w' => e = .returned (.int .i64 (-1)) ∧ w' = w := by
  obtain ⟨A, c, rfl⟩ := own_slice' h
  have HH := Lib.hid h
  clear h
  go_enter Try.func20, Try.ntmps20
  go_wp2_with fail
  go_loopw [5] (fun iv wr => ∃ k : Nat, k ≤ n ∧ iv = .int .i64 (k : Int) ∧ wr = w) (fun iv _ => n - (intOf iv).toNat)
  case atStart => exact ⟨0, by omega, rfl, rfl⟩
  case round =>
    obtain ⟨k, hk, rfl, rfl⟩ := hrel
    by_cases hlt : k < n
    · have hlt1 : (k : Int) < (n : Int) := by omega
      obtain ⟨g, c0, he, hvb, hg, hnc, hcm⟩ := own_at HH.out (by omega)
      injection he with he1 he2 he3
      subst he1 he3
      obtain ⟨d0, _⟩ := hd_cells HH.out hn k (by omega)
      have hq : (((hs[k]'(by omega)).1) == tok) = false := by rw [beq_eq_false_iff_ne]; exact hne _ (List.getElem_mem _)
      generalize (hs[k]'(by omega)).1 = y at *
      clear hne
      go_wp2_with fail
      go_roundw
      case measure => simp only [intOf]; omega
      case rel => exact ⟨k + 1, by omega, by go_num, by first | rfl | trivial⟩
    · obtain rfl : k = n := by omega
      have hlt1 : ¬ (k : Int) < (k : Int) := by omega
      go_wp2_with fail
      go_ret
      exact ⟨rfl, rfl⟩
set_option maxRecDepth 20000 in
theorem held1 (w : World) (base n : Nat) (v : Value) (hs : List Hd) (h : w.ownsRow base 53 2 v n (hs.flatMap hdC)) (hn : hs.length = n) (hle : n ≤ 1000000) (tok : Int) (i : Nat) (hi : i < hs.length) (he : (hs[i]).1 = tok) (hne : ∀ j (hj : j < i), (hs[j]'(by omega)).1 ≠ tok) :
    Calls Try.prog 20 #[v, .int .i64 tok] w fun e w' => e = .returned (.int .i64 (i : Int)) ∧ w' = w := by
  obtain ⟨A, c, rfl⟩ := own_slice' h
  have HH := Lib.hid h
  have HN := Lib.hid hne
  clear h hne
  go_enter Try.func20, Try.ntmps20
  go_wp2_with fail
  go_loopw [5] (fun iv wr => ∃ k : Nat, k ≤ i ∧ iv = .int .i64 (k : Int) ∧ wr = w) (fun iv _ => n - (intOf iv).toNat)
  case atStart => exact ⟨0, by omega, rfl, rfl⟩
  case round =>
    obtain ⟨k, hk, rfl, rfl⟩ := hrel
    have hlt1 : (k : Int) < (n : Int) := by omega
    obtain ⟨g, c0, he', hvb, hg, hnc, hcm⟩ := own_at HH.out (by omega)
    injection he' with he1 he2 he3
    subst he1 he3
    obtain ⟨d0, _⟩ := hd_cells HH.out hn k (by omega)
    by_cases hki : k < i
    · have hq : (((hs[k]'(by omega)).1) == tok) = false := by rw [beq_eq_false_iff_ne]; exact HN.out k hki
      generalize (hs[k]'(by omega)).1 = y at *
      go_wp2_with fail
      go_roundw
      case measure => simp only [intOf]; omega
      case rel => exact ⟨k + 1, by omega, by go_num, by first | rfl | trivial⟩
    · obtain rfl : k = i := by omega
      rw [he] at d0
      go_wp2_with fail
      go_ret
      exact ⟨rfl, rfl⟩
theorem hd_news {w : World} {base n g cap : Nat} {hs : List Hd} (h : w.ownsRow base 53 2 (.slice (some ⟨g, 0, none⟩) n cap) n (hs.flatMap hdC)) (hn : hs.length = n) (d m : Nat) (hd : d + m ≤ n) :
    ∀ j u, (((hs.drop d).take m).flatMap hdC)[j]? = some u → w.cell? ⟨g, d * 2 + j, none⟩ = some u := fun j u hj => by
  have hl : j < m * 2 := by
    have := (List.getElem?_eq_some_iff.1 hj).1
    rw [flat_len hdC 2 hdC_len, List.length_take, List.length_drop] at this
    have : min m (hs.length - d) ≤ m := Nat.min_le_left _ _
    have := Nat.mul_le_mul_right 2 this
    omega
  rw [h.cellAt _ (by omega)]
  have e1 : hs.flatMap hdC = (hs.take d).flatMap hdC ++ (hs.drop d).flatMap hdC := by rw [← List.flatMap_append, List.take_append_drop]
  have e2 : (hs.drop d).flatMap hdC = ((hs.drop d).take m).flatMap hdC ++ ((hs.drop d).drop m).flatMap hdC := by rw [← List.flatMap_append, List.take_append_drop]
  have hl1 : ((hs.take d).flatMap hdC).length = d * 2 := by rw [flat_len hdC 2 hdC_len, List.length_take, Nat.min_eq_left (by omega)]
  rw [e1, List.getElem?_append_right (by omega), hl1, show d * 2 + j - d * 2 = j from by omega, e2, List.getElem?_append_left (List.getElem?_eq_some_iff.1 hj).1, hj]
theorem hd_one : ∀ (hs : List Hd), ∀ u ∈ hs.flatMap hdC, u.oneCell' = true := fun hs u hu => by
  obtain ⟨x, _, hx⟩ := List.mem_flatMap.1 hu
  simp [hdC] at hx
  rcases hx with rfl | rfl <;> rfl
theorem hd_erase (hs : List Hd) (i : Nat) (hi : i < hs.length) : (hs.eraseIdx i).flatMap hdC = ((hs.drop 0).take i).flatMap hdC ++ ((hs.drop (i + 1)).take (hs.length - (i + 1))).flatMap hdC := by
  rw [List.eraseIdx_eq_take_drop_succ, List.flatMap_append, List.drop_zero, List.take_of_length_le (l := hs.drop (i + 1)) (by simp)]
set_option maxRecDepth 20000 in
set_option maxHeartbeats 1600000 in
theorem freed_any (w : World) (base n : Nat) (v : Value) (hs : List Hd) (h : w.ownsRow base 53 2 v n (hs.flatMap hdC)) (hn : hs.length = n) (hle : n ≤ 1000000) (i : Nat) (hi : i < n) :
    Calls Try.prog 21 #[v, .int .i64 (i : Int)] w fun e w' => ∃ v', e = .returned v' ∧ w'.ownsRow w.heap.size 53 2 v' (n - 1) ((hs.eraseIdx i).flatMap hdC) ∧ Below w.heap.size w w' := by
  obtain ⟨t0, hi', hz0, hz1, hz2⟩ := info_parts info_hold
  obtain ⟨g, c, rfl, hvb, hg, hnc, hcm⟩ := own_at h (by omega)
  have HH := Lib.hid h
  have HO1 : Hid (∀ w : World, w.ownsRow w.heap.size 53 2 (.slice none 0 0) 0 []) := Lib.hid (fun _ => World.ownsRow_nil _ _ _ _)
  have hin : (i : Int) ≤ (n : Int) := by omega
  have hin2 : (i : Int) + 1 ≤ (n : Int) := by omega
  have hL1 : Hid ((((hs.drop 0).take i).flatMap hdC).length = i * 2) := Lib.hid (by rw [flat_len hdC 2 hdC_len, List.length_take, List.drop_zero, Nat.min_eq_left (by omega)])
  have hL2 : Hid ((((hs.drop (i + 1)).take (hs.length - (i + 1))).flatMap hdC).length = (n - (i + 1)) * 2) := Lib.hid (by rw [flat_len hdC 2 hdC_len, List.length_take, List.length_drop, hn, Nat.min_self])
  have hM1 : Hid (0 + i ≤ maxLen) := Lib.hid (by unfold maxLen; omega)
  have hM2 : Hid ((0 + i) * 24 ≤ 140737488355328) := Lib.hid (by omega)
  have hM3 : Hid (0 + i + (n - (i + 1)) ≤ maxLen) := Lib.hid (by unfold maxLen; omega)
  have hM4 : Hid ((0 + i + (n - (i + 1))) * 24 ≤ 140737488355328) := Lib.hid (by omega)
  have HNA : Hid (∀ j u, (((hs.drop 0).take i).flatMap hdC)[j]? = some u → w.cell? ((⟨g, 0, none⟩ : Addr).add j) = some u) := Lib.hid (fun j u hj => by
    have e : (⟨g, 0, none⟩ : Addr).add j = ⟨g, 0 * 2 + j, none⟩ := by simp [Addr.add]; omega
    rw [e]
    exact hd_news h hn 0 i (by omega) j u hj)
  have HNB : Hid (∀ y : World, Below w.heap.size w y → ∀ j u, (((hs.drop (i + 1)).take (hs.length - (i + 1))).flatMap hdC)[j]? = some u → y.cell? ((⟨g, (i + 1) * 2, none⟩ : Addr).add j) = some u) := Lib.hid (fun y hy j u hj => by
    have e : (⟨g, (i + 1) * 2, none⟩ : Addr).add j = ⟨g, (i + 1) * 2 + j, none⟩ := by simp [Addr.add] <;> omega
    rw [e]
    exact (hy.cell (p := ⟨g, (i + 1) * 2 + j, none⟩) hg).trans (hd_news h hn (i + 1) (hs.length - (i + 1)) (by omega) j u hj))
  clear h
  go_enter Try.func21, Try.ntmps21
  go_upto_region 3 with (at_builtin; refine wpList_append_own_at _ rfl _ _ 48 rfl w.heap.size 53 t0 _ 2 24 Try.underlying48 hi' hz0 hz1 hz2 rfl (by decide) _ 0 [] rfl (HO1.out w) ⟨g, 0, none⟩ i c (((hs.drop 0).take i).flatMap hdC) rfl hL1.out HNA.out (hd_one _) hM1.out hM2.out (Nat.le_refl _) ?_; intro v1 y1 hown1 hgr1 _ _; have HW1 := Lib.hid hown1; have HG1 := Lib.hid ((Below.refl w.heap.size w).grown hgr1 (Nat.le_refl _) (fun r e => by cases e)); clear hown1 hgr1)
  obtain ⟨A1, k1, rfl⟩ := own_slice' HW1.out
  have HNC := Lib.hid (HNB.out y1 HG1.out)
  by_cases hci : c = i + 1
  · subst hci
    obtain rfl : n = i + 1 := by omega
    have hM5 : Hid (0 + i + 0 ≤ maxLen) := Lib.hid (by unfold maxLen; omega)
    have hM6 : Hid ((0 + i + 0) * 24 ≤ 140737488355328) := Lib.hid (by omega)
    go_wp2_with (at_builtin; refine wpList_append_own_at _ rfl _ _ 48 rfl w.heap.size 53 t0 _ 2 24 Try.underlying48 hi' hz0 hz1 hz2 rfl (by decide) _ _ _ rfl HW1.out ⟨g, 0, none⟩ 0 0 [] rfl rfl (fun j u hj => by simp at hj) (fun u hu => by cases hu) hM5.out hM6.out HG1.out.size ?_; intro v2 y2 hown2 hgr2 _ _; have HW2 := Lib.hid hown2; have HG2 := Lib.hid (HG1.out.grown hgr2 HG1.out.size (fun r e => (HW1.out.lt r e).1)); clear hown2 hgr2)
    go_ret
    have h2 := HW2.out
    have h3 : (hs.eraseIdx i).flatMap hdC = [] ++ ((hs.drop 0).take i).flatMap hdC ++ [] := by
      rw [hd_erase hs i (by omega), hn, Nat.sub_self, List.take_zero]
      simp
    rw [← h3, show 0 + i + 0 = i + 1 - 1 from by omega] at h2
    exact ⟨_, rfl, h2, HG2.out⟩
  · go_wp2_with (at_builtin; refine wpList_append_own_at _ rfl _ _ 48 rfl w.heap.size 53 t0 _ 2 24 Try.underlying48 hi' hz0 hz1 hz2 rfl (by decide) _ _ _ rfl HW1.out ⟨g, (i + 1) * 2, none⟩ (n - (i + 1)) (c - (i + 1)) (((hs.drop (i + 1)).take (hs.length - (i + 1))).flatMap hdC) rfl hL2.out HNC.out (hd_one _) hM3.out hM4.out HG1.out.size ?_; intro v2 y2 hown2 hgr2 _ _; have HW2 := Lib.hid hown2; have HG2 := Lib.hid (HG1.out.grown hgr2 HG1.out.size (fun r e => (HW1.out.lt r e).1)); clear hown2 hgr2)
    go_ret
    have h2 := HW2.out
    rw [List.nil_append, ← hd_erase hs i (by omega), show 0 + i + (n - (i + 1)) = n - 1 from by omega] at h2
    exact ⟨_, rfl, h2, HG2.out⟩
end Go.Proofs.Ytpbheicfplpemaa
