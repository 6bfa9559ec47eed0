/- check: the document's small functions on twigs. -/
import Derived.Test.YtmacmejpcpdnnaaCkAwake
namespace Go.Proofs.Ytmacmejpcpdnnaa
open Go.RowKit

theorem rexpr_any (op : Nat) (w : World) : Calls Try.prog 53 #[.int .u8 op] w fun e w' => e = .returned (.bool (isExpr op)) ∧ w = w' := by
  go_enter Try.func53, Try.ntmps53
  go_wp2_with fail
  all_goals go_ret
  all_goals exact ⟨ret_bool (by unfold isExpr; rw [Bool.eq_iff_iff]; simp <;> omega), rfl⟩
theorem rstmt_any (op : Nat) (w : World) : Calls Try.prog 54 #[.int .u8 op] w fun e w' => e = .returned (.bool (isStmt op)) ∧ w = w' := by
  go_enter Try.func54, Try.ntmps54
  go_wp2_with fail
  all_goals go_ret
  all_goals exact ⟨ret_bool (by unfold isStmt; rw [Bool.eq_iff_iff]; simp <;> omega), rfl⟩
def namedB (op : Nat) : Bool := decide (op = 1 ∨ op = 2 ∨ op = 4 ∨ op = 5 ∨ op = 26 ∨ op = 56 ∨ op = 50 ∨ op = 51)
theorem named_any (op : Nat) (w : World) : Calls Try.prog 55 #[.int .u8 op] w fun e w' => e = .returned (.bool (namedB op)) ∧ w = w' := by
  go_enter Try.func55, Try.ntmps55
  go_wp2_with fail
  all_goals go_ret
  all_goals exact ⟨ret_bool (by unfold namedB; rw [Bool.eq_iff_iff]; simp at * <;> omega), rfl⟩
def leastI (op : Nat) : Int := if op = 2 ∨ op = 3 ∨ (20 ≤ op ∧ op ≤ 26) ∨ op = 50 ∨ op = 51 ∨ op = 56 ∨ op = 57 then 0 else if op = 6 ∨ op = 7 ∨ (30 ≤ op ∧ op ≤ 42) then 2 else 1
set_option maxHeartbeats 4000000 in
theorem least_any (op : Nat) (w : World) : Calls Try.prog 57 #[.int .u8 op] w fun e w' => e = .returned (.int .i64 (leastI op)) ∧ w = w' := by
  unfold leastI
  by_cases h1 : op = 2 ∨ op = 3 ∨ (20 ≤ op ∧ op ≤ 26) ∨ op = 50 ∨ op = 51 ∨ op = 56 ∨ op = 57
  · rw [if_pos h1]
    go_enter Try.func57, Try.ntmps57
    go_wp2_with fail
    all_goals (first | (exfalso; simp at *; omega) | (go_ret; exact ⟨rfl, rfl⟩))
  · rw [if_neg h1]
    by_cases h2 : op = 6 ∨ op = 7 ∨ (30 ≤ op ∧ op ≤ 42)
    · rw [if_pos h2]
      go_enter Try.func57, Try.ntmps57
      go_wp2_with fail
      all_goals (first | (exfalso; simp at *; omega) | (go_ret; exact ⟨rfl, rfl⟩))
    · rw [if_neg h2]
      go_enter Try.func57, Try.ntmps57
      go_wp2_with fail
      all_goals (first | (exfalso; simp at *; omega) | (go_ret; exact ⟨rfl, rfl⟩))
def mostI (op : Nat) : Int := if op = 1 ∨ op = 3 ∨ op = 25 ∨ op = 50 ∨ op = 51 then -1 else if op = 6 then 3 else leastI op
set_option maxHeartbeats 4000000 in
theorem most_any (op : Nat) (w : World) : Calls Try.prog 58 #[.int .u8 op] w fun e w' => e = .returned (.int .i64 (mostI op)) ∧ w = w' := by
  have HL := Lib.hid (least_any op)
  unfold mostI
  by_cases h1 : op = 1 ∨ op = 3 ∨ op = 25 ∨ op = 50 ∨ op = 51
  · rw [if_pos h1]
    go_enter Try.func58, Try.ntmps58
    go_wp2_with (go_at_call 57; refine (HL.out _).mono ?_; rintro e wn ⟨rfl, rfl⟩)
    all_goals (first | (exfalso; simp at *; omega) | (go_ret; exact ⟨rfl, rfl⟩))
  · rw [if_neg h1]
    by_cases h2 : op = 6
    · rw [if_pos h2]
      go_enter Try.func58, Try.ntmps58
      go_wp2_with (go_at_call 57; refine (HL.out _).mono ?_; rintro e wn ⟨rfl, rfl⟩)
      all_goals (first | (exfalso; simp at *; omega) | (go_ret; exact ⟨rfl, rfl⟩))
    · rw [if_neg h2]
      go_enter Try.func58, Try.ntmps58
      go_wp2_with (go_at_call 57; refine (HL.out _).mono ?_; rintro e wn ⟨rfl, rfl⟩)
      all_goals (first | (exfalso; simp at *; omega) | (go_ret; exact ⟨rfl, rfl⟩))
/-- may an Op be part i of n of another one? -/
def partB (up : Nat) (i n : Int) (op : Nat) : Bool :=
  if up = 1 then (if i = n - 1 then op == 3 else op == 2) else if up = 3 then isStmt op else if (up = 6 ∨ up = 7) ∧ 0 < i then op == 3 else if up = 53 then op == 3 else isExpr op
set_option maxHeartbeats 4000000 in
theorem part_any (up op : Nat) (i n : Int) (hi : 0 ≤ i ∧ i ≤ 1000000) (hn : 0 ≤ n ∧ n ≤ 1000000) (w : World) : Calls Try.prog 37 #[.int .u8 up, .int .i64 i, .int .i64 n, .int .u8 op] w fun e w' => e = .returned (.bool (partB up i n op)) ∧ w = w' := by
  have HE := Lib.hid (rexpr_any op)
  have HS := Lib.hid (rstmt_any op)
  have hb : ∀ k : Nat, ((op : Int) == (k : Int)) = (op == k) := fun k => by rw [Bool.eq_iff_iff]; simp; omega
  have HB := Lib.hid hb
  clear hb
  obtain ⟨hi1, hi2⟩ := hi
  obtain ⟨hn1, hn2⟩ := hn
  go_enter Try.func37, Try.ntmps37
  go_wp2_with (first | (go_at_call 53; refine (HE.out _).mono ?_; rintro e wn ⟨rfl, rfl⟩) | (go_at_call 54; refine (HS.out _).mono ?_; rintro e wn ⟨rfl, rfl⟩))
  all_goals go_ret
  all_goals refine ⟨ret_bool ?_, rfl⟩
  all_goals have h3 : ((op : Int) == 3) = (op == 3) := HB.out 3
  all_goals have h2 : ((op : Int) == 2) = (op == 2) := HB.out 2
  all_goals try simp only [h3, h2]
  all_goals clear h3 h2 HB HE HS
  all_goals simp only [beq_iff_eq, beq_eq_false_iff_ne, decide_eq_true_eq, decide_eq_false_iff_not, Bool.not_eq_true] at *
  all_goals unfold partB
  all_goals (first | (rw [if_pos (by omega), if_pos (by omega)]; done) | (rw [if_pos (by omega), if_neg (by omega)]; done) | (rw [if_neg (by omega), if_pos (by omega)]; done) | (rw [if_neg (by omega), if_neg (by omega), if_pos (by omega)]; done) | (rw [if_neg (by omega), if_neg (by omega), if_neg (by omega), if_pos (by omega)]; done) | (rw [if_neg (by omega), if_neg (by omega), if_neg (by omega), if_neg (by omega)]; done))
set_option maxRecDepth 20000 in
set_option maxHeartbeats 1600000 in
theorem among_any (w : World) (g : Nat) (l : List ByteArray) (s : ByteArray) (h : Blk w g 9 (l.map kStr)) (hl : l.length ≤ 1000) :
    Calls Try.prog 76 #[.slice (some ⟨g, 0, none⟩) l.length l.length, .string s] w fun e w' => e = .returned (.bool (l.any (fun x => x.toList == s.toList))) ∧ w = w' := by
  have HB := Lib.hid h
  clear h
  go_enter Try.func76, Try.ntmps76
  go_wp2_with fail
  go_loopw [5] (fun iv wr => ∃ i : Nat, iv = .int .i64 (i : Int) ∧ i ≤ l.length ∧ w = wr ∧ Hid ((l.take i).any (fun x => x.toList == s.toList) = false)) (fun iv _ => l.length - (intOf iv).toNat)
  case atStart => exact ⟨0, rfl, Nat.zero_le _, rfl, Lib.hid (by simp)⟩
  case round =>
    obtain ⟨i, rfl, hi9, rfl, HP⟩ := hrel
    by_cases hlt : i < l.length
    · have hlt' : (i : Int) < (l.length : Int) := by omega
      have cj := HB.out.cell i
      rw [List.getElem?_map, List.getElem?_eq_getElem hlt] at cj
      simp only [Option.map_some, kStr] at cj
      cases hq : (l[i].toList == s.toList) with
      | true =>
        have HQ := Lib.hid hq
        go_wp2_with fail
        go_ret
        refine ⟨ret_bool ?_, rfl⟩
        exact List.any_eq_true.2 ⟨l[i], List.getElem_mem hlt, HQ.out⟩
      | false =>
        have HQ := Lib.hid hq
        go_wp2_with fail
        refine ⟨⟨i + 1, by go_num, by omega, by first | rfl | trivial, Lib.hid ?_⟩, by simp [intOf]; omega⟩
        rw [List.take_succ_eq_append_getElem hlt, List.any_append, HP.out]
        simp [HQ.out]
    · obtain rfl : i = l.length := by omega
      have hlt' : ¬ (l.length : Int) < (l.length : Int) := by omega
      go_wp2_with fail
      go_ret
      have := HP.out
      rw [List.take_length] at this
      refine ⟨ret_bool ?_, rfl⟩
      rw [this]
end Go.Proofs.Ytmacmejpcpdnnaa
