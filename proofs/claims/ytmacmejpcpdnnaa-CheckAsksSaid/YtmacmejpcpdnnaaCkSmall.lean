/- check: the small functions of package tree. -/
import Derived.Test.YtmacmejpcpdnnaaCkPlain
import Derived.Test.YtmacmejpcpdnnaaNames
namespace Go.Proofs.Ytmacmejpcpdnnaa
open Go.RowKit

set_option maxRecDepth 20000 in
set_option maxHeartbeats 4000000 in
theorem kw_any (s : ByteArray) (w : World) : Calls Try.prog 16 #[.string s] w fun e w' => e = .returned (.bool (kwB s)) ∧ w = w' := by
  go_enter Try.func16, Try.ntmps16
  go_wp2_with fail
  all_goals go_ret
  all_goals exact ⟨ret_bool (by unfold kwB kws; simp_all), rfl⟩
theorem expr_any (op : Nat) (w : World) : Calls Try.prog 62 #[.int .u8 op] w fun e w' => e = .returned (.bool (isExpr op)) ∧ w = w' := by
  go_enter Try.func62, Try.ntmps62
  go_wp2_with fail
  all_goals go_ret
  all_goals exact ⟨ret_bool (by unfold isExpr; simp_all <;> omega), rfl⟩
theorem stmt_any (op : Nat) (w : World) : Calls Try.prog 61 #[.int .u8 op] w fun e w' => e = .returned (.bool (isStmt op)) ∧ w = w' := by
  go_enter Try.func61, Try.ntmps61
  go_wp2_with fail
  all_goals go_ret
  all_goals exact ⟨ret_bool (by unfold isStmt; rw [Bool.eq_iff_iff]; simp <;> omega), rfl⟩
/-- may a text stand there? -/
def txtB : Txt → ByteArray → Bool
  | .own, s => nameS s && !kwB s
  | .empty, s => decide (s.size = 0)
  | .short, s => decide (s.size ≤ 4095)
def txtF : Txt → Nat
  | .own => 44
  | .empty => 47
  | .short => 50
def prtF : Prt → Nat
  | .params => 45
  | .nothing => 46
  | .stmt => 48
  | .headed => 49
  | .expr => 51
  | .block => 52
theorem own_any (s : ByteArray) (hs : s.size ≤ maxLen) (w : World) : Calls Try.prog 44 #[.string s] w fun e w' => e = .returned (.bool (txtB .own s)) ∧ w = w' := by
  have HN := Lib.hid (name_any s hs)
  have HK := Lib.hid (kw_any s)
  unfold txtB
  rcases hn : nameS s with _ | _
  · have NB := Lib.hid hn
    clear hn
    go_enter Try.func44, Try.ntmps44
    go_wp2_with (go_at_call 15; refine (HN.out _).mono ?_; rintro e wn ⟨rfl, rfl⟩; rw [NB.out])
    go_ret
    exact ⟨ret_bool (by rw [NB.out]; rfl), rfl⟩
  · have NB := Lib.hid hn
    clear hn
    go_enter Try.func44, Try.ntmps44
    go_wp2_with (first | (go_at_call 15; refine (HN.out _).mono ?_; rintro e wn ⟨rfl, rfl⟩; rw [NB.out]) | (go_at_call 16; refine (HK.out _).mono ?_; rintro e wn ⟨rfl, rfl⟩))
    go_ret
    exact ⟨ret_bool (by rw [NB.out]; simp), rfl⟩
theorem empty_any (s : ByteArray) (w : World) : Calls Try.prog 47 #[.string s] w fun e w' => e = .returned (.bool (txtB .empty s)) ∧ w = w' := by
  by_cases h : s.size = 0
  · obtain rfl := eq_empty s h
    go_enter Try.func47, Try.ntmps47
    go_wp2_with fail
    go_ret
    exact ⟨rfl, rfl⟩
  · have hne := toList_not_nil s (by omega)
    have HE := Lib.hid (show txtB .empty s = false from decide_eq_false h)
    go_enter Try.func47, Try.ntmps47
    go_wp2_with fail
    go_ret
    exact ⟨ret_bool HE.out, rfl⟩
theorem short_any (s : ByteArray) (hs : s.size ≤ maxLen) (w : World) : Calls Try.prog 50 #[.string s] w fun e w' => e = .returned (.bool (txtB .short s)) ∧ w = w' := by
  unfold maxLen at hs
  go_enter Try.func50, Try.ntmps50
  go_wp2_with fail
  go_ret
  exact ⟨ret_bool (by unfold txtB; rw [Bool.eq_iff_iff]; simp <;> omega), rfl⟩
theorem txt_any (k : Txt) (s : ByteArray) (hs : s.size ≤ maxLen) (w : World) : Calls Try.prog (txtF k) #[.string s] w fun e w' => e = .returned (.bool (txtB k s)) ∧ w = w' := by
  cases k
  · exact own_any s hs w
  · exact empty_any s w
  · exact short_any s hs w
theorem block_any (i n : Int) (op : Nat) (w : World) : Calls Try.prog 52 #[.int .i64 i, .int .i64 n, .int .u8 op] w fun e w' => e = .returned (.bool (prtB .block i n op)) ∧ w = w' := by
  go_enter Try.func52, Try.ntmps52
  go_wp2_with fail
  go_ret
  exact ⟨ret_bool (by unfold prtB; rw [Bool.eq_iff_iff]; simp <;> omega), rfl⟩
theorem nothing_any (i n : Int) (op : Nat) (w : World) : Calls Try.prog 46 #[.int .i64 i, .int .i64 n, .int .u8 op] w fun e w' => e = .returned (.bool (prtB .nothing i n op)) ∧ w = w' := by
  go_enter Try.func46, Try.ntmps46
  go_wp2_with fail
  go_ret
  exact ⟨rfl, rfl⟩
theorem exprP_any (i n : Int) (op : Nat) (w : World) : Calls Try.prog 51 #[.int .i64 i, .int .i64 n, .int .u8 op] w fun e w' => e = .returned (.bool (prtB .expr i n op)) ∧ w = w' := by
  have HE := Lib.hid (expr_any op)
  go_enter Try.func51, Try.ntmps51
  go_wp2_with (go_at_call 62; refine (HE.out _).mono ?_; rintro e wn ⟨rfl, rfl⟩)
  go_ret
  exact ⟨rfl, rfl⟩
theorem stmtP_any (i n : Int) (op : Nat) (w : World) : Calls Try.prog 48 #[.int .i64 i, .int .i64 n, .int .u8 op] w fun e w' => e = .returned (.bool (prtB .stmt i n op)) ∧ w = w' := by
  have HE := Lib.hid (stmt_any op)
  go_enter Try.func48, Try.ntmps48
  go_wp2_with (go_at_call 61; refine (HE.out _).mono ?_; rintro e wn ⟨rfl, rfl⟩)
  go_ret
  exact ⟨rfl, rfl⟩
theorem headed_any (i n : Int) (op : Nat) (w : World) : Calls Try.prog 49 #[.int .i64 i, .int .i64 n, .int .u8 op] w fun e w' => e = .returned (.bool (prtB .headed i n op)) ∧ w = w' := by
  have HE := Lib.hid (expr_any op)
  have HP := Lib.hid (show prtB .headed i n op = ((i == 0 && isExpr op) || (decide (0 < i) && op == 3)) from rfl)
  generalize isExpr op = b at *
  by_cases h0 : i = 0
  · subst h0
    cases b
    all_goals
      go_enter Try.func49, Try.ntmps49
      go_wp2_with (go_at_call 62; refine (HE.out _).mono ?_; rintro e wn ⟨rfl, rfl⟩)
      go_ret
      exact ⟨ret_bool (by rw [HP.out]; simp), rfl⟩
  · have h1 : (i == 0) = false := beq_eq_false_iff_ne.2 h0
    by_cases h2 : 0 < i
    · go_enter Try.func49, Try.ntmps49
      go_wp2_with (go_at_call 62; refine (HE.out _).mono ?_; rintro e wn ⟨rfl, rfl⟩)
      go_ret
      exact ⟨ret_bool (by rw [HP.out, Bool.eq_iff_iff]; simp [h1, h2] <;> omega), rfl⟩
    · have hd : decide (0 < i) = false := decide_eq_false h2
      go_enter Try.func49, Try.ntmps49
      go_wp2_with (go_at_call 62; refine (HE.out _).mono ?_; rintro e wn ⟨rfl, rfl⟩)
      go_ret
      exact ⟨ret_bool (by rw [HP.out, h1, hd]; rfl), rfl⟩
theorem params_any (i n : Int) (op : Nat) (hi : 0 ≤ i ∧ i ≤ 1000000) (hn : 0 ≤ n ∧ n ≤ 1000000) (w : World) : Calls Try.prog 45 #[.int .i64 i, .int .i64 n, .int .u8 op] w fun e w' => e = .returned (.bool (prtB .params i n op)) ∧ w = w' := by
  have HP := Lib.hid (show prtB .params i n op = ((decide (i < n - 1) && op == 2) || (i == n - 1 && op == 3)) from rfl)
  obtain ⟨hi1, hi2⟩ := hi
  obtain ⟨hn1, hn2⟩ := hn
  by_cases h0 : i < n - 1
  · have h1 : (i == n - 1) = false := beq_eq_false_iff_ne.2 (by omega)
    by_cases h2 : op = 2
    · subst h2
      go_enter Try.func45, Try.ntmps45
      go_wp2_with fail
      go_ret
      exact ⟨ret_bool (by rw [HP.out]; simp [h0]), rfl⟩
    · have h3 : ((op : Int) == 2) = false := beq_eq_false_iff_ne.2 (by omega)
      go_enter Try.func45, Try.ntmps45
      go_wp2_with fail
      go_ret
      exact ⟨ret_bool (by rw [HP.out]; simp [h0, h1, h2]), rfl⟩
  · by_cases h1 : i = n - 1
    · have h2 : (i == n - 1) = true := beq_iff_eq.2 h1
      have hd : decide (i < n - 1) = false := decide_eq_false h0
      clear h1
      go_enter Try.func45, Try.ntmps45
      go_wp2_with fail
      go_ret
      exact ⟨ret_bool (by rw [HP.out, hd, h2, Bool.eq_iff_iff]; simp <;> omega), rfl⟩
    · have h2 : (i == n - 1) = false := beq_eq_false_iff_ne.2 h1
      have hd : decide (i < n - 1) = false := decide_eq_false h0
      go_enter Try.func45, Try.ntmps45
      go_wp2_with fail
      go_ret
      exact ⟨ret_bool (by rw [HP.out, hd, h2]; rfl), rfl⟩
theorem prt_any (k : Prt) (i n : Int) (op : Nat) (hi : 0 ≤ i ∧ i ≤ 1000000) (hn : 0 ≤ n ∧ n ≤ 1000000) (w : World) : Calls Try.prog (prtF k) #[.int .i64 i, .int .i64 n, .int .u8 op] w fun e w' => e = .returned (.bool (prtB k i n op)) ∧ w = w' := by
  cases k
  · exact params_any i n op hi hn w
  · exact nothing_any i n op w
  · exact stmtP_any i n op w
  · exact headed_any i n op w
  · exact exprP_any i n op w
  · exact block_any i n op w
end Go.Proofs.Ytmacmejpcpdnnaa
