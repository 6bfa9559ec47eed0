/- Names: value.Name and the reference's Name both return nameS. -/
import Derived.Test.YtmacmejpcpdnnaaRows
import Derived.WalkKit
import Derived.ProofKit
import Derived.OpenShut
import Derived.ShutString
import Derived.Lib.Hide
namespace Go.Proofs.Ytmacmejpcpdnnaa
open Go.RowKit

theorem ret_bool {a b : Bool} (h : b = a) : Ending.returned (.bool a) = .returned (.bool b) := by rw [h]

def lowB (c : UInt8) : Bool := decide (97 ≤ c.toNat ∧ c.toNat ≤ 122)
def nameC (c : UInt8) : Bool := decide ((97 ≤ c.toNat ∧ c.toNat ≤ 122) ∨ (48 ≤ c.toNat ∧ c.toNat ≤ 57) ∨ c.toNat = 95)
def nameS (s : ByteArray) : Bool := decide (0 < s.size ∧ s.size ≤ 24 ∧ (∀ h : 0 < s.size, lowB s[0] = true) ∧ ∀ i, ∀ h : i < s.size, nameC s[i] = true)

theorem size_toList (s : ByteArray) : s.toList.length = s.size := by rw [ByteArray.toList_eq]; rfl
theorem toList_nil (s : ByteArray) (h : s.toList = []) : s.size = 0 := by rw [← size_toList, h]; rfl
theorem toList_not_nil (s : ByteArray) (h : 0 < s.size) : s.toList.isEmpty = false := by
  rw [List.isEmpty_eq_false_iff]; intro h2; rw [toList_nil s h2] at h; omega
theorem eq_empty (s : ByteArray) (h : s.size = 0) : s = ByteArray.empty := by
  obtain ⟨⟨l⟩⟩ := s
  have : l = [] := List.eq_nil_of_length_eq_zero h
  subst this; rfl
theorem nameS_nil (s : ByteArray) (h : s.size = 0) : nameS s = false := by simp [nameS, h]
theorem nameS_long (s : ByteArray) (h : 24 < s.size) : nameS s = false := by
  unfold nameS; exact decide_eq_false (by omega)
theorem nameS_first (s : ByteArray) (h0 : 0 < s.size) (h : lowB s[0] = false) : nameS s = false := by
  unfold nameS; refine decide_eq_false fun h2 => ?_; rw [h2.2.2.1 h0] at h; cases h
theorem nameS_at (s : ByteArray) (i : Nat) (h0 : i < s.size) (h : nameC s[i] = false) : nameS s = false := by
  unfold nameS; refine decide_eq_false fun h2 => ?_; rw [h2.2.2.2 i h0] at h; cases h
theorem nameS_yes (s : ByteArray) (h0 : 0 < s.size) (h1 : s.size ≤ 24) (h2 : lowB s[0] = true) (h3 : ∀ i, ∀ h : i < s.size, nameC s[i] = true) : nameS s = true := by
  unfold nameS; exact decide_eq_true ⟨h0, h1, fun _ => h2, h3⟩
theorem lowB_no (c : UInt8) (h : (c.toNat : Int) < 97 ∨ 122 < (c.toNat : Int)) : lowB c = false := decide_eq_false (by omega)
theorem lowB_yes (c : UInt8) (h : ¬ (c.toNat : Int) < 97) (h' : ¬ 122 < (c.toNat : Int)) : lowB c = true := decide_eq_true (by omega)
theorem nameC_no (c : UInt8) (h : ((c.toNat : Int) < 97 ∨ 122 < (c.toNat : Int)) ∧ ((c.toNat : Int) < 48 ∨ 57 < (c.toNat : Int)) ∧ (c.toNat : Int) ≠ 95) : nameC c = false := decide_eq_false (by omega)
theorem nameC_yes (c : UInt8) (h : ¬ (((c.toNat : Int) < 97 ∨ 122 < (c.toNat : Int)) ∧ ((c.toNat : Int) < 48 ∨ 57 < (c.toNat : Int)) ∧ (c.toNat : Int) ≠ 95)) : nameC c = true := decide_eq_true (by omega)

set_option maxHeartbeats 400000 in
theorem name_any (s : ByteArray) (hs : s.size ≤ maxLen) (w : World) :
    Calls Try.prog 15 #[.string s] w fun e w' => e = .returned (.bool (nameS s)) ∧ w = w' := by
  unfold maxLen at hs
  by_cases h0 : 0 < s.size
  · have hne := toList_not_nil s h0
    have hne' : (!s.toList.isEmpty) = true := by rw [hne]; rfl
    by_cases h1 : (s.size : Int) ≤ 24
    · by_cases h2 : (s[0].toNat : Int) < 97
      · go_enter Try.func15, Try.ntmps15
        go_wp2_with fail
        go_ret
        exact ⟨ret_bool (nameS_first s h0 (lowB_no _ (.inl h2))), rfl⟩
      · by_cases h3 : 122 < (s[0].toNat : Int)
        · go_enter Try.func15, Try.ntmps15
          go_wp2_with fail
          go_ret
          exact ⟨ret_bool (nameS_first s h0 (lowB_no _ (.inr h3))), rfl⟩
        · have hl := lowB_yes _ h2 h3
          have HL := Lib.hid hl
          clear hl
          go_enter Try.func15, Try.ntmps15
          go_wp2_with fail
          go_loop [3, 4, 24] (fun _ _ i => ∃ k : Nat, k ≤ s.size ∧ i = .int .i64 k ∧ Hid (∀ j, ∀ _ : j < k, ∀ h' : j < s.size, nameC s[j] = true)) (fun _ _ i => s.size - (intOf i).toNat)
          case atStart => exact ⟨0, Nat.zero_le _, rfl, fun j h => absurd h (by omega)⟩
          case round =>
            obtain ⟨k, hk, rfl, HK⟩ := hrel
            by_cases hlt : k < s.size
            · go_wp2
              all_goals first
                | (go_ret; exact ⟨ret_bool (nameS_at s k hlt (nameC_no _ (by go_tidy; simp only [bne_iff_ne, ne_eq] at *; omega))), rfl⟩)
                | (have hc : nameC s[k] = true := nameC_yes _ (by go_tidy; simp only [ne_eq, bne_eq_false_iff_eq] at *; omega)
                   exact ⟨⟨k + 1, by omega, by go_num, fun j hj h' => by
                    rcases Nat.lt_or_ge j k with h | h
                    · exact HK.out j h h'
                    · obtain rfl : j = k := by omega
                      exact hc⟩, by simp [intOf]; omega⟩)
            · go_wp2
              go_ret
              exact ⟨ret_bool (nameS_yes s h0 (by omega) HL.out (fun i hi => HK.out i (by omega) hi)), rfl⟩
    · have hl : 24 < (s.size : Int) := by omega
      go_enter Try.func15, Try.ntmps15
      go_wp2_with fail
      go_ret
      exact ⟨ret_bool (nameS_long s (by omega)), rfl⟩
  · have h0' : s.size = 0 := by omega
    obtain rfl := eq_empty s h0'
    clear h0'
    go_enter Try.func15, Try.ntmps15
    go_wp2_with fail
    go_ret
    exact ⟨ret_bool (nameS_nil _ rfl), rfl⟩

theorem lowB_eq (c : UInt8) : lowB c = true ↔ 97 ≤ c.toNat ∧ c.toNat ≤ 122 := by simp [lowB]
theorem nameC_eq (c : UInt8) : nameC c = true ↔ (97 ≤ c.toNat ∧ c.toNat ≤ 122) ∨ (48 ≤ c.toNat ∧ c.toNat ≤ 57) ∨ c.toNat = 95 := by simp [nameC]
theorem nameS_all (s : ByteArray) (h0 : 0 < s.size) (h1 : s.size ≤ 24) (h3 : ∀ i, ∀ h : i < s.size, nameC s[i] = true ∧ (i = 0 → lowB s[i] = true)) : nameS s = true :=
  nameS_yes s h0 h1 ((h3 0 h0).2 rfl) (fun i h => (h3 i h).1)

theorem rstep {s : ByteArray} {k : Nat} {hlt : k < s.size} (h : ∀ j, ∀ _ : j < k, ∀ h' : j < s.size, nameC s[j] = true ∧ (j = 0 → lowB s[j] = true)) (hk : nameC s[k] = true ∧ (k = 0 → lowB s[k] = true)) :
    Hid (∀ j, ∀ _ : j < k + 1, ∀ h' : j < s.size, nameC s[j] = true ∧ (j = 0 → lowB s[j] = true)) := fun j hj h' => by
  rcases Nat.lt_or_ge j k with h1 | h1
  · exact h j h1 h'
  · obtain rfl : j = k := by omega
    exact hk

set_option maxHeartbeats 400000 in
theorem rname_any (s : ByteArray) (hs : s.size ≤ maxLen) (w : World) :
    Calls Try.prog 63 #[.string s] w fun e w' => e = .returned (.bool (nameS s)) ∧ w = w' := by
  unfold maxLen at hs
  by_cases h0 : (s.size : Int) < 1
  · go_enter Try.func63, Try.ntmps63
    go_wp2_with fail
    go_ret
    exact ⟨ret_bool (nameS_nil s (by omega)), rfl⟩
  · by_cases h1 : (s.size : Int) ≤ 24
    · go_enter Try.func63, Try.ntmps63
      go_wp2_with fail
      go_loop [3, 4, 5] (fun i _ _ => ∃ k : Nat, k ≤ s.size ∧ i = .int .i64 k ∧ Hid (∀ j, ∀ _ : j < k, ∀ h' : j < s.size, nameC s[j] = true ∧ (j = 0 → lowB s[j] = true))) (fun i _ _ => s.size - (intOf i).toNat)
      case atStart => exact ⟨0, Nat.zero_le _, rfl, fun j h => absurd h (by omega)⟩
      case round =>
        obtain ⟨k, hk, rfl, HK⟩ := hrel
        by_cases hlt : k < s.size
        · by_cases hA : 97 ≤ (s[k].toNat : Int) ∧ (s[k].toNat : Int) ≤ 122
          · obtain ⟨hA1, hA2⟩ := hA
            have hl : nameC s[k] = true ∧ (k = 0 → lowB s[k] = true) := ⟨(nameC_eq _).2 (by omega), fun _ => (lowB_eq _).2 (by omega)⟩
            have HL := Lib.hid hl
            clear hl
            go_wp2
            all_goals exact ⟨⟨k + 1, by omega, by go_num, rstep HK.out HL.out⟩, by simp [intOf]; omega⟩
          · by_cases hk0 : k = 0
            · subst hk0
              have hA' : lowB s[0] = false := lowB_no _ (by omega)
              have HL := Lib.hid hA'
              clear hA'
              go_wp2
              all_goals first | (go_ret; exact ⟨ret_bool (nameS_first s (by omega) HL.out), rfl⟩) | (exfalso; go_tidy; simp at *; omega)
            · have hkp : 0 < (k : Int) := by omega
              clear hk0
              go_wp2
              all_goals first
                | (go_ret; exact ⟨ret_bool (nameS_at s k hlt (nameC_no _ (by go_tidy; simp at *; omega))), rfl⟩)
                | (have hc : nameC s[k] = true := (nameC_eq _).2 (by go_tidy; simp at *; omega)
                   exact ⟨⟨k + 1, by omega, by go_num, rstep HK.out ⟨hc, fun e => by omega⟩⟩, by simp [intOf]; omega⟩)
        · go_wp2
          go_ret
          exact ⟨ret_bool (nameS_all s (by omega) (by omega) (fun i hi => HK.out i (by omega) hi)), rfl⟩
    · go_enter Try.func63, Try.ntmps63
      go_wp2_with fail
      go_ret
      exact ⟨ret_bool (nameS_long s (by omega)), rfl⟩

end Go.Proofs.Ytmacmejpcpdnnaa
