/- The document's Check of values, and its Right of events (texts put together). -/
import Derived.Test.YticipdjfkpakpaaNodeMore
import Derived.Test.YticipdjfkpakpaaEvCheck
namespace Go.Proofs.Yticipdjfkpakpaa
open Go.RowKit
attribute [local go_sem] run_store_cx'

theorem opn_lower : ∀ (xs : List Nd) (t : Nat), t ≤ opn t xs + xs.length := by
  intro xs
  induction xs with
  | nil => intro t; simp [opn]
  | cons x xs ih =>
    intro t
    have := ih (t - 1 + x.kids)
    simp only [opn, List.length_cons]
    omega
theorem opn_split : ∀ (xs ys : List Nd) (t : Nat), opn t (xs ++ ys) = opn (opn t xs) ys := by
  intro xs
  induction xs with
  | nil => intro ys t; rfl
  | cons x xs ih => intro ys t; exact ih ys (t - 1 + x.kids)
theorem opn_take {xs : List Nd} {k : Nat} (hk : k < xs.length) : opn 1 (xs.take (k + 1)) = opn 1 (xs.take k) - 1 + (xs[k]).kids := by
  rw [List.take_succ_eq_append_getElem hk, opn_snoc]
theorem ValOk.kids_len {xs : List Nd} (h : ValOk xs) {k : Nat} (hk : k < xs.length) : (xs[k]).kids ≤ xs.length := by
  have h1 := opn_lower (xs.drop (k + 1)) (opn 1 (xs.take (k + 1)))
  have h2 : opn (opn 1 (xs.take (k + 1))) (xs.drop (k + 1)) = 0 := by rw [← opn_split, List.take_append_drop]; exact h.done
  have h3 := opn_take hk
  rw [h2] at h1
  simp only [List.length_drop] at h1
  omega
theorem ValOk.opn_end {xs : List Nd} (h : ValOk xs) {k : Nat} (hk : k ≤ xs.length) : opn 1 (xs.take k) = 0 ↔ k = xs.length := by
  constructor
  · intro h0
    rcases Nat.lt_or_ge k xs.length with h1 | h1
    · have := h.seq.op k h1; omega
    · omega
  · rintro rfl
    rw [List.take_length]; exact h.done
theorem ValOk.sz {xs : List Nd} (h : ValOk xs) : szOf xs ≤ 4096 := by
  have := h.size
  rw [msr_with xs _ xs.length (Nat.le_refl _), List.take_length] at this
  exact this
theorem szOf_take {xs : List Nd} {k : Nat} (hk : k < xs.length) : szOf (xs.take (k + 1)) = szOf (xs.take k) + (1 + (xs[k]).text.length) := by
  rw [List.take_succ_eq_append_getElem hk, szOf_snoc]
theorem szOf_app (xs ys : List Nd) : szOf (xs ++ ys) = szOf xs + szOf ys := by
  induction xs with
  | nil => simp [szOf]
  | cons x xs ih => simp only [List.cons_append, szOf, ih]; omega
theorem szOf_take_le (xs : List Nd) (k : Nat) : szOf (xs.take k) ≤ szOf xs := by
  have := szOf_app (xs.take k) (xs.drop k)
  rw [List.take_append_drop] at this
  omega

set_option maxRecDepth 100000 in
set_option maxHeartbeats 4000000 in
theorem may_any (x : Nd) (h : x.ok) (w : World) : Calls Try.prog 71 #[ndV x] w fun e w' => e = .returned (.bool true) ∧ Below w.heap.size w w' := by
  obtain ⟨k, ki, n, t, p, q⟩ := x
  obtain ⟨h1, h2, h3, h4, h5, h6, h7, h8, hp, hq⟩ := h
  simp only at h1 h2 h3 h4 h5 h6 h7 hp hq
  have HF := Lib.hid (show (fine64 p && fine64 q) = true by rw [h8.1, h8.2]; rfl)
  clear hp hq
  have hk : k = 0 ∨ k = 1 ∨ k = 2 ∨ k = 3 ∨ k = 4 ∨ k = 5 := by omega
  unfold ndV strV
  rcases hk with rfl | rfl | rfl | rfl | rfl | rfl
  · obtain rfl := h2 (by omega)
    obtain rfl := h4 (by omega) (by omega)
    obtain rfl := h6 (by omega)
    obtain ⟨rfl, rfl⟩ := h7 (by omega)
    clear h1 h2 h3 h4 h5 h6 h7 h8
    go_enter Try.func71, Try.ntmps71
    go_wp2_with (go_at_call 86; refine (rfine_any _ _ _).mono ?_; rintro e w1 ⟨rfl, rfl⟩; rw [HF.out])
    go_ret
    exact ⟨rfl, (Below.refl _ _).alloc (Nat.le_refl _) _⟩
  · obtain rfl := h2 (by omega)
    obtain rfl := h6 (by omega)
    obtain ⟨rfl, rfl⟩ := h7 (by omega)
    rcases h5 rfl with rfl | rfl
    all_goals
      clear h1 h2 h3 h4 h5 h6 h7 h8
      go_enter Try.func71, Try.ntmps71
      go_wp2_with (go_at_call 86; refine (rfine_any _ _ _).mono ?_; rintro e w1 ⟨rfl, rfl⟩; rw [HF.out])
      go_ret
      exact ⟨rfl, (Below.refl _ _).alloc (Nat.le_refl _) _⟩
  · obtain rfl := h2 (by omega)
    obtain rfl := h6 (by omega)
    obtain ⟨rfl, rfl⟩ := h7 (by omega)
    clear h1 h2 h3 h4 h5 h6 h7 h8
    go_enter Try.func71, Try.ntmps71
    go_wp2_with (go_at_call 86; refine (rfine_any _ _ _).mono ?_; rintro e w1 ⟨rfl, rfl⟩; rw [HF.out])
    go_ret
    exact ⟨rfl, (Below.refl _ _).alloc (Nat.le_refl _) _⟩
  · obtain rfl := h2 (by omega)
    obtain rfl := h4 (by omega) (by omega)
    obtain ⟨rfl, rfl⟩ := h7 (by omega)
    clear h1 h2 h3 h4 h5 h6 h7 h8
    go_enter Try.func71, Try.ntmps71
    go_wp2_with (go_at_call 86; refine (rfine_any _ _ _).mono ?_; rintro e w1 ⟨rfl, rfl⟩; rw [HF.out])
    go_ret
    exact ⟨rfl, (Below.refl _ _).alloc (Nat.le_refl _) _⟩
  · obtain rfl := h2 (by omega)
    obtain rfl := h4 (by omega) (by omega)
    obtain rfl := h6 (by omega)
    clear h1 h2 h3 h4 h5 h6 h7 h8
    go_enter Try.func71, Try.ntmps71
    go_wp2_with (go_at_call 86; refine (rfine_any _ _ _).mono ?_; rintro e w1 ⟨rfl, rfl⟩; rw [HF.out])
    go_ret
    exact ⟨rfl, (Below.refl _ _).alloc (Nat.le_refl _) _⟩
  · obtain rfl := h4 (by omega) (by omega)
    obtain rfl := h6 (by omega)
    obtain ⟨rfl, rfl⟩ := h7 (by omega)
    have hki : ¬ ((ki : Int) < 0) := by omega
    clear h1 h2 h3 h4 h5 h6 h7 h8
    go_enter Try.func71, Try.ntmps71
    go_wp2_with (go_at_call 86; refine (rfine_any _ _ _).mono ?_; rintro e w1 ⟨rfl, rfl⟩; rw [HF.out])
    go_ret
    exact ⟨by simp, (Below.refl _ _).alloc (Nat.le_refl _) _⟩

set_option maxRecDepth 100000 in
set_option maxHeartbeats 4000000 in
theorem refEnd_ok (g cap : Nat) (xs : List Nd) (hV : ValOk xs) (w : World) (hg : g < w.heap.size) (hI : RowOf w g xs) :
    Calls Try.prog 72 #[.slice (some ⟨g, 0, none⟩) xs.length cap, .int .i64 0] w fun e W' => e = .returned (.int .i64 (xs.length : Int)) ∧ W' = w := by
  have HV := Lib.hid hV
  have HI := Lib.hid hI
  have hpos : 0 < (xs.length : Int) := by have := hV.pos; omega
  have hfew : (xs.length : Int) ≤ 1024 := by have := hV.seq.few; omega
  clear hV hI
  go_enter Try.func72, Try.ntmps72
  go_wp2_with fail
  go_loop [1, 5] (fun a td => ∃ (k m : Nat), a = .int .i64 (k : Int) ∧ k < xs.length ∧ td = .int .i64 (m : Int) ∧ Hid (m = opn 1 (xs.take k))) (fun a _ => 1025 - (intOf a).toNat)
  case atStart => exact ⟨0, 1, rfl, by omega, rfl, rfl⟩
  case round =>
    obtain ⟨k, m, rfl, hk, rfl, hm⟩ := hrel
    have hk1 : (k : Int) < (xs.length : Int) := by omega
    have c0 := HI.out k hk 0 (by omega)
    have c1 := HI.out k hk 1 (by omega)
    rw [Nat.add_zero] at c0
    simp only [Nd.cells, List.getElem?_cons_succ, List.getElem?_cons_zero] at c0 c1
    have hop : 1 ≤ m := by rw [hm.out]; exact HV.out.seq.op k hk
    have hop2 : m ≤ 2000000 := by rw [hm.out]; exact HV.out.seq.op2 k
    have hki := HV.out.kids_len hk
    have hk0 := (HV.out.seq.kids _ (List.getElem_mem hk)).2
    have HS : Hid (opn 1 (xs.take (k + 1)) = m - 1 + (xs[k]).kids) := Lib.hid (by rw [opn_take hk, ← hm.out])
    have HE : Hid (opn 1 (xs.take (k + 1)) = 0 ↔ k + 1 = xs.length) := Lib.hid (HV.out.opn_end (by omega))
    by_cases h5 : (xs[k]).kind = 5
    · have hq : (((xs[k]).kind : Int) == 5) = true := by rw [beq_iff_eq]; omega
      clear h5 hk0
      have hki1 : ¬ ((xs.length : Int) < ((xs[k]).kids : Int)) := by omega
      by_cases hz : m - 1 + (xs[k]).kids = 0
      · have hq2 : ((m : Int) - 1 + ((xs[k]).kids : Int) == 0) = true := by rw [beq_iff_eq]; omega
        have hend : k + 1 = xs.length := HE.out.1 (by rw [HS.out]; exact hz)
        have HEND := Lib.hid hend
        clear hz hend
        go_wp2_with fail
        go_ret
        exact ⟨by rw [← HEND.out]; rfl, rfl⟩
      · have hq2 : ((m : Int) - 1 + ((xs[k]).kids : Int) == 0) = false := by rw [beq_eq_false_iff_ne]; omega
        have hne : ¬ k + 1 = xs.length := fun e => hz (by rw [← HS.out]; exact HE.out.2 e)
        clear hz
        go_wp2_with fail
        exact ⟨⟨k + 1, m - 1 + (xs[k]).kids, by go_num, by omega, by congr 1; omega, HS.out.symm⟩, by simp [intOf]; omega⟩
    · have hq : (((xs[k]).kind : Int) == 5) = false := by rw [beq_eq_false_iff_ne]; omega
      have h0 := hk0 h5
      have HS2 : Hid (opn 1 (xs.take (k + 1)) = m - 1) := Lib.hid (by rw [HS.out, h0]; rfl)
      clear h5 hk0 h0 HS
      by_cases hz : m - 1 = 0
      · have hq2 : ((m : Int) - 1 == 0) = true := by rw [beq_iff_eq]; omega
        have hend : k + 1 = xs.length := HE.out.1 (by rw [HS2.out]; exact hz)
        have HEND := Lib.hid hend
        clear hz hend
        go_wp2_with fail
        go_ret
        exact ⟨by rw [← HEND.out]; rfl, rfl⟩
      · have hq2 : ((m : Int) - 1 == 0) = false := by rw [beq_eq_false_iff_ne]; omega
        have hne : ¬ k + 1 = xs.length := fun e => hz (by rw [← HS2.out]; exact HE.out.2 e)
        clear hz
        go_wp2_with fail
        exact ⟨⟨k + 1, m - 1, by go_num, by omega, by congr 1; omega, HS2.out.symm⟩, by simp [intOf]; omega⟩

set_option maxRecDepth 100000 in
set_option maxHeartbeats 4000000 in
theorem refCheck_ok (g cap : Nat) (xs : List Nd) (hV : ValOk xs) (w : World) (hg : g < w.heap.size) (hI : RowOf w g xs) :
    Calls Try.prog 52 #[.slice (some ⟨g, 0, none⟩) xs.length cap] w fun e W' => e = .returned (.int .i64 0) ∧ Below w.heap.size w W' := by
  have HV := Lib.hid hV
  have HI := Lib.hid hI
  have hpos : 0 < (xs.length : Int) := by have := hV.pos; omega
  have hfew : (xs.length : Int) ≤ 1024 := by have := hV.seq.few; omega
  have hsz := hV.sz
  clear hV hI
  go_enter Try.func52, Try.ntmps52
  go_wp2_with fail
  go_loopw [3, 4] (fun s i wr => ∃ (k m : Nat), i = .int .i64 (k : Int) ∧ k ≤ xs.length ∧ s = .int .i64 (m : Int) ∧ Hid (m = szOf (xs.take k)) ∧ Hid (Below w.heap.size w wr)) (fun _ i _ => xs.length - (intOf i).toNat)
  case atStart => exact ⟨0, 0, rfl, by omega, rfl, rfl, Lib.hid (Below.refl _ _)⟩
  case round =>
    obtain ⟨k, m, rfl, hk, rfl, hm, hB⟩ := hrel
    have hm2 : m ≤ 4096 := by rw [hm.out]; exact Nat.le_trans (szOf_take_le _ _) hsz
    by_cases hlt : k < xs.length
    · have hk1 : (k : Int) < (xs.length : Int) := by omega
      have HR := Lib.hid (HI.out.below hB.out hg)
      have c0 := HR.out k hlt 0 (by omega)
      have c1 := HR.out k hlt 1 (by omega)
      have c2 := HR.out k hlt 2 (by omega)
      have c3 := HR.out k hlt 3 (by omega)
      have c4 := HR.out k hlt 4 (by omega)
      rw [Nat.add_zero] at c0
      simp only [Nd.cells, List.getElem?_cons_succ, List.getElem?_cons_zero] at c0 c1 c2 c3 c4
      unfold strV at c3
      have HM := Lib.hid (may_any xs[k] (HV.out.seq.fit k |> fun h => by rw [List.getElem?_eq_getElem hlt] at h; exact h.1) wr)
      unfold ndV strV at HM
      have hszs : szOf (xs.take (k + 1)) = m + (1 + (xs[k]).text.length) := by rw [szOf_take hlt, ← hm.out]
      have htl : (xs[k]).text.length ≤ 4096 := by have := szOf_take_le xs (k + 1); omega
      have HSZ := Lib.hid hszs
      clear hszs
      go_wp2_with (go_at_call 71; refine HM.out.mono ?_; rintro e w1 ⟨rfl, B1⟩; have d3 := (B1.cell (p := ⟨g, k * 5 + 3, none⟩) (Nat.lt_of_lt_of_le hg hB.out.size)).trans c3)
      go_roundw
      case rel => exact ⟨k + 1, m + (1 + (xs[k]).text.length), by go_num, by omega, by congr 1; omega, HSZ.out.symm, Lib.hid (below_trans' hB.out B1)⟩
      case measure => simp [intOf]; omega
    · obtain rfl : k = xs.length := by omega
      have hk1 : ¬ (xs.length : Int) < (xs.length : Int) := by omega
      have hne : ((xs.length : Int) == 0) = false := by rw [beq_eq_false_iff_ne]; omega
      have hm3 : ¬ (4096 : Int) < (m : Int) := by omega
      have HEn := Lib.hid (refEnd_ok g cap xs HV.out wr (by have := hB.out.size; omega) (HI.out.below hB.out hg))
      go_wp2_with (go_at_call 72; refine HEn.out.mono ?_; rintro e w1 ⟨rfl, rfl⟩)
      go_ret
      exact ⟨rfl, hB.out⟩
end Go.Proofs.Yticipdjfkpakpaa

namespace Go.Proofs.Yticipdjfkpakpaa
open Go.RowKit
attribute [local go_sem] run_store_cx'

theorem rhId (k : Nat) (hk : 1 ≤ k ∧ k ≤ 12) (w : World) : Calls Try.prog 20 #[.int .u8 k] w fun e w' => e = .returned (.bool (hasId k)) ∧ w = w' := by
  have h : k = 1 ∨ k = 2 ∨ k = 3 ∨ k = 4 ∨ k = 5 ∨ k = 6 ∨ k = 7 ∨ k = 8 ∨ k = 9 ∨ k = 10 ∨ k = 11 ∨ k = 12 := by omega
  clear hk
  rcases h with rfl | rfl | rfl | rfl | rfl | rfl | rfl | rfl | rfl | rfl | rfl | rfl
  all_goals
    go_enter Try.func20, Try.ntmps20
    go_wp2_with fail
    go_ret
    exact ⟨rfl, rfl⟩
theorem rhName (k : Nat) (hk : 1 ≤ k ∧ k ≤ 12) (w : World) : Calls Try.prog 22 #[.int .u8 k] w fun e w' => e = .returned (.bool (hasName k)) ∧ w = w' := by
  have h : k = 1 ∨ k = 2 ∨ k = 3 ∨ k = 4 ∨ k = 5 ∨ k = 6 ∨ k = 7 ∨ k = 8 ∨ k = 9 ∨ k = 10 ∨ k = 11 ∨ k = 12 := by omega
  clear hk
  rcases h with rfl | rfl | rfl | rfl | rfl | rfl | rfl | rfl | rfl | rfl | rfl | rfl
  all_goals
    go_enter Try.func22, Try.ntmps22
    go_wp2_with fail
    go_ret
    exact ⟨rfl, rfl⟩
theorem rhValue (k : Nat) (hk : 1 ≤ k ∧ k ≤ 12) (w : World) : Calls Try.prog 24 #[.int .u8 k] w fun e w' => e = .returned (.bool (hasValue k)) ∧ w = w' := by
  have h : k = 1 ∨ k = 2 ∨ k = 3 ∨ k = 4 ∨ k = 5 ∨ k = 6 ∨ k = 7 ∨ k = 8 ∨ k = 9 ∨ k = 10 ∨ k = 11 ∨ k = 12 := by omega
  clear hk
  rcases h with rfl | rfl | rfl | rfl | rfl | rfl | rfl | rfl | rfl | rfl | rfl | rfl
  all_goals
    go_enter Try.func24, Try.ntmps24
    go_wp2_with fail
    go_ret
    exact ⟨rfl, rfl⟩
theorem rhInt (k : Nat) (hk : 1 ≤ k ∧ k ≤ 12) (w : World) : Calls Try.prog 26 #[.int .u8 k] w fun e w' => e = .returned (.bool (hasInt k)) ∧ w = w' := by
  have h : k = 1 ∨ k = 2 ∨ k = 3 ∨ k = 4 ∨ k = 5 ∨ k = 6 ∨ k = 7 ∨ k = 8 ∨ k = 9 ∨ k = 10 ∨ k = 11 ∨ k = 12 := by omega
  clear hk
  rcases h with rfl | rfl | rfl | rfl | rfl | rfl | rfl | rfl | rfl | rfl | rfl | rfl
  all_goals
    go_enter Try.func26, Try.ntmps26
    go_wp2_with fail
    go_ret
    exact ⟨rfl, rfl⟩

set_option maxRecDepth 20000 in
set_option maxHeartbeats 4000000 in
theorem rvRight_1 (id : Nat) (nm : List UInt8) (xs : List Nd) (i : Int) (hx : EvRaw ⟨1, id, nm, xs, i⟩) (A : Option Addr) (n cap : Nat) (w : World) (hv : VIn w A n xs) :
    Calls Try.prog 28 #[.agg #[.int .u8 1, .int .i64 (id : Int), .string ⟨nm.toArray⟩, .slice A n cap, .int .i64 i]] w fun e w' => e = .returned (.bool (evOk ⟨1, id, nm, xs, i⟩)) ∧ Below w.heap.size w w' := by
  have hid := hx.id_le
  have hi1 := hx.i64.1
  have hi2 := hx.i64.2
  simp only at hid hi1 hi2
  obtain rfl : id = 0 := hx.id rfl
  have hnl := hx.name_le
  simp only at hnl
  have HN := Lib.hid (fun w => rname_any ⟨nm.toArray⟩ (by unfold maxLen; show nm.length ≤ _; omega) w)
  clear hnl
  have hok := hx.ok rfl
  simp only at hok
  obtain ⟨g, rfl, rfl, hg, hrow⟩ : ∃ g, A = some ⟨g, 0, none⟩ ∧ n = xs.length ∧ g < w.heap.size ∧ RowOf w g xs := by
    rcases hv with ⟨h0, _⟩ | h
    · have := hok.1.pos; rw [h0] at this; simp at this
    · exact h
  have HCk := Lib.hid (fun W h1 h2 => refCheck_ok g cap xs hok.1 W h1 h2)
  have HR := Lib.hid hrow
  have hpos := hok.1.pos
  obtain ⟨y, ys, rfl⟩ : ∃ y ys, xs = y :: ys := by
    cases xs with
    | nil => simp at hpos
    | cons y ys => exact ⟨y, ys, rfl⟩
  have HY := Lib.hid (hok.1.seq.fit 0).1.kind
  clear hrow hok hv hpos
  clear hx
  rcases hnb : (nameS ⟨nm.toArray⟩) with _ | _
  · rcases hlb : (y.kind == 5) with _ | _
    · have HE : Hid (evOk ⟨1, 0, nm, y :: ys, i⟩ = false) := by unfold Hid; simp [evOk, hasName, hasList, nameB, hnb, hlb]
      have hk5 : ((y.kind : Int) == 5) = false := by rw [beq_eq_false_iff_ne] at hlb ⊢; omega
      have NB := Lib.hid hnb
      clear hnb
      clear hlb
      go_enter Try.func28, Try.ntmps28
      go_wp2_with (first | (go_at_call 20; refine (rhId 1 (by omega) _).mono ?_; rintro e wn ⟨rfl, rfl⟩; rw [show hasId 1 = false from rfl]) | (go_at_call 22; refine (rhName 1 (by omega) _).mono ?_; rintro e wn ⟨rfl, rfl⟩; rw [show hasName 1 = true from rfl]) | (go_at_call 24; refine (rhValue 1 (by omega) _).mono ?_; rintro e wn ⟨rfl, rfl⟩; rw [show hasValue 1 = true from rfl]) | (go_at_call 26; refine (rhInt 1 (by omega) _).mono ?_; rintro e wn ⟨rfl, rfl⟩; rw [show hasInt 1 = true from rfl]) | (go_at_call 51; refine (HN.out _).mono ?_; rintro e wn ⟨rfl, rfl⟩; rw [NB.out]) | (go_at_call 52; refine (HCk.out _ (Nat.lt_of_lt_of_le hg ((Below.refl w.heap.size w).alloc (Nat.le_refl _) _).size) (HR.out.below ((Below.refl w.heap.size w).alloc (Nat.le_refl _) _) hg)).mono ?_; rintro e w4 ⟨rfl, B4⟩; have hB4 := below_trans' ((Below.refl w.heap.size w).alloc (Nat.le_refl _) _) B4; have e0 := agg_cells w _ _ w4 B4 0; have e4 := agg_cells w _ _ w4 B4 4; have e3 := agg_cells w _ _ w4 B4 3; simp only [List.getElem?_toArray, List.getElem?_cons_succ, List.getElem?_cons_zero] at e0 e3 e4; have q0 := (HR.out.below hB4 hg) 0 (by simp) 0 (by omega); simp only [List.getElem_cons_zero, Nd.cells, List.getElem?_cons_zero, Nat.zero_mul, Nat.add_zero] at q0))
      all_goals go_ret
      all_goals refine ⟨ret_bool HE.out, ?_⟩
      all_goals first | exact hB4 | exact ((Below.refl w.heap.size w).alloc (Nat.le_refl _) _)
    · have HE : Hid (evOk ⟨1, 0, nm, y :: ys, i⟩ = false) := by unfold Hid; simp [evOk, hasName, hasList, nameB, hnb, hlb]
      have hk5 : ((y.kind : Int) == 5) = true := by rw [beq_iff_eq] at hlb ⊢; omega
      have NB := Lib.hid hnb
      clear hnb
      clear hlb
      go_enter Try.func28, Try.ntmps28
      go_wp2_with (first | (go_at_call 20; refine (rhId 1 (by omega) _).mono ?_; rintro e wn ⟨rfl, rfl⟩; rw [show hasId 1 = false from rfl]) | (go_at_call 22; refine (rhName 1 (by omega) _).mono ?_; rintro e wn ⟨rfl, rfl⟩; rw [show hasName 1 = true from rfl]) | (go_at_call 24; refine (rhValue 1 (by omega) _).mono ?_; rintro e wn ⟨rfl, rfl⟩; rw [show hasValue 1 = true from rfl]) | (go_at_call 26; refine (rhInt 1 (by omega) _).mono ?_; rintro e wn ⟨rfl, rfl⟩; rw [show hasInt 1 = true from rfl]) | (go_at_call 51; refine (HN.out _).mono ?_; rintro e wn ⟨rfl, rfl⟩; rw [NB.out]) | (go_at_call 52; refine (HCk.out _ (Nat.lt_of_lt_of_le hg ((Below.refl w.heap.size w).alloc (Nat.le_refl _) _).size) (HR.out.below ((Below.refl w.heap.size w).alloc (Nat.le_refl _) _) hg)).mono ?_; rintro e w4 ⟨rfl, B4⟩; have hB4 := below_trans' ((Below.refl w.heap.size w).alloc (Nat.le_refl _) _) B4; have e0 := agg_cells w _ _ w4 B4 0; have e4 := agg_cells w _ _ w4 B4 4; have e3 := agg_cells w _ _ w4 B4 3; simp only [List.getElem?_toArray, List.getElem?_cons_succ, List.getElem?_cons_zero] at e0 e3 e4; have q0 := (HR.out.below hB4 hg) 0 (by simp) 0 (by omega); simp only [List.getElem_cons_zero, Nd.cells, List.getElem?_cons_zero, Nat.zero_mul, Nat.add_zero] at q0))
      all_goals go_ret
      all_goals refine ⟨ret_bool HE.out, ?_⟩
      all_goals first | exact hB4 | exact ((Below.refl w.heap.size w).alloc (Nat.le_refl _) _)
  · rcases hlb : (y.kind == 5) with _ | _
    · have HE : Hid (evOk ⟨1, 0, nm, y :: ys, i⟩ = false) := by unfold Hid; simp [evOk, hasName, hasList, nameB, hnb, hlb]
      have hk5 : ((y.kind : Int) == 5) = false := by rw [beq_eq_false_iff_ne] at hlb ⊢; omega
      have NB := Lib.hid hnb
      clear hnb
      clear hlb
      go_enter Try.func28, Try.ntmps28
      go_wp2_with (first | (go_at_call 20; refine (rhId 1 (by omega) _).mono ?_; rintro e wn ⟨rfl, rfl⟩; rw [show hasId 1 = false from rfl]) | (go_at_call 22; refine (rhName 1 (by omega) _).mono ?_; rintro e wn ⟨rfl, rfl⟩; rw [show hasName 1 = true from rfl]) | (go_at_call 24; refine (rhValue 1 (by omega) _).mono ?_; rintro e wn ⟨rfl, rfl⟩; rw [show hasValue 1 = true from rfl]) | (go_at_call 26; refine (rhInt 1 (by omega) _).mono ?_; rintro e wn ⟨rfl, rfl⟩; rw [show hasInt 1 = true from rfl]) | (go_at_call 51; refine (HN.out _).mono ?_; rintro e wn ⟨rfl, rfl⟩; rw [NB.out]) | (go_at_call 52; refine (HCk.out _ (Nat.lt_of_lt_of_le hg ((Below.refl w.heap.size w).alloc (Nat.le_refl _) _).size) (HR.out.below ((Below.refl w.heap.size w).alloc (Nat.le_refl _) _) hg)).mono ?_; rintro e w4 ⟨rfl, B4⟩; have hB4 := below_trans' ((Below.refl w.heap.size w).alloc (Nat.le_refl _) _) B4; have e0 := agg_cells w _ _ w4 B4 0; have e4 := agg_cells w _ _ w4 B4 4; have e3 := agg_cells w _ _ w4 B4 3; simp only [List.getElem?_toArray, List.getElem?_cons_succ, List.getElem?_cons_zero] at e0 e3 e4; have q0 := (HR.out.below hB4 hg) 0 (by simp) 0 (by omega); simp only [List.getElem_cons_zero, Nd.cells, List.getElem?_cons_zero, Nat.zero_mul, Nat.add_zero] at q0))
      all_goals go_ret
      all_goals refine ⟨ret_bool HE.out, ?_⟩
      all_goals first | exact hB4 | exact ((Below.refl w.heap.size w).alloc (Nat.le_refl _) _)
    · have HE : Hid (evOk ⟨1, 0, nm, y :: ys, i⟩ = decide (0 ≤ i)) := by unfold Hid; rw [Bool.eq_iff_iff]; simp [evOk, hasName, hasList, nameB, hnb, hlb] <;> omega
      have hk5 : ((y.kind : Int) == 5) = true := by rw [beq_iff_eq] at hlb ⊢; omega
      have NB := Lib.hid hnb
      clear hnb
      clear hlb
      go_enter Try.func28, Try.ntmps28
      go_wp2_with (first | (go_at_call 20; refine (rhId 1 (by omega) _).mono ?_; rintro e wn ⟨rfl, rfl⟩; rw [show hasId 1 = false from rfl]) | (go_at_call 22; refine (rhName 1 (by omega) _).mono ?_; rintro e wn ⟨rfl, rfl⟩; rw [show hasName 1 = true from rfl]) | (go_at_call 24; refine (rhValue 1 (by omega) _).mono ?_; rintro e wn ⟨rfl, rfl⟩; rw [show hasValue 1 = true from rfl]) | (go_at_call 26; refine (rhInt 1 (by omega) _).mono ?_; rintro e wn ⟨rfl, rfl⟩; rw [show hasInt 1 = true from rfl]) | (go_at_call 51; refine (HN.out _).mono ?_; rintro e wn ⟨rfl, rfl⟩; rw [NB.out]) | (go_at_call 52; refine (HCk.out _ (Nat.lt_of_lt_of_le hg ((Below.refl w.heap.size w).alloc (Nat.le_refl _) _).size) (HR.out.below ((Below.refl w.heap.size w).alloc (Nat.le_refl _) _) hg)).mono ?_; rintro e w4 ⟨rfl, B4⟩; have hB4 := below_trans' ((Below.refl w.heap.size w).alloc (Nat.le_refl _) _) B4; have e0 := agg_cells w _ _ w4 B4 0; have e4 := agg_cells w _ _ w4 B4 4; have e3 := agg_cells w _ _ w4 B4 3; simp only [List.getElem?_toArray, List.getElem?_cons_succ, List.getElem?_cons_zero] at e0 e3 e4; have q0 := (HR.out.below hB4 hg) 0 (by simp) 0 (by omega); simp only [List.getElem_cons_zero, Nd.cells, List.getElem?_cons_zero, Nat.zero_mul, Nat.add_zero] at q0))
      all_goals go_ret
      all_goals refine ⟨?_, ?_⟩
      all_goals first | exact ret_bool (HE.out.trans (decide_eq_false (by omega))) | exact ret_bool (HE.out.trans (decide_eq_true (by omega))) | exact hB4 | exact ((Below.refl w.heap.size w).alloc (Nat.le_refl _) _)

set_option maxRecDepth 20000 in
set_option maxHeartbeats 4000000 in
theorem rvRight_2 (id : Nat) (nm : List UInt8) (xs : List Nd) (i : Int) (hx : EvRaw ⟨2, id, nm, xs, i⟩) (A : Option Addr) (n cap : Nat) (w : World) (hv : VIn w A n xs) :
    Calls Try.prog 28 #[.agg #[.int .u8 2, .int .i64 (id : Int), .string ⟨nm.toArray⟩, .slice A n cap, .int .i64 i]] w fun e w' => e = .returned (.bool (evOk ⟨2, id, nm, xs, i⟩)) ∧ Below w.heap.size w w' := by
  have hid := hx.id_le
  have hi1 := hx.i64.1
  have hi2 := hx.i64.2
  simp only at hid hi1 hi2
  obtain rfl : id = 0 := hx.id rfl
  obtain rfl : nm = [] := hx.name rfl
  obtain rfl : xs = [] := hx.val rfl
  obtain rfl : n = 0 := by
    rcases hv with ⟨_, h2⟩ | ⟨g, _, h2, _⟩
    · exact h2
    · simpa using h2
  clear hv
  clear hx
  have HE : Hid (evOk ⟨2, 0, [], [], i⟩ = decide (0 ≤ i ∧ i ≤ 501)) := by unfold Hid; rw [Bool.eq_iff_iff]; simp [evOk, hasName, hasList, nameB] <;> omega
  go_enter Try.func28, Try.ntmps28
  go_wp2_with (first | (go_at_call 20; refine (rhId 2 (by omega) _).mono ?_; rintro e wn ⟨rfl, rfl⟩; rw [show hasId 2 = false from rfl]) | (go_at_call 22; refine (rhName 2 (by omega) _).mono ?_; rintro e wn ⟨rfl, rfl⟩; rw [show hasName 2 = false from rfl]) | (go_at_call 24; refine (rhValue 2 (by omega) _).mono ?_; rintro e wn ⟨rfl, rfl⟩; rw [show hasValue 2 = false from rfl]) | (go_at_call 26; refine (rhInt 2 (by omega) _).mono ?_; rintro e wn ⟨rfl, rfl⟩; rw [show hasInt 2 = true from rfl]))
  all_goals go_ret
  all_goals refine ⟨?_, ?_⟩
  all_goals first | exact ret_bool (HE.out.trans (decide_eq_false (by omega))) | exact ret_bool (HE.out.trans (decide_eq_true (by omega))) | exact ((Below.refl w.heap.size w).alloc (Nat.le_refl _) _)

set_option maxRecDepth 20000 in
set_option maxHeartbeats 4000000 in
theorem rvRight_3 (id : Nat) (nm : List UInt8) (xs : List Nd) (i : Int) (hx : EvRaw ⟨3, id, nm, xs, i⟩) (A : Option Addr) (n cap : Nat) (w : World) (hv : VIn w A n xs) :
    Calls Try.prog 28 #[.agg #[.int .u8 3, .int .i64 (id : Int), .string ⟨nm.toArray⟩, .slice A n cap, .int .i64 i]] w fun e w' => e = .returned (.bool (evOk ⟨3, id, nm, xs, i⟩)) ∧ Below w.heap.size w w' := by
  have hid := hx.id_le
  have hi1 := hx.i64.1
  have hi2 := hx.i64.2
  simp only at hid hi1 hi2
  obtain rfl : i = 0 := hx.int rfl
  have hnl := hx.name_le
  simp only at hnl
  have HN := Lib.hid (fun w => rname_any ⟨nm.toArray⟩ (by unfold maxLen; show nm.length ≤ _; omega) w)
  clear hnl
  have hok := hx.ok rfl
  simp only at hok
  obtain ⟨g, rfl, rfl, hg, hrow⟩ : ∃ g, A = some ⟨g, 0, none⟩ ∧ n = xs.length ∧ g < w.heap.size ∧ RowOf w g xs := by
    rcases hv with ⟨h0, _⟩ | h
    · have := hok.1.pos; rw [h0] at this; simp at this
    · exact h
  have HCk := Lib.hid (fun W h1 h2 => refCheck_ok g cap xs hok.1 W h1 h2)
  have HR := Lib.hid hrow
  have hpos := hok.1.pos
  obtain ⟨y, ys, rfl⟩ : ∃ y ys, xs = y :: ys := by
    cases xs with
    | nil => simp at hpos
    | cons y ys => exact ⟨y, ys, rfl⟩
  have HY := Lib.hid (hok.1.seq.fit 0).1.kind
  clear hrow hok hv hpos
  clear hx
  rcases hnb : (nameS ⟨nm.toArray⟩) with _ | _
  · rcases hlb : (y.kind == 5) with _ | _
    · have HE : Hid (evOk ⟨3, id, nm, y :: ys, 0⟩ = false) := by unfold Hid; simp [evOk, hasName, hasList, nameB, hnb, hlb]
      have hk5 : ((y.kind : Int) == 5) = false := by rw [beq_eq_false_iff_ne] at hlb ⊢; omega
      have NB := Lib.hid hnb
      clear hnb
      clear hlb
      go_enter Try.func28, Try.ntmps28
      go_wp2_with (first | (go_at_call 20; refine (rhId 3 (by omega) _).mono ?_; rintro e wn ⟨rfl, rfl⟩; rw [show hasId 3 = true from rfl]) | (go_at_call 22; refine (rhName 3 (by omega) _).mono ?_; rintro e wn ⟨rfl, rfl⟩; rw [show hasName 3 = true from rfl]) | (go_at_call 24; refine (rhValue 3 (by omega) _).mono ?_; rintro e wn ⟨rfl, rfl⟩; rw [show hasValue 3 = true from rfl]) | (go_at_call 26; refine (rhInt 3 (by omega) _).mono ?_; rintro e wn ⟨rfl, rfl⟩; rw [show hasInt 3 = false from rfl]) | (go_at_call 51; refine (HN.out _).mono ?_; rintro e wn ⟨rfl, rfl⟩; rw [NB.out]) | (go_at_call 52; refine (HCk.out _ (Nat.lt_of_lt_of_le hg ((Below.refl w.heap.size w).alloc (Nat.le_refl _) _).size) (HR.out.below ((Below.refl w.heap.size w).alloc (Nat.le_refl _) _) hg)).mono ?_; rintro e w4 ⟨rfl, B4⟩; have hB4 := below_trans' ((Below.refl w.heap.size w).alloc (Nat.le_refl _) _) B4; have e0 := agg_cells w _ _ w4 B4 0; have e4 := agg_cells w _ _ w4 B4 4; have e3 := agg_cells w _ _ w4 B4 3; simp only [List.getElem?_toArray, List.getElem?_cons_succ, List.getElem?_cons_zero] at e0 e3 e4; have q0 := (HR.out.below hB4 hg) 0 (by simp) 0 (by omega); simp only [List.getElem_cons_zero, Nd.cells, List.getElem?_cons_zero, Nat.zero_mul, Nat.add_zero] at q0))
      all_goals go_ret
      all_goals refine ⟨ret_bool HE.out, ?_⟩
      all_goals first | exact hB4 | exact ((Below.refl w.heap.size w).alloc (Nat.le_refl _) _)
    · have HE : Hid (evOk ⟨3, id, nm, y :: ys, 0⟩ = false) := by unfold Hid; simp [evOk, hasName, hasList, nameB, hnb, hlb]
      have hk5 : ((y.kind : Int) == 5) = true := by rw [beq_iff_eq] at hlb ⊢; omega
      have NB := Lib.hid hnb
      clear hnb
      clear hlb
      go_enter Try.func28, Try.ntmps28
      go_wp2_with (first | (go_at_call 20; refine (rhId 3 (by omega) _).mono ?_; rintro e wn ⟨rfl, rfl⟩; rw [show hasId 3 = true from rfl]) | (go_at_call 22; refine (rhName 3 (by omega) _).mono ?_; rintro e wn ⟨rfl, rfl⟩; rw [show hasName 3 = true from rfl]) | (go_at_call 24; refine (rhValue 3 (by omega) _).mono ?_; rintro e wn ⟨rfl, rfl⟩; rw [show hasValue 3 = true from rfl]) | (go_at_call 26; refine (rhInt 3 (by omega) _).mono ?_; rintro e wn ⟨rfl, rfl⟩; rw [show hasInt 3 = false from rfl]) | (go_at_call 51; refine (HN.out _).mono ?_; rintro e wn ⟨rfl, rfl⟩; rw [NB.out]) | (go_at_call 52; refine (HCk.out _ (Nat.lt_of_lt_of_le hg ((Below.refl w.heap.size w).alloc (Nat.le_refl _) _).size) (HR.out.below ((Below.refl w.heap.size w).alloc (Nat.le_refl _) _) hg)).mono ?_; rintro e w4 ⟨rfl, B4⟩; have hB4 := below_trans' ((Below.refl w.heap.size w).alloc (Nat.le_refl _) _) B4; have e0 := agg_cells w _ _ w4 B4 0; have e4 := agg_cells w _ _ w4 B4 4; have e3 := agg_cells w _ _ w4 B4 3; simp only [List.getElem?_toArray, List.getElem?_cons_succ, List.getElem?_cons_zero] at e0 e3 e4; have q0 := (HR.out.below hB4 hg) 0 (by simp) 0 (by omega); simp only [List.getElem_cons_zero, Nd.cells, List.getElem?_cons_zero, Nat.zero_mul, Nat.add_zero] at q0))
      all_goals go_ret
      all_goals refine ⟨ret_bool HE.out, ?_⟩
      all_goals first | exact hB4 | exact ((Below.refl w.heap.size w).alloc (Nat.le_refl _) _)
  · rcases hlb : (y.kind == 5) with _ | _
    · have HE : Hid (evOk ⟨3, id, nm, y :: ys, 0⟩ = false) := by unfold Hid; simp [evOk, hasName, hasList, nameB, hnb, hlb]
      have hk5 : ((y.kind : Int) == 5) = false := by rw [beq_eq_false_iff_ne] at hlb ⊢; omega
      have NB := Lib.hid hnb
      clear hnb
      clear hlb
      go_enter Try.func28, Try.ntmps28
      go_wp2_with (first | (go_at_call 20; refine (rhId 3 (by omega) _).mono ?_; rintro e wn ⟨rfl, rfl⟩; rw [show hasId 3 = true from rfl]) | (go_at_call 22; refine (rhName 3 (by omega) _).mono ?_; rintro e wn ⟨rfl, rfl⟩; rw [show hasName 3 = true from rfl]) | (go_at_call 24; refine (rhValue 3 (by omega) _).mono ?_; rintro e wn ⟨rfl, rfl⟩; rw [show hasValue 3 = true from rfl]) | (go_at_call 26; refine (rhInt 3 (by omega) _).mono ?_; rintro e wn ⟨rfl, rfl⟩; rw [show hasInt 3 = false from rfl]) | (go_at_call 51; refine (HN.out _).mono ?_; rintro e wn ⟨rfl, rfl⟩; rw [NB.out]) | (go_at_call 52; refine (HCk.out _ (Nat.lt_of_lt_of_le hg ((Below.refl w.heap.size w).alloc (Nat.le_refl _) _).size) (HR.out.below ((Below.refl w.heap.size w).alloc (Nat.le_refl _) _) hg)).mono ?_; rintro e w4 ⟨rfl, B4⟩; have hB4 := below_trans' ((Below.refl w.heap.size w).alloc (Nat.le_refl _) _) B4; have e0 := agg_cells w _ _ w4 B4 0; have e4 := agg_cells w _ _ w4 B4 4; have e3 := agg_cells w _ _ w4 B4 3; simp only [List.getElem?_toArray, List.getElem?_cons_succ, List.getElem?_cons_zero] at e0 e3 e4; have q0 := (HR.out.below hB4 hg) 0 (by simp) 0 (by omega); simp only [List.getElem_cons_zero, Nd.cells, List.getElem?_cons_zero, Nat.zero_mul, Nat.add_zero] at q0))
      all_goals go_ret
      all_goals refine ⟨ret_bool HE.out, ?_⟩
      all_goals first | exact hB4 | exact ((Below.refl w.heap.size w).alloc (Nat.le_refl _) _)
    · have HE : Hid (evOk ⟨3, id, nm, y :: ys, 0⟩ = decide (id ≤ 499)) := by unfold Hid; rw [Bool.eq_iff_iff]; simp [evOk, hasName, hasList, nameB, hnb, hlb] <;> omega
      have hk5 : ((y.kind : Int) == 5) = true := by rw [beq_iff_eq] at hlb ⊢; omega
      have NB := Lib.hid hnb
      clear hnb
      clear hlb
      go_enter Try.func28, Try.ntmps28
      go_wp2_with (first | (go_at_call 20; refine (rhId 3 (by omega) _).mono ?_; rintro e wn ⟨rfl, rfl⟩; rw [show hasId 3 = true from rfl]) | (go_at_call 22; refine (rhName 3 (by omega) _).mono ?_; rintro e wn ⟨rfl, rfl⟩; rw [show hasName 3 = true from rfl]) | (go_at_call 24; refine (rhValue 3 (by omega) _).mono ?_; rintro e wn ⟨rfl, rfl⟩; rw [show hasValue 3 = true from rfl]) | (go_at_call 26; refine (rhInt 3 (by omega) _).mono ?_; rintro e wn ⟨rfl, rfl⟩; rw [show hasInt 3 = false from rfl]) | (go_at_call 51; refine (HN.out _).mono ?_; rintro e wn ⟨rfl, rfl⟩; rw [NB.out]) | (go_at_call 52; refine (HCk.out _ (Nat.lt_of_lt_of_le hg ((Below.refl w.heap.size w).alloc (Nat.le_refl _) _).size) (HR.out.below ((Below.refl w.heap.size w).alloc (Nat.le_refl _) _) hg)).mono ?_; rintro e w4 ⟨rfl, B4⟩; have hB4 := below_trans' ((Below.refl w.heap.size w).alloc (Nat.le_refl _) _) B4; have e0 := agg_cells w _ _ w4 B4 0; have e4 := agg_cells w _ _ w4 B4 4; have e3 := agg_cells w _ _ w4 B4 3; simp only [List.getElem?_toArray, List.getElem?_cons_succ, List.getElem?_cons_zero] at e0 e3 e4; have q0 := (HR.out.below hB4 hg) 0 (by simp) 0 (by omega); simp only [List.getElem_cons_zero, Nd.cells, List.getElem?_cons_zero, Nat.zero_mul, Nat.add_zero] at q0))
      all_goals go_ret
      all_goals refine ⟨?_, ?_⟩
      all_goals first | exact ret_bool (HE.out.trans (decide_eq_false (by omega))) | exact ret_bool (HE.out.trans (decide_eq_true (by omega))) | exact hB4 | exact ((Below.refl w.heap.size w).alloc (Nat.le_refl _) _)

set_option maxRecDepth 20000 in
set_option maxHeartbeats 4000000 in
theorem rvRight_4 (id : Nat) (nm : List UInt8) (xs : List Nd) (i : Int) (hx : EvRaw ⟨4, id, nm, xs, i⟩) (A : Option Addr) (n cap : Nat) (w : World) (hv : VIn w A n xs) :
    Calls Try.prog 28 #[.agg #[.int .u8 4, .int .i64 (id : Int), .string ⟨nm.toArray⟩, .slice A n cap, .int .i64 i]] w fun e w' => e = .returned (.bool (evOk ⟨4, id, nm, xs, i⟩)) ∧ Below w.heap.size w w' := by
  have hid := hx.id_le
  have hi1 := hx.i64.1
  have hi2 := hx.i64.2
  simp only at hid hi1 hi2
  obtain rfl : nm = [] := hx.name rfl
  obtain rfl : xs = [] := hx.val rfl
  obtain rfl : n = 0 := by
    rcases hv with ⟨_, h2⟩ | ⟨g, _, h2, _⟩
    · exact h2
    · simpa using h2
  clear hv
  clear hx
  have HE : Hid (evOk ⟨4, id, [], [], i⟩ = decide (id ≤ 499 ∧ 0 ≤ i)) := by unfold Hid; rw [Bool.eq_iff_iff]; simp [evOk, hasName, hasList, nameB] <;> omega
  go_enter Try.func28, Try.ntmps28
  go_wp2_with (first | (go_at_call 20; refine (rhId 4 (by omega) _).mono ?_; rintro e wn ⟨rfl, rfl⟩; rw [show hasId 4 = true from rfl]) | (go_at_call 22; refine (rhName 4 (by omega) _).mono ?_; rintro e wn ⟨rfl, rfl⟩; rw [show hasName 4 = false from rfl]) | (go_at_call 24; refine (rhValue 4 (by omega) _).mono ?_; rintro e wn ⟨rfl, rfl⟩; rw [show hasValue 4 = false from rfl]) | (go_at_call 26; refine (rhInt 4 (by omega) _).mono ?_; rintro e wn ⟨rfl, rfl⟩; rw [show hasInt 4 = true from rfl]))
  all_goals go_ret
  all_goals refine ⟨?_, ?_⟩
  all_goals first | exact ret_bool (HE.out.trans (decide_eq_false (by omega))) | exact ret_bool (HE.out.trans (decide_eq_true (by omega))) | exact ((Below.refl w.heap.size w).alloc (Nat.le_refl _) _)

set_option maxRecDepth 20000 in
set_option maxHeartbeats 4000000 in
theorem rvRight_5 (id : Nat) (nm : List UInt8) (xs : List Nd) (i : Int) (hx : EvRaw ⟨5, id, nm, xs, i⟩) (A : Option Addr) (n cap : Nat) (w : World) (hv : VIn w A n xs) :
    Calls Try.prog 28 #[.agg #[.int .u8 5, .int .i64 (id : Int), .string ⟨nm.toArray⟩, .slice A n cap, .int .i64 i]] w fun e w' => e = .returned (.bool (evOk ⟨5, id, nm, xs, i⟩)) ∧ Below w.heap.size w w' := by
  have hid := hx.id_le
  have hi1 := hx.i64.1
  have hi2 := hx.i64.2
  simp only at hid hi1 hi2
  obtain rfl : i = 0 := hx.int rfl
  have hnl := hx.name_le
  simp only at hnl
  have HN := Lib.hid (fun w => rname_any ⟨nm.toArray⟩ (by unfold maxLen; show nm.length ≤ _; omega) w)
  clear hnl
  have hok := hx.ok rfl
  simp only at hok
  obtain ⟨g, rfl, rfl, hg, hrow⟩ : ∃ g, A = some ⟨g, 0, none⟩ ∧ n = xs.length ∧ g < w.heap.size ∧ RowOf w g xs := by
    rcases hv with ⟨h0, _⟩ | h
    · have := hok.1.pos; rw [h0] at this; simp at this
    · exact h
  have HCk := Lib.hid (fun W h1 h2 => refCheck_ok g cap xs hok.1 W h1 h2)
  have HR := Lib.hid hrow
  have hpos := hok.1.pos
  obtain ⟨y, ys, rfl⟩ : ∃ y ys, xs = y :: ys := by
    cases xs with
    | nil => simp at hpos
    | cons y ys => exact ⟨y, ys, rfl⟩
  have HY := Lib.hid (hok.1.seq.fit 0).1.kind
  clear hrow hok hv hpos
  clear hx
  rcases hnb : (nameS ⟨nm.toArray⟩) with _ | _
  · rcases hlb : (y.kind == 5) with _ | _
    · have HE : Hid (evOk ⟨5, id, nm, y :: ys, 0⟩ = false) := by unfold Hid; simp [evOk, hasName, hasList, nameB, hnb, hlb]
      have hk5 : ((y.kind : Int) == 5) = false := by rw [beq_eq_false_iff_ne] at hlb ⊢; omega
      have NB := Lib.hid hnb
      clear hnb
      clear hlb
      go_enter Try.func28, Try.ntmps28
      go_wp2_with (first | (go_at_call 20; refine (rhId 5 (by omega) _).mono ?_; rintro e wn ⟨rfl, rfl⟩; rw [show hasId 5 = true from rfl]) | (go_at_call 22; refine (rhName 5 (by omega) _).mono ?_; rintro e wn ⟨rfl, rfl⟩; rw [show hasName 5 = true from rfl]) | (go_at_call 24; refine (rhValue 5 (by omega) _).mono ?_; rintro e wn ⟨rfl, rfl⟩; rw [show hasValue 5 = true from rfl]) | (go_at_call 26; refine (rhInt 5 (by omega) _).mono ?_; rintro e wn ⟨rfl, rfl⟩; rw [show hasInt 5 = false from rfl]) | (go_at_call 51; refine (HN.out _).mono ?_; rintro e wn ⟨rfl, rfl⟩; rw [NB.out]) | (go_at_call 52; refine (HCk.out _ (Nat.lt_of_lt_of_le hg ((Below.refl w.heap.size w).alloc (Nat.le_refl _) _).size) (HR.out.below ((Below.refl w.heap.size w).alloc (Nat.le_refl _) _) hg)).mono ?_; rintro e w4 ⟨rfl, B4⟩; have hB4 := below_trans' ((Below.refl w.heap.size w).alloc (Nat.le_refl _) _) B4; have e0 := agg_cells w _ _ w4 B4 0; have e4 := agg_cells w _ _ w4 B4 4; have e3 := agg_cells w _ _ w4 B4 3; simp only [List.getElem?_toArray, List.getElem?_cons_succ, List.getElem?_cons_zero] at e0 e3 e4; have q0 := (HR.out.below hB4 hg) 0 (by simp) 0 (by omega); simp only [List.getElem_cons_zero, Nd.cells, List.getElem?_cons_zero, Nat.zero_mul, Nat.add_zero] at q0))
      all_goals go_ret
      all_goals refine ⟨ret_bool HE.out, ?_⟩
      all_goals first | exact hB4 | exact ((Below.refl w.heap.size w).alloc (Nat.le_refl _) _)
    · have HE : Hid (evOk ⟨5, id, nm, y :: ys, 0⟩ = false) := by unfold Hid; simp [evOk, hasName, hasList, nameB, hnb, hlb]
      have hk5 : ((y.kind : Int) == 5) = true := by rw [beq_iff_eq] at hlb ⊢; omega
      have NB := Lib.hid hnb
      clear hnb
      clear hlb
      go_enter Try.func28, Try.ntmps28
      go_wp2_with (first | (go_at_call 20; refine (rhId 5 (by omega) _).mono ?_; rintro e wn ⟨rfl, rfl⟩; rw [show hasId 5 = true from rfl]) | (go_at_call 22; refine (rhName 5 (by omega) _).mono ?_; rintro e wn ⟨rfl, rfl⟩; rw [show hasName 5 = true from rfl]) | (go_at_call 24; refine (rhValue 5 (by omega) _).mono ?_; rintro e wn ⟨rfl, rfl⟩; rw [show hasValue 5 = true from rfl]) | (go_at_call 26; refine (rhInt 5 (by omega) _).mono ?_; rintro e wn ⟨rfl, rfl⟩; rw [show hasInt 5 = false from rfl]) | (go_at_call 51; refine (HN.out _).mono ?_; rintro e wn ⟨rfl, rfl⟩; rw [NB.out]) | (go_at_call 52; refine (HCk.out _ (Nat.lt_of_lt_of_le hg ((Below.refl w.heap.size w).alloc (Nat.le_refl _) _).size) (HR.out.below ((Below.refl w.heap.size w).alloc (Nat.le_refl _) _) hg)).mono ?_; rintro e w4 ⟨rfl, B4⟩; have hB4 := below_trans' ((Below.refl w.heap.size w).alloc (Nat.le_refl _) _) B4; have e0 := agg_cells w _ _ w4 B4 0; have e4 := agg_cells w _ _ w4 B4 4; have e3 := agg_cells w _ _ w4 B4 3; simp only [List.getElem?_toArray, List.getElem?_cons_succ, List.getElem?_cons_zero] at e0 e3 e4; have q0 := (HR.out.below hB4 hg) 0 (by simp) 0 (by omega); simp only [List.getElem_cons_zero, Nd.cells, List.getElem?_cons_zero, Nat.zero_mul, Nat.add_zero] at q0))
      all_goals go_ret
      all_goals refine ⟨ret_bool HE.out, ?_⟩
      all_goals first | exact hB4 | exact ((Below.refl w.heap.size w).alloc (Nat.le_refl _) _)
  · rcases hlb : (y.kind == 5) with _ | _
    · have HE : Hid (evOk ⟨5, id, nm, y :: ys, 0⟩ = false) := by unfold Hid; simp [evOk, hasName, hasList, nameB, hnb, hlb]
      have hk5 : ((y.kind : Int) == 5) = false := by rw [beq_eq_false_iff_ne] at hlb ⊢; omega
      have NB := Lib.hid hnb
      clear hnb
      clear hlb
      go_enter Try.func28, Try.ntmps28
      go_wp2_with (first | (go_at_call 20; refine (rhId 5 (by omega) _).mono ?_; rintro e wn ⟨rfl, rfl⟩; rw [show hasId 5 = true from rfl]) | (go_at_call 22; refine (rhName 5 (by omega) _).mono ?_; rintro e wn ⟨rfl, rfl⟩; rw [show hasName 5 = true from rfl]) | (go_at_call 24; refine (rhValue 5 (by omega) _).mono ?_; rintro e wn ⟨rfl, rfl⟩; rw [show hasValue 5 = true from rfl]) | (go_at_call 26; refine (rhInt 5 (by omega) _).mono ?_; rintro e wn ⟨rfl, rfl⟩; rw [show hasInt 5 = false from rfl]) | (go_at_call 51; refine (HN.out _).mono ?_; rintro e wn ⟨rfl, rfl⟩; rw [NB.out]) | (go_at_call 52; refine (HCk.out _ (Nat.lt_of_lt_of_le hg ((Below.refl w.heap.size w).alloc (Nat.le_refl _) _).size) (HR.out.below ((Below.refl w.heap.size w).alloc (Nat.le_refl _) _) hg)).mono ?_; rintro e w4 ⟨rfl, B4⟩; have hB4 := below_trans' ((Below.refl w.heap.size w).alloc (Nat.le_refl _) _) B4; have e0 := agg_cells w _ _ w4 B4 0; have e4 := agg_cells w _ _ w4 B4 4; have e3 := agg_cells w _ _ w4 B4 3; simp only [List.getElem?_toArray, List.getElem?_cons_succ, List.getElem?_cons_zero] at e0 e3 e4; have q0 := (HR.out.below hB4 hg) 0 (by simp) 0 (by omega); simp only [List.getElem_cons_zero, Nd.cells, List.getElem?_cons_zero, Nat.zero_mul, Nat.add_zero] at q0))
      all_goals go_ret
      all_goals refine ⟨ret_bool HE.out, ?_⟩
      all_goals first | exact hB4 | exact ((Below.refl w.heap.size w).alloc (Nat.le_refl _) _)
    · have HE : Hid (evOk ⟨5, id, nm, y :: ys, 0⟩ = decide (id ≤ 499)) := by unfold Hid; rw [Bool.eq_iff_iff]; simp [evOk, hasName, hasList, nameB, hnb, hlb] <;> omega
      have hk5 : ((y.kind : Int) == 5) = true := by rw [beq_iff_eq] at hlb ⊢; omega
      have NB := Lib.hid hnb
      clear hnb
      clear hlb
      go_enter Try.func28, Try.ntmps28
      go_wp2_with (first | (go_at_call 20; refine (rhId 5 (by omega) _).mono ?_; rintro e wn ⟨rfl, rfl⟩; rw [show hasId 5 = true from rfl]) | (go_at_call 22; refine (rhName 5 (by omega) _).mono ?_; rintro e wn ⟨rfl, rfl⟩; rw [show hasName 5 = true from rfl]) | (go_at_call 24; refine (rhValue 5 (by omega) _).mono ?_; rintro e wn ⟨rfl, rfl⟩; rw [show hasValue 5 = true from rfl]) | (go_at_call 26; refine (rhInt 5 (by omega) _).mono ?_; rintro e wn ⟨rfl, rfl⟩; rw [show hasInt 5 = false from rfl]) | (go_at_call 51; refine (HN.out _).mono ?_; rintro e wn ⟨rfl, rfl⟩; rw [NB.out]) | (go_at_call 52; refine (HCk.out _ (Nat.lt_of_lt_of_le hg ((Below.refl w.heap.size w).alloc (Nat.le_refl _) _).size) (HR.out.below ((Below.refl w.heap.size w).alloc (Nat.le_refl _) _) hg)).mono ?_; rintro e w4 ⟨rfl, B4⟩; have hB4 := below_trans' ((Below.refl w.heap.size w).alloc (Nat.le_refl _) _) B4; have e0 := agg_cells w _ _ w4 B4 0; have e4 := agg_cells w _ _ w4 B4 4; have e3 := agg_cells w _ _ w4 B4 3; simp only [List.getElem?_toArray, List.getElem?_cons_succ, List.getElem?_cons_zero] at e0 e3 e4; have q0 := (HR.out.below hB4 hg) 0 (by simp) 0 (by omega); simp only [List.getElem_cons_zero, Nd.cells, List.getElem?_cons_zero, Nat.zero_mul, Nat.add_zero] at q0))
      all_goals go_ret
      all_goals refine ⟨?_, ?_⟩
      all_goals first | exact ret_bool (HE.out.trans (decide_eq_false (by omega))) | exact ret_bool (HE.out.trans (decide_eq_true (by omega))) | exact hB4 | exact ((Below.refl w.heap.size w).alloc (Nat.le_refl _) _)

set_option maxRecDepth 20000 in
set_option maxHeartbeats 4000000 in
theorem rvRight_6 (id : Nat) (nm : List UInt8) (xs : List Nd) (i : Int) (hx : EvRaw ⟨6, id, nm, xs, i⟩) (A : Option Addr) (n cap : Nat) (w : World) (hv : VIn w A n xs) :
    Calls Try.prog 28 #[.agg #[.int .u8 6, .int .i64 (id : Int), .string ⟨nm.toArray⟩, .slice A n cap, .int .i64 i]] w fun e w' => e = .returned (.bool (evOk ⟨6, id, nm, xs, i⟩)) ∧ Below w.heap.size w w' := by
  have hid := hx.id_le
  have hi1 := hx.i64.1
  have hi2 := hx.i64.2
  simp only at hid hi1 hi2
  obtain rfl : id = 0 := hx.id rfl
  obtain rfl : nm = [] := hx.name rfl
  obtain rfl : i = 0 := hx.int rfl
  have hok := hx.ok rfl
  simp only at hok
  obtain ⟨g, rfl, rfl, hg, hrow⟩ : ∃ g, A = some ⟨g, 0, none⟩ ∧ n = xs.length ∧ g < w.heap.size ∧ RowOf w g xs := by
    rcases hv with ⟨h0, _⟩ | h
    · have := hok.1.pos; rw [h0] at this; simp at this
    · exact h
  have HCk := Lib.hid (fun W h1 h2 => refCheck_ok g cap xs hok.1 W h1 h2)
  have HR := Lib.hid hrow
  have hpos := hok.1.pos
  clear hrow hok hv hpos
  clear hx
  have HE : Hid (evOk ⟨6, 0, [], xs, 0⟩ = decide (True)) := by unfold Hid; rw [Bool.eq_iff_iff]; simp [evOk, hasName, hasList, nameB]
  go_enter Try.func28, Try.ntmps28
  go_wp2_with (first | (go_at_call 20; refine (rhId 6 (by omega) _).mono ?_; rintro e wn ⟨rfl, rfl⟩; rw [show hasId 6 = false from rfl]) | (go_at_call 22; refine (rhName 6 (by omega) _).mono ?_; rintro e wn ⟨rfl, rfl⟩; rw [show hasName 6 = false from rfl]) | (go_at_call 24; refine (rhValue 6 (by omega) _).mono ?_; rintro e wn ⟨rfl, rfl⟩; rw [show hasValue 6 = true from rfl]) | (go_at_call 26; refine (rhInt 6 (by omega) _).mono ?_; rintro e wn ⟨rfl, rfl⟩; rw [show hasInt 6 = false from rfl]) | (go_at_call 52; refine (HCk.out _ (Nat.lt_of_lt_of_le hg ((Below.refl w.heap.size w).alloc (Nat.le_refl _) _).size) (HR.out.below ((Below.refl w.heap.size w).alloc (Nat.le_refl _) _) hg)).mono ?_; rintro e w4 ⟨rfl, B4⟩; have hB4 := below_trans' ((Below.refl w.heap.size w).alloc (Nat.le_refl _) _) B4; have e0 := agg_cells w _ _ w4 B4 0; have e4 := agg_cells w _ _ w4 B4 4; have e3 := agg_cells w _ _ w4 B4 3; simp only [List.getElem?_toArray, List.getElem?_cons_succ, List.getElem?_cons_zero] at e0 e3 e4))
  all_goals go_ret
  all_goals refine ⟨?_, ?_⟩
  all_goals first | exact ret_bool (HE.out.trans (decide_eq_false (by omega))) | exact ret_bool (HE.out.trans (decide_eq_true (by trivial))) | exact hB4 | exact ((Below.refl w.heap.size w).alloc (Nat.le_refl _) _)

set_option maxRecDepth 20000 in
set_option maxHeartbeats 4000000 in
theorem rvRight_7 (id : Nat) (nm : List UInt8) (xs : List Nd) (i : Int) (hx : EvRaw ⟨7, id, nm, xs, i⟩) (A : Option Addr) (n cap : Nat) (w : World) (hv : VIn w A n xs) :
    Calls Try.prog 28 #[.agg #[.int .u8 7, .int .i64 (id : Int), .string ⟨nm.toArray⟩, .slice A n cap, .int .i64 i]] w fun e w' => e = .returned (.bool (evOk ⟨7, id, nm, xs, i⟩)) ∧ Below w.heap.size w w' := by
  have hid := hx.id_le
  have hi1 := hx.i64.1
  have hi2 := hx.i64.2
  simp only at hid hi1 hi2
  obtain rfl : id = 0 := hx.id rfl
  obtain rfl : nm = [] := hx.name rfl
  obtain rfl : i = 0 := hx.int rfl
  have hok := hx.ok rfl
  simp only at hok
  obtain ⟨g, rfl, rfl, hg, hrow⟩ : ∃ g, A = some ⟨g, 0, none⟩ ∧ n = xs.length ∧ g < w.heap.size ∧ RowOf w g xs := by
    rcases hv with ⟨h0, _⟩ | h
    · have := hok.1.pos; rw [h0] at this; simp at this
    · exact h
  have HCk := Lib.hid (fun W h1 h2 => refCheck_ok g cap xs hok.1 W h1 h2)
  have HR := Lib.hid hrow
  have hpos := hok.1.pos
  clear hrow hok hv hpos
  clear hx
  have HE : Hid (evOk ⟨7, 0, [], xs, 0⟩ = decide (True)) := by unfold Hid; rw [Bool.eq_iff_iff]; simp [evOk, hasName, hasList, nameB]
  go_enter Try.func28, Try.ntmps28
  go_wp2_with (first | (go_at_call 20; refine (rhId 7 (by omega) _).mono ?_; rintro e wn ⟨rfl, rfl⟩; rw [show hasId 7 = false from rfl]) | (go_at_call 22; refine (rhName 7 (by omega) _).mono ?_; rintro e wn ⟨rfl, rfl⟩; rw [show hasName 7 = false from rfl]) | (go_at_call 24; refine (rhValue 7 (by omega) _).mono ?_; rintro e wn ⟨rfl, rfl⟩; rw [show hasValue 7 = true from rfl]) | (go_at_call 26; refine (rhInt 7 (by omega) _).mono ?_; rintro e wn ⟨rfl, rfl⟩; rw [show hasInt 7 = false from rfl]) | (go_at_call 52; refine (HCk.out _ (Nat.lt_of_lt_of_le hg ((Below.refl w.heap.size w).alloc (Nat.le_refl _) _).size) (HR.out.below ((Below.refl w.heap.size w).alloc (Nat.le_refl _) _) hg)).mono ?_; rintro e w4 ⟨rfl, B4⟩; have hB4 := below_trans' ((Below.refl w.heap.size w).alloc (Nat.le_refl _) _) B4; have e0 := agg_cells w _ _ w4 B4 0; have e4 := agg_cells w _ _ w4 B4 4; have e3 := agg_cells w _ _ w4 B4 3; simp only [List.getElem?_toArray, List.getElem?_cons_succ, List.getElem?_cons_zero] at e0 e3 e4))
  all_goals go_ret
  all_goals refine ⟨?_, ?_⟩
  all_goals first | exact ret_bool (HE.out.trans (decide_eq_false (by omega))) | exact ret_bool (HE.out.trans (decide_eq_true (by trivial))) | exact hB4 | exact ((Below.refl w.heap.size w).alloc (Nat.le_refl _) _)

set_option maxRecDepth 20000 in
set_option maxHeartbeats 4000000 in
theorem rvRight_8 (id : Nat) (nm : List UInt8) (xs : List Nd) (i : Int) (hx : EvRaw ⟨8, id, nm, xs, i⟩) (A : Option Addr) (n cap : Nat) (w : World) (hv : VIn w A n xs) :
    Calls Try.prog 28 #[.agg #[.int .u8 8, .int .i64 (id : Int), .string ⟨nm.toArray⟩, .slice A n cap, .int .i64 i]] w fun e w' => e = .returned (.bool (evOk ⟨8, id, nm, xs, i⟩)) ∧ Below w.heap.size w w' := by
  have hid := hx.id_le
  have hi1 := hx.i64.1
  have hi2 := hx.i64.2
  simp only at hid hi1 hi2
  obtain rfl : id = 0 := hx.id rfl
  obtain rfl : nm = [] := hx.name rfl
  obtain rfl : xs = [] := hx.val rfl
  obtain rfl : n = 0 := by
    rcases hv with ⟨_, h2⟩ | ⟨g, _, h2, _⟩
    · exact h2
    · simpa using h2
  clear hv
  clear hx
  have HE : Hid (evOk ⟨8, 0, [], [], i⟩ = decide (1 ≤ i)) := by unfold Hid; rw [Bool.eq_iff_iff]; simp [evOk, hasName, hasList, nameB] <;> omega
  go_enter Try.func28, Try.ntmps28
  go_wp2_with (first | (go_at_call 20; refine (rhId 8 (by omega) _).mono ?_; rintro e wn ⟨rfl, rfl⟩; rw [show hasId 8 = false from rfl]) | (go_at_call 22; refine (rhName 8 (by omega) _).mono ?_; rintro e wn ⟨rfl, rfl⟩; rw [show hasName 8 = false from rfl]) | (go_at_call 24; refine (rhValue 8 (by omega) _).mono ?_; rintro e wn ⟨rfl, rfl⟩; rw [show hasValue 8 = false from rfl]) | (go_at_call 26; refine (rhInt 8 (by omega) _).mono ?_; rintro e wn ⟨rfl, rfl⟩; rw [show hasInt 8 = true from rfl]))
  all_goals go_ret
  all_goals refine ⟨?_, ?_⟩
  all_goals first | exact ret_bool (HE.out.trans (decide_eq_false (by omega))) | exact ret_bool (HE.out.trans (decide_eq_true (by omega))) | exact ret_bool (HE.out.trans (decide_eq_false (by simp only [beq_iff_eq] at *; omega))) | exact ret_bool (HE.out.trans (decide_eq_true (by simp only [beq_eq_false_iff_ne, ne_eq] at *; omega))) | exact ((Below.refl w.heap.size w).alloc (Nat.le_refl _) _)

set_option maxRecDepth 20000 in
set_option maxHeartbeats 4000000 in
theorem rvRight_9 (id : Nat) (nm : List UInt8) (xs : List Nd) (i : Int) (hx : EvRaw ⟨9, id, nm, xs, i⟩) (A : Option Addr) (n cap : Nat) (w : World) (hv : VIn w A n xs) :
    Calls Try.prog 28 #[.agg #[.int .u8 9, .int .i64 (id : Int), .string ⟨nm.toArray⟩, .slice A n cap, .int .i64 i]] w fun e w' => e = .returned (.bool (evOk ⟨9, id, nm, xs, i⟩)) ∧ Below w.heap.size w w' := by
  have hid := hx.id_le
  have hi1 := hx.i64.1
  have hi2 := hx.i64.2
  simp only at hid hi1 hi2
  obtain rfl : nm = [] := hx.name rfl
  obtain rfl : i = 0 := hx.int rfl
  have hok := hx.ok rfl
  simp only at hok
  obtain ⟨g, rfl, rfl, hg, hrow⟩ : ∃ g, A = some ⟨g, 0, none⟩ ∧ n = xs.length ∧ g < w.heap.size ∧ RowOf w g xs := by
    rcases hv with ⟨h0, _⟩ | h
    · have := hok.1.pos; rw [h0] at this; simp at this
    · exact h
  have HCk := Lib.hid (fun W h1 h2 => refCheck_ok g cap xs hok.1 W h1 h2)
  have HR := Lib.hid hrow
  have hpos := hok.1.pos
  clear hrow hok hv hpos
  clear hx
  have HE : Hid (evOk ⟨9, id, [], xs, 0⟩ = decide (id ≤ 499)) := by unfold Hid; rw [Bool.eq_iff_iff]; simp [evOk, hasName, hasList, nameB] <;> omega
  go_enter Try.func28, Try.ntmps28
  go_wp2_with (first | (go_at_call 20; refine (rhId 9 (by omega) _).mono ?_; rintro e wn ⟨rfl, rfl⟩; rw [show hasId 9 = true from rfl]) | (go_at_call 22; refine (rhName 9 (by omega) _).mono ?_; rintro e wn ⟨rfl, rfl⟩; rw [show hasName 9 = false from rfl]) | (go_at_call 24; refine (rhValue 9 (by omega) _).mono ?_; rintro e wn ⟨rfl, rfl⟩; rw [show hasValue 9 = true from rfl]) | (go_at_call 26; refine (rhInt 9 (by omega) _).mono ?_; rintro e wn ⟨rfl, rfl⟩; rw [show hasInt 9 = false from rfl]) | (go_at_call 52; refine (HCk.out _ (Nat.lt_of_lt_of_le hg ((Below.refl w.heap.size w).alloc (Nat.le_refl _) _).size) (HR.out.below ((Below.refl w.heap.size w).alloc (Nat.le_refl _) _) hg)).mono ?_; rintro e w4 ⟨rfl, B4⟩; have hB4 := below_trans' ((Below.refl w.heap.size w).alloc (Nat.le_refl _) _) B4; have e0 := agg_cells w _ _ w4 B4 0; have e4 := agg_cells w _ _ w4 B4 4; have e3 := agg_cells w _ _ w4 B4 3; simp only [List.getElem?_toArray, List.getElem?_cons_succ, List.getElem?_cons_zero] at e0 e3 e4))
  all_goals go_ret
  all_goals refine ⟨?_, ?_⟩
  all_goals first | exact ret_bool (HE.out.trans (decide_eq_false (by omega))) | exact ret_bool (HE.out.trans (decide_eq_true (by omega))) | exact hB4 | exact ((Below.refl w.heap.size w).alloc (Nat.le_refl _) _)

set_option maxRecDepth 20000 in
set_option maxHeartbeats 4000000 in
theorem rvRight_10 (id : Nat) (nm : List UInt8) (xs : List Nd) (i : Int) (hx : EvRaw ⟨10, id, nm, xs, i⟩) (A : Option Addr) (n cap : Nat) (w : World) (hv : VIn w A n xs) :
    Calls Try.prog 28 #[.agg #[.int .u8 10, .int .i64 (id : Int), .string ⟨nm.toArray⟩, .slice A n cap, .int .i64 i]] w fun e w' => e = .returned (.bool (evOk ⟨10, id, nm, xs, i⟩)) ∧ Below w.heap.size w w' := by
  have hid := hx.id_le
  have hi1 := hx.i64.1
  have hi2 := hx.i64.2
  simp only at hid hi1 hi2
  obtain rfl : nm = [] := hx.name rfl
  obtain rfl : xs = [] := hx.val rfl
  obtain rfl : n = 0 := by
    rcases hv with ⟨_, h2⟩ | ⟨g, _, h2, _⟩
    · exact h2
    · simpa using h2
  clear hv
  clear hx
  have HE : Hid (evOk ⟨10, id, [], [], i⟩ = decide (id ≤ 499 ∧ 1 ≤ i)) := by unfold Hid; rw [Bool.eq_iff_iff]; simp [evOk, hasName, hasList, nameB] <;> omega
  go_enter Try.func28, Try.ntmps28
  go_wp2_with (first | (go_at_call 20; refine (rhId 10 (by omega) _).mono ?_; rintro e wn ⟨rfl, rfl⟩; rw [show hasId 10 = true from rfl]) | (go_at_call 22; refine (rhName 10 (by omega) _).mono ?_; rintro e wn ⟨rfl, rfl⟩; rw [show hasName 10 = false from rfl]) | (go_at_call 24; refine (rhValue 10 (by omega) _).mono ?_; rintro e wn ⟨rfl, rfl⟩; rw [show hasValue 10 = false from rfl]) | (go_at_call 26; refine (rhInt 10 (by omega) _).mono ?_; rintro e wn ⟨rfl, rfl⟩; rw [show hasInt 10 = true from rfl]))
  all_goals go_ret
  all_goals refine ⟨?_, ?_⟩
  all_goals first | exact ret_bool (HE.out.trans (decide_eq_false (by omega))) | exact ret_bool (HE.out.trans (decide_eq_true (by omega))) | exact ret_bool (HE.out.trans (decide_eq_false (by simp only [beq_iff_eq] at *; omega))) | exact ret_bool (HE.out.trans (decide_eq_true (by simp only [beq_eq_false_iff_ne, ne_eq] at *; omega))) | exact ((Below.refl w.heap.size w).alloc (Nat.le_refl _) _)

set_option maxRecDepth 20000 in
set_option maxHeartbeats 4000000 in
theorem rvRight_11 (id : Nat) (nm : List UInt8) (xs : List Nd) (i : Int) (hx : EvRaw ⟨11, id, nm, xs, i⟩) (A : Option Addr) (n cap : Nat) (w : World) (hv : VIn w A n xs) :
    Calls Try.prog 28 #[.agg #[.int .u8 11, .int .i64 (id : Int), .string ⟨nm.toArray⟩, .slice A n cap, .int .i64 i]] w fun e w' => e = .returned (.bool (evOk ⟨11, id, nm, xs, i⟩)) ∧ Below w.heap.size w w' := by
  have hid := hx.id_le
  have hi1 := hx.i64.1
  have hi2 := hx.i64.2
  simp only at hid hi1 hi2
  obtain rfl : nm = [] := hx.name rfl
  obtain rfl : i = 0 := hx.int rfl
  obtain rfl : xs = [] := hx.val rfl
  obtain rfl : n = 0 := by
    rcases hv with ⟨_, h2⟩ | ⟨g, _, h2, _⟩
    · exact h2
    · simpa using h2
  clear hv
  clear hx
  have HE : Hid (evOk ⟨11, id, [], [], 0⟩ = decide (id ≤ 499)) := by unfold Hid; rw [Bool.eq_iff_iff]; simp [evOk, hasName, hasList, nameB] <;> omega
  go_enter Try.func28, Try.ntmps28
  go_wp2_with (first | (go_at_call 20; refine (rhId 11 (by omega) _).mono ?_; rintro e wn ⟨rfl, rfl⟩; rw [show hasId 11 = true from rfl]) | (go_at_call 22; refine (rhName 11 (by omega) _).mono ?_; rintro e wn ⟨rfl, rfl⟩; rw [show hasName 11 = false from rfl]) | (go_at_call 24; refine (rhValue 11 (by omega) _).mono ?_; rintro e wn ⟨rfl, rfl⟩; rw [show hasValue 11 = false from rfl]) | (go_at_call 26; refine (rhInt 11 (by omega) _).mono ?_; rintro e wn ⟨rfl, rfl⟩; rw [show hasInt 11 = false from rfl]))
  all_goals go_ret
  all_goals refine ⟨?_, ?_⟩
  all_goals first | exact ret_bool (HE.out.trans (decide_eq_false (by omega))) | exact ret_bool (HE.out.trans (decide_eq_true (by omega))) | exact ((Below.refl w.heap.size w).alloc (Nat.le_refl _) _)

set_option maxRecDepth 20000 in
set_option maxHeartbeats 4000000 in
theorem rvRight_12 (id : Nat) (nm : List UInt8) (xs : List Nd) (i : Int) (hx : EvRaw ⟨12, id, nm, xs, i⟩) (A : Option Addr) (n cap : Nat) (w : World) (hv : VIn w A n xs) :
    Calls Try.prog 28 #[.agg #[.int .u8 12, .int .i64 (id : Int), .string ⟨nm.toArray⟩, .slice A n cap, .int .i64 i]] w fun e w' => e = .returned (.bool (evOk ⟨12, id, nm, xs, i⟩)) ∧ Below w.heap.size w w' := by
  have hid := hx.id_le
  have hi1 := hx.i64.1
  have hi2 := hx.i64.2
  simp only at hid hi1 hi2
  obtain rfl : id = 0 := hx.id rfl
  obtain rfl : i = 0 := hx.int rfl
  have hnl := hx.name_le
  simp only at hnl
  have HN := Lib.hid (fun w => rname_any ⟨nm.toArray⟩ (by unfold maxLen; show nm.length ≤ _; omega) w)
  clear hnl
  have hok := hx.ok rfl
  simp only at hok
  obtain ⟨g, rfl, rfl, hg, hrow⟩ : ∃ g, A = some ⟨g, 0, none⟩ ∧ n = xs.length ∧ g < w.heap.size ∧ RowOf w g xs := by
    rcases hv with ⟨h0, _⟩ | h
    · have := hok.1.pos; rw [h0] at this; simp at this
    · exact h
  have HCk := Lib.hid (fun W h1 h2 => refCheck_ok g cap xs hok.1 W h1 h2)
  have HR := Lib.hid hrow
  have hpos := hok.1.pos
  clear hrow hok hv hpos
  clear hx
  rcases hnb : (nameS ⟨nm.toArray⟩) with _ | _
  · have HE : Hid (evOk ⟨12, 0, nm, xs, 0⟩ = false) := by unfold Hid; simp [evOk, hasName, hasList, nameB, hnb]
    have NB := Lib.hid hnb
    clear hnb
    go_enter Try.func28, Try.ntmps28
    go_wp2_with (first | (go_at_call 20; refine (rhId 12 (by omega) _).mono ?_; rintro e wn ⟨rfl, rfl⟩; rw [show hasId 12 = false from rfl]) | (go_at_call 22; refine (rhName 12 (by omega) _).mono ?_; rintro e wn ⟨rfl, rfl⟩; rw [show hasName 12 = true from rfl]) | (go_at_call 24; refine (rhValue 12 (by omega) _).mono ?_; rintro e wn ⟨rfl, rfl⟩; rw [show hasValue 12 = true from rfl]) | (go_at_call 26; refine (rhInt 12 (by omega) _).mono ?_; rintro e wn ⟨rfl, rfl⟩; rw [show hasInt 12 = false from rfl]) | (go_at_call 51; refine (HN.out _).mono ?_; rintro e wn ⟨rfl, rfl⟩; rw [NB.out]) | (go_at_call 52; refine (HCk.out _ (Nat.lt_of_lt_of_le hg ((Below.refl w.heap.size w).alloc (Nat.le_refl _) _).size) (HR.out.below ((Below.refl w.heap.size w).alloc (Nat.le_refl _) _) hg)).mono ?_; rintro e w4 ⟨rfl, B4⟩; have hB4 := below_trans' ((Below.refl w.heap.size w).alloc (Nat.le_refl _) _) B4; have e0 := agg_cells w _ _ w4 B4 0; have e4 := agg_cells w _ _ w4 B4 4; have e3 := agg_cells w _ _ w4 B4 3; simp only [List.getElem?_toArray, List.getElem?_cons_succ, List.getElem?_cons_zero] at e0 e3 e4))
    all_goals go_ret
    all_goals refine ⟨ret_bool HE.out, ?_⟩
    all_goals first | exact hB4 | exact ((Below.refl w.heap.size w).alloc (Nat.le_refl _) _)
  · have HE : Hid (evOk ⟨12, 0, nm, xs, 0⟩ = decide (True)) := by unfold Hid; rw [Bool.eq_iff_iff]; simp [evOk, hasName, hasList, nameB, hnb]
    have NB := Lib.hid hnb
    clear hnb
    go_enter Try.func28, Try.ntmps28
    go_wp2_with (first | (go_at_call 20; refine (rhId 12 (by omega) _).mono ?_; rintro e wn ⟨rfl, rfl⟩; rw [show hasId 12 = false from rfl]) | (go_at_call 22; refine (rhName 12 (by omega) _).mono ?_; rintro e wn ⟨rfl, rfl⟩; rw [show hasName 12 = true from rfl]) | (go_at_call 24; refine (rhValue 12 (by omega) _).mono ?_; rintro e wn ⟨rfl, rfl⟩; rw [show hasValue 12 = true from rfl]) | (go_at_call 26; refine (rhInt 12 (by omega) _).mono ?_; rintro e wn ⟨rfl, rfl⟩; rw [show hasInt 12 = false from rfl]) | (go_at_call 51; refine (HN.out _).mono ?_; rintro e wn ⟨rfl, rfl⟩; rw [NB.out]) | (go_at_call 52; refine (HCk.out _ (Nat.lt_of_lt_of_le hg ((Below.refl w.heap.size w).alloc (Nat.le_refl _) _).size) (HR.out.below ((Below.refl w.heap.size w).alloc (Nat.le_refl _) _) hg)).mono ?_; rintro e w4 ⟨rfl, B4⟩; have hB4 := below_trans' ((Below.refl w.heap.size w).alloc (Nat.le_refl _) _) B4; have e0 := agg_cells w _ _ w4 B4 0; have e4 := agg_cells w _ _ w4 B4 4; have e3 := agg_cells w _ _ w4 B4 3; simp only [List.getElem?_toArray, List.getElem?_cons_succ, List.getElem?_cons_zero] at e0 e3 e4))
    all_goals go_ret
    all_goals refine ⟨?_, ?_⟩
    all_goals first | exact ret_bool (HE.out.trans (decide_eq_false (by omega))) | exact ret_bool (HE.out.trans (decide_eq_true (by trivial))) | exact hB4 | exact ((Below.refl w.heap.size w).alloc (Nat.le_refl _) _)

theorem right17_any (x : Ev) (hx : EvRaw x) (A : Option Addr) (n cap : Nat) (w : World) (hv : VIn w A n x.val) :
    Calls Try.prog 28 #[evV x A n cap] w fun e w' => e = .returned (.bool (evOk x)) ∧ Below w.heap.size w w' := by
  obtain ⟨k, id, nm, xs, i⟩ := x
  have hk := hx.kind
  simp only at hk
  have h : k = 1 ∨ k = 2 ∨ k = 3 ∨ k = 4 ∨ k = 5 ∨ k = 6 ∨ k = 7 ∨ k = 8 ∨ k = 9 ∨ k = 10 ∨ k = 11 ∨ k = 12 := by omega
  rcases h with rfl | rfl | rfl | rfl | rfl | rfl | rfl | rfl | rfl | rfl | rfl | rfl
  · exact rvRight_1 id nm xs i hx A n cap w hv
  · exact rvRight_2 id nm xs i hx A n cap w hv
  · exact rvRight_3 id nm xs i hx A n cap w hv
  · exact rvRight_4 id nm xs i hx A n cap w hv
  · exact rvRight_5 id nm xs i hx A n cap w hv
  · exact rvRight_6 id nm xs i hx A n cap w hv
  · exact rvRight_7 id nm xs i hx A n cap w hv
  · exact rvRight_8 id nm xs i hx A n cap w hv
  · exact rvRight_9 id nm xs i hx A n cap w hv
  · exact rvRight_10 id nm xs i hx A n cap w hv
  · exact rvRight_11 id nm xs i hx A n cap w hv
  · exact rvRight_12 id nm xs i hx A n cap w hv
end Go.Proofs.Yticipdjfkpakpaa
