/- frame: look, Read: of a whole frame, of a torn one. -/
import Derived.Test.YteihedfmmiihiaaGreatWmE
namespace Go.Proofs.YteihedfmmiihiaaGreat
open Go.RowKit

theorem get_below (w : World) (A : Option Addr) (n c : Nat) (l : List UInt8) (h : Bs w A n l) (h4 : 4 ≤ l.length) (v : Nat) (hv : get32 l 0 = v) :
    Calls Tryz.prog 104 #[.slice A n c] w fun e w' => e = .returned (.int .u32 (v : Int)) ∧ Below w.heap.size w w' := by
  subst hv
  refine (get_any w A n c l h h4).mono ?_
  rintro e w' ⟨he, k, rfl⟩
  exact ⟨he, below_drewN' (Below.refl _ _) _⟩
theorem get32_drop (l : List UInt8) (k : Nat) : get32 (l.drop k) 0 = get32 l k := by
  unfold get32
  simp only [List.getD_eq_getElem?_getD, List.getElem?_drop, Nat.add_zero]
theorem Bs.tail {w : World} {ad : Addr} {n : Nat} {l : List UInt8} (h : Bs w (some ad) n l) (k : Nat) (hk : k ≤ l.length) : Bs w (some (ad.add k)) (l.length - k) (l.drop k) := by
  have := h.cut (A' := some (ad.add k)) k l.length hk (Nat.le_refl _) (fun a _ e => by rw [Option.some.inj e])
  rwa [List.take_of_length_le (by simp)] at this
theorem Bs.pre {w : World} {A : Option Addr} {n : Nat} {l : List UInt8} (h : Bs w A n l) (k : Nat) (hk : k ≤ l.length) : Bs w A k (l.take k) := by
  have := h.cut (A' := A) 0 k (Nat.zero_le _) hk (fun a _ e => by
    rw [e]
    have : a.add 0 = a := by unfold Addr.add; split <;> simp_all
    rw [this])
  simpa using this
def LookY (w : World) (a b c : Int) (e : Ending) (w' : World) : Prop := e = .returned (.tuple #[.int .i64 a, .int .i64 b, .int .i64 c]) ∧ Below w.heap.size w w'
set_option maxRecDepth 20000 in
set_option maxHeartbeats 4000000 in
theorem look_short (w : World) (A : Option Addr) (c : Nat) (l : List UInt8) (h8 : l.length < 8) :
    Calls Tryz.prog 89 #[.slice A l.length c] w (LookY w 0 l.length 4) := by
  have q1 : (l.length : Int) < 8 := by omega
  go_enter Tryz.func89, Tryz.ntmps89
  go_wp2_with fail
  refine bodyPost_ret (results_tmp3 rfl _ _ _) rfl ?_
  exact ⟨rfl, Below.refl _ _⟩
set_option maxRecDepth 20000 in
set_option maxHeartbeats 4000000 in
theorem look_head (w : World) (A : Option Addr) (c : Nat) (l : List UInt8) (h : Bs w A l.length l) (hc : l.length ≤ c) (n : Nat) (hn : n ≤ 65536) (h0 : get32 l 0 = n) (h4 : get32 l 4 = sumN (l.take 4)) (h8 : 8 ≤ l.length) (ht : l.length < 8 + n + 4) :
    Calls Tryz.prog 89 #[.slice A l.length c] w (LookY w 0 l.length 4) := by
  obtain ⟨ad, rfl, hbl, b0⟩ := h.cell 0 (by omega)
  have H := Lib.hid h
  have hlm := h.le
  unfold maxLen at hlm
  have q1 : ¬ (l.length : Int) < 8 := by omega
  have HG := Lib.hid (get_below w (some ad) l.length c l h (by omega) n h0)
  clear h b0
  obtain ⟨v, hv⟩ : ∃ v, sumN (l.take 4) = v := ⟨_, rfl⟩
  have HV := Lib.hid hv
  have H4 := Lib.hid (h4.trans hv)
  have H8 := Lib.hid h8
  clear hv h4
  go_enter Tryz.func89, Tryz.ntmps89
  go_wp2_with fail
  refine HG.out.mono ?_
  rintro e w1 ⟨rfl, hb1⟩
  have B1 := Lib.hid hb1
  clear hb1
  have HG2 : Hid (∀ p : BelowW w1, Calls Tryz.prog 104 #[.slice (some ⟨ad.block, ad.off + 4, none⟩) (l.length - 4) (c - 4)] p.w fun e w' => e = .returned (.int .u32 (v : Int)) ∧ Below p.w.heap.size p.w w') := Lib.hid (fun p => get_below p.w _ _ _ (l.drop 4) (((H.out.below B1.out).below p.h).tail 4 (by have := H8.out; omega)) (by have := H8.out; simp; omega) v (by rw [get32_drop]; exact H4.out))
  have HS2 : Hid (∀ p : BelowW w1, Calls Tryz.prog 74 #[.slice (some ad) 4 c] p.w fun e w' => e = .returned (.int .u32 (v : Int)) ∧ Below p.w.heap.size p.w w') := Lib.hid (fun p => by
    have := sum_any p.w (some ad) 4 c (l.take 4) (((H.out.below B1.out).below p.h).pre 4 (by have := H8.out; omega))
    rwa [HV.out] at this)
  have q2 : ¬ (65536 : Int) < (n : Int) := by omega
  have q3 : (l.length : Int) < 8 + (n : Int) + 4 := by omega
  have q4 : (n : Int) % 4294967296 = (n : Int) := by omega
  go_wp2_with fail
  refine wp_region_quiet_below (by kernel_rfl) (by kernel_rfl) ?_
  repeat (go_big_quiet_step (first | (go_at_call 104; exact Calls.below_of (HG2.out _)) | (go_at_call 74; exact Calls.below_of (HS2.out _))))
  refine wpQuiet_nil ?_
  intro wq hw'
  have HQ := Lib.hid (belowW_out hw')
  clear hw'
  go_wp2_with fail
  refine bodyPost_ret (results_tmp3 rfl _ _ _) rfl ?_
  exact ⟨rfl, below_trans' B1.out HQ.out⟩
set_option maxRecDepth 20000 in
set_option maxHeartbeats 4000000 in
theorem look_ok (w : World) (A : Option Addr) (c : Nat) (l b : List UInt8) (h : Bs w A l.length l) (hc : l.length ≤ c) (hf : FrameAt l b) (hn : b.length ≤ 65536) :
    Calls Tryz.prog 89 #[.slice A l.length c] w (LookY w b.length 0 0) := by
  obtain ⟨n, hbn⟩ : ∃ n, b.length = n := ⟨_, rfl⟩
  have hl12 : n + 12 ≤ l.length := by have := hf.len; omega
  obtain ⟨ad, rfl, hbl, b0⟩ := h.cell 0 (by omega)
  have H := Lib.hid h
  have hlm := h.le
  unfold maxLen at hlm
  have q1 : ¬ (l.length : Int) < 8 := by omega
  have h0 : get32 l 0 = n := by rw [hf.size, hbn]
  have HG := Lib.hid (get_below w (some ad) l.length c l h (by omega) n h0)
  clear h b0
  obtain ⟨v, hv⟩ : ∃ v, sumN (l.take 4) = v := ⟨_, rfl⟩
  obtain ⟨u, hu⟩ : ∃ u, sumN b = u := ⟨_, rfl⟩
  obtain ⟨at_, hat⟩ : ∃ a, 8 + n = a := ⟨_, rfl⟩
  have HV := Lib.hid hv
  have HU := Lib.hid hu
  have H4 := Lib.hid (hf.head.trans hv)
  have H8 := Lib.hid hl12
  have HT := Lib.hid (show get32 l at_ = u from by rw [← hat, ← hbn, hf.tail, hu])
  have HB := Lib.hid (show (l.drop 8).take (at_ - 8) = b from by rw [show at_ - 8 = b.length from by omega]; exact hf.body)
  have HAT := Lib.hid hat
  have hatI : (8 : Int) + (n : Int) = (at_ : Int) := by omega
  have q2 : ¬ (65536 : Int) < (n : Int) := by omega
  have q3 : ¬ (l.length : Int) < (at_ : Int) + 4 := by omega
  have q4 : (n : Int) % 4294967296 = (n : Int) := by omega
  have q5 : (at_ : Int) ≤ (l.length : Int) := by omega
  have q6 : ¬ c = at_ := by omega
  have q7 : (8 : Int) ≤ (at_ : Int) := by omega
  have q8 : (at_ : Int) ≤ (c : Int) := by omega
  clear hv hu hat hf
  go_enter Tryz.func89, Tryz.ntmps89
  go_wp2_with fail
  refine HG.out.mono ?_
  rintro e w1 ⟨rfl, hb1⟩
  have B1 := Lib.hid hb1
  clear hb1
  have HG2 : Hid (∀ p : BelowW w1, Calls Tryz.prog 104 #[.slice (some ⟨ad.block, ad.off + 4, none⟩) (l.length - 4) (c - 4)] p.w fun e w' => e = .returned (.int .u32 (v : Int)) ∧ Below p.w.heap.size p.w w') := Lib.hid (fun p => get_below p.w _ _ _ (l.drop 4) (((H.out.below B1.out).below p.h).tail 4 (by have := H8.out; omega)) (by have := H8.out; simp; omega) v (by rw [get32_drop]; exact H4.out))
  have HS2 : Hid (∀ p : BelowW w1, Calls Tryz.prog 74 #[.slice (some ad) 4 c] p.w fun e w' => e = .returned (.int .u32 (v : Int)) ∧ Below p.w.heap.size p.w w') := Lib.hid (fun p => by
    have := sum_any p.w (some ad) 4 c (l.take 4) (((H.out.below B1.out).below p.h).pre 4 (by have := H8.out; omega))
    rwa [HV.out] at this)
  go_wp2_with fail
  refine wp_region_quiet_below (by kernel_rfl) (by kernel_rfl) ?_
  repeat (go_big_quiet_step (first | (go_at_call 104; exact Calls.below_of (HG2.out _)) | (go_at_call 74; exact Calls.below_of (HS2.out _))))
  refine wpQuiet_nil ?_
  intro wq hw'
  have HQ := Lib.hid (below_trans' B1.out (belowW_out hw'))
  clear hw' HG2 HS2
  have HG3 : Hid (∀ p : BelowW wq, Calls Tryz.prog 104 #[.slice (some (ad.add at_)) (l.length - at_) (c - at_)] p.w fun e w' => e = .returned (.int .u32 (u : Int)) ∧ Below p.w.heap.size p.w w') := Lib.hid (fun p => get_below p.w _ _ _ (l.drop at_) (((H.out.below HQ.out).below p.h).tail at_ (by have := H8.out; have := HAT.out; omega)) (by have := H8.out; have := HAT.out; simp; omega) u (by rw [get32_drop]; exact HT.out))
  have HS3 : Hid (∀ p : BelowW wq, Calls Tryz.prog 74 #[.slice (some ⟨ad.block, ad.off + 8, none⟩) (at_ - 8) (c - 8)] p.w fun e w' => e = .returned (.int .u32 (u : Int)) ∧ Below p.w.heap.size p.w w') := Lib.hid (fun p => by
    have := sum_any p.w (some (ad.add 8)) (at_ - 8) (c - 8) ((l.drop 8).take (at_ - 8)) (((H.out.below HQ.out).below p.h).cut 8 at_ (by have := HAT.out; omega) (by have := H8.out; have := HAT.out; omega) (fun a _ e => by rw [Option.some.inj e]))
    rw [HB.out, HU.out] at this
    exact this)
  go_wp2_with fail
  refine wp_region_quiet_below (by kernel_rfl) (by kernel_rfl) ?_
  repeat (go_big_quiet_step (first | (go_at_call 104; exact Calls.below_of (HG3.out _)) | (go_at_call 74; exact Calls.below_of (HS3.out _))))
  refine wpQuiet_nil ?_
  intro wz hw'
  have HZ := Lib.hid (below_trans' HQ.out (belowW_out hw'))
  clear hw' HG3 HS3
  go_wp2_with fail
  refine bodyPost_ret (results_tmp3 rfl _ _ _) rfl ?_
  exact ⟨by rw [hbn]; rfl, HZ.out⟩
/-! ### Read -/
def GotF (w : World) (b : List UInt8) (e : Ending) (w' : World) : Prop := ∃ A c, e = .returned (.tuple #[.slice A b.length c, .int .i64 ((b.length + 12 : Nat) : Int), .int .i64 0]) ∧ OwnB w' w.heap.size A c b ∧ Below w.heap.size w w'
def TornF (w : World) (e : Ending) (w' : World) : Prop := ∃ k : Int, e = .returned (.tuple #[.slice none 0 0, .int .i64 k, .int .i64 4]) ∧ Below w.heap.size w w'
set_option maxRecDepth 20000 in
set_option maxHeartbeats 4000000 in
theorem read_torn (w : World) (A : Option Addr) (c : Nat) (l : List UInt8) (h : Bs w A l.length l) (hc : l.length ≤ c) (ht : Torn l) :
    Calls Tryz.prog 80 #[.slice A l.length c] w (TornF w) := by
  have HL : Hid (Calls Tryz.prog 89 #[.slice A l.length c] w (LookY w 0 l.length 4)) := Lib.hid (by
    rcases ht with h8 | ⟨n, h1, h2, h3, h4, h5⟩
    · exact look_short w A c l h8
    · exact look_head w A c l h hc n h1 h2 h3 h4 h5)
  clear ht h hc
  go_enter Tryz.func80, Tryz.ntmps80
  go_wp2_with fail
  refine HL.out.mono ?_
  rintro e w1 ⟨rfl, hb1⟩
  have B1 := Lib.hid hb1
  clear hb1
  go_wp2_with fail
  refine bodyPost_ret (results_tmp3 rfl _ _ _) rfl ?_
  exact ⟨_, rfl, B1.out⟩
set_option maxRecDepth 20000 in
set_option maxHeartbeats 4000000 in
theorem read_ok (w : World) (A : Option Addr) (c : Nat) (l b : List UInt8) (h : Bs w A l.length l) (hc : l.length ≤ c) (hf : FrameAt l b) (hn : b.length ≤ 65536) :
    Calls Tryz.prog 80 #[.slice A l.length c] w (GotF w b) := by
  obtain ⟨n, hbn⟩ : ∃ n, b.length = n := ⟨_, rfl⟩
  have HL := look_ok w A c l b h hc hf hn
  rw [hbn] at HL
  have HL := Lib.hid HL
  have HN := Lib.hid hbn
  have hlb : n + 12 ≤ l.length := by have := hf.len; omega
  obtain ⟨ad, rfl, hbl, b0⟩ := h.cell 0 (by omega)
  have H := Lib.hid h
  obtain ⟨at_, hat⟩ : ∃ a, 8 + n = a := ⟨_, rfl⟩
  have hatI : (8 : Int) + (n : Int) = (at_ : Int) := by omega
  have q5 : (at_ : Int) ≤ (l.length : Int) := by omega
  have q6 : ¬ c = at_ := by omega
  have q7 : (8 : Int) ≤ (at_ : Int) := by omega
  have q8 : (at_ : Int) ≤ (c : Int) := by omega
  have HBS : Hid (∀ w1, Below w.heap.size w w1 → Bs w1 (some ⟨ad.block, ad.off + 8, none⟩) (at_ - 8) b) := Lib.hid (fun w1 hb => by
    have := (H.out.below hb).cut (A' := some (ad.add 8)) 8 at_ (by omega) (by omega) (fun a _ e => by rw [Option.some.inj e])
    rw [show at_ - 8 = b.length from by omega, hf.body] at this
    rw [show at_ - 8 = b.length from by omega]
    exact this)
  have hbN : Hid (b.length ≤ 65536) := Lib.hid hn
  have HAT : Hid ((b.length : Int) + 12 = (at_ : Int) + 4) := Lib.hid (by omega)
  have q9 : ¬ c = 8 := by omega
  have q10 : (at_ : Int) ≤ 70000 := by omega
  have q11 : (n : Int) ≤ 70000 := by omega
  clear hf b0 hlb hn hat hbn h
  go_enter Tryz.func80, Tryz.ntmps80
  go_wp2_with fail
  refine HL.out.mono ?_
  rintro e w1 ⟨rfl, hb1⟩
  have B1 := Lib.hid hb1
  clear hb1
  obtain ⟨A2, c2, w2, h1, h2, h3⟩ := append_copy w1 (some ⟨ad.block, ad.off + 8, none⟩) (at_ - 8) (c - 8) b (HBS.out w1 B1.out) (by have := hbN.out; omega) 30
  have HR := Lib.hid h1
  have O2 := Lib.hid h2
  have B2 := Lib.hid (below_trans' B1.out h3)
  clear h1 h2 h3
  go_wp2_with (at_builtin; refine wpl_append_run rfl _ _ 30 rfl _ _ rfl rfl _ _ HR.out ?_)
  refine bodyPost_ret (results_tmp3 rfl _ _ _) rfl ?_
  refine ⟨A2, c2, ?_, OwnB.weak (H := w1.heap.size) O2.out B1.out.size, B2.out⟩
  rw [show ((b.length + 12 : Nat) : Int) = (at_ : Int) + 4 from by have := HAT.out; omega]
  rfl
end Go.Proofs.YteihedfmmiihiaaGreat
