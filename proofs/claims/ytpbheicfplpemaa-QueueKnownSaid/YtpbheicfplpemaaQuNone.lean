/- queue: what a queue that nobody made answers; Done and Back of no token. -/
import Derived.Test.YtpbheicfplpemaaQuBack
namespace Go.Proofs.Ytpbheicfplpemaa
open Go.RowKit

/-- nobody made it -/
def UnM (w : World) (p : Value) : Prop := ∀ X, Below w.heap.size w X → Calls Try.prog 28 #[p] X fun e w' => e = .returned (.bool false) ∧ w' = X
theorem UnM.bel {w w' : World} {p : Value} (h : UnM w p) (hb : Below w.heap.size w w') : UnM w' p := fun X hX => h X (below_trans' hb hX)
theorem unm_nil (w : World) : UnM w (.pointer none) := fun X _ => made_nil X
theorem unm_zero (w : World) (q : Nat) (hl : q < w.heap.size) (hc : w.cell? ⟨q, 2, none⟩ = some (.int .i64 0)) : UnM w (.pointer (some ⟨q, 0, none⟩)) := fun X hX => made_zero X q ((hX.cell (p := ⟨q, 2, none⟩) hl).trans hc)
section
set_option maxRecDepth 20000
set_option maxHeartbeats 4000000
theorem putN (w : World) (p : Value) (h : UnM w p) (key sticky : ByteArray) (ready : Int) :
    Calls Try.prog 10 #[p, .string key, .string sticky, .int .i64 ready] w fun e w' => e = .returned (.int .i64 1) ∧ Below w.heap.size w w' := by
  have HM := Lib.hid (h w (Below.refl _ _))
  clear h
  go_enter Try.func10, Try.ntmps10
  go_wp2_with (go_at_call 28; refine HM.out.mono ?_; rintro e w' ⟨rfl, rfl⟩)
  go_ret
  exact ⟨rfl, Below.refl _ _⟩
theorem lenN (w : World) (p : Value) (h : UnM w p) :
    Calls Try.prog 11 #[p] w fun e w' => e = .returned (.int .i64 0) ∧ w' = w := by
  have HM := Lib.hid (h w (Below.refl _ _))
  clear h
  go_enter Try.func11, Try.ntmps11
  go_wp2_with (go_at_call 28; refine HM.out.mono ?_; rintro e w' ⟨rfl, rfl⟩)
  go_ret
  exact ⟨rfl, rfl⟩
theorem dropN (w : World) (p : Value) (h : UnM w p) (key : ByteArray) :
    Calls Try.prog 24 #[p, .string key] w fun e w' => e = .returned (.bool false) ∧ Below w.heap.size w w' := by
  have HM := Lib.hid (h _ (Below.new w (.cells #[.string key] 9)))
  have HB := Lib.hid (Below.new w (.cells #[.string key] 9))
  clear h
  go_enter Try.func24, Try.ntmps24
  go_wp2_with (go_at_call 28; refine HM.out.mono ?_; rintro e w' ⟨rfl, rfl⟩)
  go_ret
  exact ⟨rfl, HB.out⟩
theorem beatN (w : World) (p : Value) (h : UnM w p) (k now lease : Int) :
    Calls Try.prog 16 #[p, .int .i64 k, .int .i64 now, .int .i64 lease] w fun e w' => e = .returned (.int .i64 1) ∧ Below w.heap.size w w' := by
  have HM := Lib.hid (h w (Below.refl _ _))
  clear h
  go_enter Try.func16, Try.ntmps16
  go_wp2_with (go_at_call 28; refine HM.out.mono ?_; rintro e w' ⟨rfl, rfl⟩)
  go_ret
  exact ⟨rfl, Below.refl _ _⟩
theorem twinN (w : World) (p : Value) (h : UnM w p) :
    Calls Try.prog 15 #[p] w fun e w' => e = .returned (.pointer none) ∧ Below w.heap.size w w' := by
  have HM := Lib.hid (h w (Below.refl _ _))
  clear h
  go_enter Try.func15, Try.ntmps15
  go_wp2_with (go_at_call 28; refine HM.out.mono ?_; rintro e w' ⟨rfl, rfl⟩)
  go_ret
  exact ⟨rfl, Below.refl _ _⟩
theorem pollN (w : World) (p : Option Addr) (h : UnM w (.pointer p)) (who : ByteArray) (now lease : Int) :
    Calls Try.prog 12 #[.pointer p, .string who, .int .i64 now, .int .i64 lease] w fun e w' => e = .returned (.tuple #[.string ⟨#[]⟩, .int .i64 0, .int .i64 0, .int .i64 1]) ∧ Below w.heap.size w w' := by
  have K0 := ((Blk.new w 24 [.pointer p]).alloc (.cells #[.string who] 9)).alloc (.cells #[.int .i64 now] 2)
  have HB := Lib.hid (Below.new3 w (.cells #[.pointer p] 24) (.cells #[.string who] 9) (.cells #[.int .i64 now] 2))
  have HM := Lib.hid (h _ HB.out)
  have u0 := K0.cell 0
  simp only [List.getElem?_cons_zero] at u0
  clear h K0
  go_enter Try.func12, Try.ntmps12
  go_upto_region 1 with (fail)
  generalize ((w.alloc (.cells #[.pointer p] 24)).alloc (.cells #[.string who] 9)).alloc (.cells #[.int .i64 now] 2) = X at *
  go_upto_region 2 with (go_at_call 28; refine HM.out.mono ?_; rintro e w' ⟨rfl, rfl⟩)
  go_wp2_with fail
  refine bodyPost_ret (results_tmp4 rfl _ _ _) rfl ?_
  exact ⟨rfl, HB.out⟩
theorem doneE (w : World) (p : Value) (k er : Int) (he : er ≠ 0) (hf : Calls Try.prog 35 #[p, .int .i64 k] w fun e w' => e = .returned (.tuple #[otV ot0, .int .i64 er]) ∧ Below w.heap.size w w') :
    Calls Try.prog 14 #[p, .int .i64 k] w fun e w' => e = .returned (.tuple #[.string ⟨#[]⟩, .int .i64 0, .int .i64 er]) ∧ Below w.heap.size w w' := by
  have HF := Lib.hid hf
  have hne : (er == 0) = false := beq_eq_false_iff_ne.2 he
  clear hf
  unfold otV ot0 at HF
  go_enter Try.func14, Try.ntmps14
  go_upto_region 5 with (go_at_call 35; refine HF.out.mono ?_; rintro e w1 ⟨rfl, hb1⟩; have HB1 := Lib.hid hb1; clear hb1)
  have KX := Blk.new w1 82 (otL ot0)
  have BX := Lib.hid (below_trans' HB1.out (Below.new w1 (.cells (otL ot0).toArray 82)))
  simp only [otL, ot0] at KX BX
  generalize w1.alloc (.cells #[.string ⟨#[]⟩, .string ⟨#[]⟩, .int .i64 0, .int .i64 0, .int .i64 0, .string ⟨#[]⟩, .int .i64 0] 82) = X at *
  have m0 := KX.cell 0
  have m3 := KX.cell 3
  simp only [List.getElem?_cons_succ, List.getElem?_cons_zero] at m0 m3
  go_quiet (fail)
  clear m0 m3
  go_wp2_with fail
  go_ret3
  exact ⟨rfl, below_drewN' BX.out _⟩
theorem backE (w : World) (p : Value) (k ready er : Int) (he : er ≠ 0) (hf : Calls Try.prog 35 #[p, .int .i64 k] w fun e w' => e = .returned (.tuple #[otV ot0, .int .i64 er]) ∧ Below w.heap.size w w') :
    Calls Try.prog 13 #[p, .int .i64 k, .int .i64 ready] w fun e w' => e = .returned (.tuple #[.string ⟨#[]⟩, .int .i64 0, .int .i64 er]) ∧ Below w.heap.size w w' := by
  have HF := Lib.hid hf
  have hne : (er == 0) = false := beq_eq_false_iff_ne.2 he
  clear hf
  unfold otV ot0 at HF
  go_enter Try.func13, Try.ntmps13
  go_upto_region 5 with (go_at_call 35; refine HF.out.mono ?_; rintro e w1 ⟨rfl, hb1⟩; have HB1 := Lib.hid hb1; clear hb1)
  have KX := Blk.new w1 82 (otL ot0)
  have BX := Lib.hid (below_trans' HB1.out (Below.new w1 (.cells (otL ot0).toArray 82)))
  simp only [otL, ot0] at KX BX
  generalize w1.alloc (.cells #[.string ⟨#[]⟩, .string ⟨#[]⟩, .int .i64 0, .int .i64 0, .int .i64 0, .string ⟨#[]⟩, .int .i64 0] 82) = X at *
  have m0 := KX.cell 0
  have m3 := KX.cell 3
  simp only [List.getElem?_cons_succ, List.getElem?_cons_zero] at m0 m3
  go_quiet (fail)
  clear m0 m3
  go_wp2_with fail
  go_ret3
  exact ⟨rfl, below_drewN' BX.out _⟩
theorem sortedN (w : World) (p : Value) (h : UnM w p) :
    Calls Try.prog 42 #[p] w fun e w' => e = .returned (.slice none 0 0) ∧ w' = w := by
  have HM := Lib.hid (h w (Below.refl _ _))
  clear h
  go_enter Try.func42, Try.ntmps42
  go_wp2_with (go_at_call 28; refine HM.out.mono ?_; rintro e w' ⟨rfl, rfl⟩)
  go_ret
  exact ⟨rfl, rfl⟩
theorem tellN (w : World) (p : Value) (h : UnM w p) (f : Fn) (b1 b2 : Array Value) :
    Calls Try.prog 39 #[p, .func f b1 b2] w fun e w' => e = .returned (.slice none 0 0) ∧ w' = w := by
  have HM := Lib.hid (sortedN w p h)
  clear h
  go_enter Try.func39, Try.ntmps39
  go_wp2_with (go_at_call 42; refine HM.out.mono ?_; rintro e w' ⟨rfl, rfl⟩)
  refine wp_loop_rounds 1 ?_
  rw [rounds_succ]
  go_wp2_with fail
  go_ret
  exact ⟨rfl, rfl⟩
theorem outsN (w : World) (p : Value) (h : UnM w p) :
    Calls Try.prog 18 #[p] w fun e w' => e = .returned (.slice none 0 0) ∧ w' = w := by
  have HM := Lib.hid (tellN w p h (.func 41) #[] #[])
  clear h
  go_enter Try.func18, Try.ntmps18
  go_wp2_with (go_at_call 39; refine HM.out.mono ?_; rintro e w' ⟨rfl, rfl⟩)
  go_ret
  exact ⟨rfl, rfl⟩
theorem expireN (w : World) (p : Value) (h : UnM w p) (now : Int) :
    Calls Try.prog 17 #[p, .int .i64 now] w fun e w' => e = .returned (.slice none 0 0) ∧ Below w.heap.size w w' := by
  have HB := Lib.hid (Below.new w (.cells #[.int .i64 now] 2))
  have HM := Lib.hid (tellN _ p (h.bel HB.out) (.func 40) #[] #[.pointer (some ⟨w.heap.size, 0, none⟩)])
  clear h
  go_enter Try.func17, Try.ntmps17
  go_wp2_with (go_at_call 39; refine HM.out.mono ?_; rintro e w' ⟨rfl, rfl⟩)
  go_ret
  exact ⟨rfl, HB.out⟩
theorem nextN (w : World) (p : Value) (h : UnM w p) :
    Calls Try.prog 23 #[p] w fun e w' => e = .returned (.tuple #[.int .i64 0, .bool false]) ∧ Below w.heap.size w w' := by
  have HM := Lib.hid (sortedN w p h)
  clear h
  go_enter Try.func23, Try.ntmps23
  go_wp2_with (go_at_call 42; refine HM.out.mono ?_; rintro e w' ⟨rfl, rfl⟩)
  refine wp_loop_rounds 1 ?_
  rw [rounds_succ]
  go_wp2_with fail
  go_ret2
  exact ⟨rfl, Below.refl _ _⟩
theorem waitsN (w : World) (p : Value) (h : UnM w p) :
    Calls Try.prog 25 #[p] w fun e w' => e = .returned (.slice none 0 0) ∧ Below w.heap.size w w' := by
  have HM := Lib.hid (lenN w p h)
  clear h
  go_enter Try.func25, Try.ntmps25
  go_wp2_with (go_at_call 11; refine HM.out.mono ?_; rintro e w' ⟨rfl, rfl⟩)
  refine wp_loop_rounds 1 ?_
  rw [rounds_succ]
  go_wp2_with fail
  go_ret
  exact ⟨rfl, Below.refl _ _⟩
theorem bytesN (w : World) (p : Value) (h : UnM w p) :
    Calls Try.prog 26 #[p] w fun e w' => e = .returned (.slice none 0 0) ∧ Below w.heap.size w w' := by
  have HM := Lib.hid (h w (Below.refl _ _))
  clear h
  go_enter Try.func26, Try.ntmps26
  go_wp2_with (go_at_call 28; refine HM.out.mono ?_; rintro e w' ⟨rfl, rfl⟩)
  go_ret
  exact ⟨rfl, Below.refl _ _⟩
end
end Go.Proofs.Ytpbheicfplpemaa
