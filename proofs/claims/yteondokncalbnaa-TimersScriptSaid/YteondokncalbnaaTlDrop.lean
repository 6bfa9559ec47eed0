/- timers: Drop. -/
import Derived.Test.YteondokncalbnaaTlMem
import Derived.Test.YteondokncalbnaaHpT8
namespace Go.Proofs.Yteondokncalbnaa
open Go.RowKit

def otherB (o : ByteArray) (k : Int) (x : Lt) : Bool := !(decide (x.2.1 = o) && decide (x.2.2 = k))
theorem otherB_no {o : ByteArray} {k : Int} {x : Lt} : otherB o k x = true ↔ ¬ (x.2.1 = o ∧ x.2.2 = k) := by
  unfold otherB
  by_cases h1 : x.2.1 = o <;> by_cases h2 : x.2.2 = k <;> simp [h1, h2]
def dropL (L : List Lt) (o : ByteArray) (k : Int) : List Lt := L.filter (otherB o k)
theorem dropL_no {L : List Lt} {o : ByteArray} {k : Int} (h : ¬ named L o k) : dropL L o k = L := by
  unfold dropL
  rw [List.filter_eq_self]
  intro x hx
  exact otherB_no.2 (fun e => h ⟨x, hx, e⟩)
def DropY (w : World) (t : Nat) (S : Nat → Prop) (L : List Lt) (N : Nat) (o : ByteArray) (k : Int) (e : Ending) (w' : World) : Prop :=
  ∃ b : Bool, e = .returned (.bool b) ∧ (b = true ↔ named L o k) ∧ ∃ S', TL w' t S' (dropL L o k) N ∧ Grows w S S' ∧ Turns S w w'
set_option maxRecDepth 20000 in
set_option maxHeartbeats 4000000 in
theorem drop_any (w : World) (t : Nat) (S : Nat → Prop) (L : List Lt) (N : Nat) (h : TL w t S L N) (o : ByteArray) (k : Int) :
    Calls Try.prog 15 #[.pointer (some ⟨t, 0, none⟩), .string o, .int .i64 k] w (DropY w t S L N o k) := by
  have HT := Lib.hid h
  obtain ⟨p, v, M, A, xs, nx, h1, h2, h3, h4⟩ := h.ex
  have hm := Lib.hid (made1 w t p h1.c0)
  obtain ⟨m, hmp, hP⟩ := h1.at_
  have W1 : Blk (w.alloc (.cells #[.string o, .int .i64 k] 70)) w.heap.size 70 [.string o, .int .i64 k] := Blk.new w 70 [.string o, .int .i64 k]
  have hB1 := Below.new w (.cells #[.string o, .int .i64 k] 70)
  have H1 := Lib.hid (h1.bel hB1)
  have M1 := Lib.hid (hmp.below hB1)
  have a0 := W1.cell 0
  have a1 := W1.cell 1
  simp only [List.getElem?_cons_succ, List.getElem?_cons_zero] at a0 a1
  have c0' := H1.out.c0
  have c1' := H1.out.c1
  have H4 := Lib.hid h4
  by_cases hnm : named L o k
  · obtain ⟨u, hu, eu⟩ := (h2.name o k).1 hnm
    have hno : m (o, k) = some (.int .i64 (u.num : Int)) := by rw [← eu]; exact hP.is u hu
    have HNO := Lib.hid hno
    have HNM := Lib.hid hnm
    have HPP := Lib.hid hP
    have H2 := Lib.hid h2
    have H3 := Lib.hid h3
    obtain ⟨j, hj, hju⟩ := List.mem_iff_getElem.1 hu
    have HJU : Hid (gT xs j = u) := Lib.hid (by rw [gT_of hj]; exact hju)
    have HEU := Lib.hid eu
    have HU := Lib.hid hu
    have H0 := Lib.hid h1
    clear h h1 h2 h3 hmp hP hno hnm h4 hju eu hu
    go_enter Try.func15, Try.ntmps15
    go_wp2_with (go_at_call 32; refine hm.out.mono ?_; rintro e w' ⟨rfl, rfl⟩)
    generalize w'.alloc (.cells #[.string o, .int .i64 k] 70) = W at *
    generalize hb : w'.heap.size = b at *
    have HBQ := Lib.hid hb
    have hlk : ∀ n, (Instr.lookup 37 (.map (some A)) (.agg #[.string o, .int .i64 k]) true).run Try.prog (W.drewN n) = .ok (.tuple #[.int .i64 (u.num : Int), .bool true]) (W.drewN n) := fun n => by
      have := MapIs.lookup (t := 37) (e := 3) (M1.out.below (below_drewN' (Below.refl W.heap.size W) n)) name_keys Try.underlying37 (zeroIntE _) (o, k) true
      rw [HNO.out] at this
      exact this
    clear hb
    go_quiet (fail)
    have M2 := Lib.hid (M1.out.below (below_drewN' (Below.refl W.heap.size W) nq))
    have H2' := Lib.hid (H1.out.bel (below_drewN' (Below.refl W.heap.size W) nq))
    have W2 := Lib.hid (W1.drewN nq)
    have hB2 : Hid (Below b w' (W.drewN nq)) := Lib.hid (below_drewN' hB1 nq)
    clear hlk W1 hB1 a0 a1 c0' c1' M1 H1
    generalize W.drewN nq = V at *
    have c0'' := H2'.out.c0
    have hbw : b < V.heap.size := W2.out.lt
    have hbS : ¬ HS p v M b := fun hi => by have := H0.out.st.lts b hi; have := HBQ.out; omega
    have HRm := Lib.hid (remove1T V p v M xs nx H2'.out.st (u.num : Int) j hj (by rw [HJU.out]))
    rw [HJU.out] at HRm
    go_upto_region 7 with (go_at_call 35; refine HRm.out.mono ?_; rintro e w2 ⟨rfl, zs, v', hz, hs, hv, ht⟩)
    have HZ := Lib.hid hz
    have HS2 := Lib.hid hs
    have HV := Lib.hid hv
    have HT2 := Lib.hid ht
    have M3 := Lib.hid (M2.out.turns ht H2'.out.fa)
    have B3 := Lib.hid (H2'.out.blk.turns ht H2'.out.ft)
    have N3 := Lib.hid (W2.out.turns ht hbS)
    clear hz hs hv ht c0''
    have n0 := N3.out.cell 0
    have n1 := N3.out.cell 1
    have t1 := B3.out.cell 1
    simp only [List.getElem?_cons_succ, List.getElem?_cons_zero] at n0 n1 t1
    refine wp_tail 5 (by kernel_rfl) (by kernel_rfl) ?_
    simp only [List.take_succ_cons, List.take_zero, List.drop_succ_cons, List.drop_zero]
    repeat still_step
    refine wpStill_nil ?_
    refine wpl_delete (w := w2.drew) rfl _ _ 37 70 rfl name_keys Try.underlying37 (M3.out.below (below_drewN' (Below.refl _ _) 1)) (o, k) rfl rfl ?_
    intro w3 hm3 ht3
    have hm4 : MapIs kNm w3 A (fun k' => if k' = nmOf u then none else m k') (if (m (nmOf u)).isSome then xs.length - 1 else xs.length) := by rw [HEU.out]; exact hm3
    obtain ⟨hS3, hT3⟩ := H2'.out.popped HS2.out HV.out HT2.out (below_drewN' (Below.refl w2.heap.size w2) 1) HZ.out HPP.out hm4 ht3
    have HS3 := Lib.hid hS3
    have HT3 := Lib.hid hT3
    clear hm3 ht3 hm4 hS3 hT3 n0 n1 t1
    go_wp2_with fail
    go_ret
    have hap := fun t ht => HPP.out.apart H0.out.st.apart HZ.out t ht
    have hsub := H2.out.sub (otherB o k) [u] (by simpa using HZ.out) (fun t ht => otherB_no.2 (fun e => hap t ht (by
      obtain ⟨o', k', e1, _⟩ := H2.out.key t (HZ.out.mem_iff.1 (List.mem_cons_of_mem _ ht))
      have e2 : nmOf t = (o', k') := by unfold nmOf; rw [e1]; rfl
      rw [tri_key e1] at e
      rw [e2, HEU.out]
      exact Prod.ext e.1 e.2))) (fun t ht => by
      simp at ht
      subst ht
      obtain ⟨o', k', e1, _⟩ := H2.out.key t HU.out
      have e2 : nmOf t = (o', k') := by unfold nmOf; rw [e1]; rfl
      rw [tri_key e1]
      have e3 := HEU.out
      rw [e2] at e3
      injection e3 with e4 e5
      subst e4 e5
      simp [otherB, lt])
    have hTw : Turns (TSet t p v M A) w' V := .of_below (by have := hB2.out; rwa [← HBQ.out] at this)
    refine ⟨true, rfl, by simp [HNM.out], TSet t p v' M A, ⟨⟨p, v', M, A, zs, nx, HS3.out, hsub, H3.out, fun _ => Iff.rfl⟩, Nat.le_trans (List.length_filter_le _ _) HT.out.lim⟩, fun i hi => .inl ((H4.out i).2 ?_), (hTw.then HT3.out).mono (fun i _ e => (H4.out i).2 e)⟩
    exact hi.imp id (Or.imp id (fun hs => (HS.own HV.out).1 hs))
  · have hno := hP.no (o, k) (fun u hu e => hnm ((h2.name o k).2 ⟨u, hu, e⟩))
    have HNO := Lib.hid hno
    have HNM := Lib.hid hnm
    clear h h1 h2 hmp hP hno hnm h4
    go_enter Try.func15, Try.ntmps15
    go_wp2_with (go_at_call 32; refine hm.out.mono ?_; rintro e w' ⟨rfl, rfl⟩)
    generalize w'.alloc (.cells #[.string o, .int .i64 k] 70) = W at *
    generalize hb : w'.heap.size = b at *
    have HBQ := Lib.hid hb
    have hlk : ∀ n, (Instr.lookup 37 (.map (some A)) (.agg #[.string o, .int .i64 k]) true).run Try.prog (W.drewN n) = .ok (.tuple #[.int .i64 0, .bool false]) (W.drewN n) := fun n => by
      have := MapIs.lookup (t := 37) (e := 3) (M1.out.below (below_drewN' (Below.refl W.heap.size W) n)) name_keys Try.underlying37 (zeroIntE _) (o, k) true
      rw [HNO.out] at this
      exact this
    clear hb
    go_quiet (fail)
    have hB2 : Hid (Below b w' (W.drewN nq)) := Lib.hid (below_drewN' hB1 nq)
    go_wp2_with fail
    go_ret
    have hb3 : Below w'.heap.size w' (W.drewN nq) := by rw [HBQ.out]; exact hB2.out
    refine ⟨false, rfl, by simp [HNM.out], S, ?_, fun i hi => .inl hi, .of_below hb3⟩
    rw [dropL_no HNM.out]
    exact HT.out.bel hb3
end Go.Proofs.Yteondokncalbnaa
