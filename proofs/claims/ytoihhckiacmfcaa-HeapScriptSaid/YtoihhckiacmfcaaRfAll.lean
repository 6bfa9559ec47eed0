/- The document's heap in memory: All. -/
import Derived.Test.YtoihhckiacmfcaaRfRem
import Derived.Deep.LoopGhost
namespace Go.Proofs.Ytoihhckiacmfcaa
open Go.RowKit

def ordR (a b : Tri) : Prop := a.1 < b.1 ∨ a.1 = b.1 ∧ a.2.1 ≤ b.2.1
/-- what was taken of rs, in order; cs is left -/
structure AllP (rs ls cs : List Tri) (nx : Nat) : Prop where
  perm : (ls ++ cs).Perm rs
  srt : ls.Pairwise ordR
  low : ∀ a ∈ ls, ∀ b ∈ cs, ordR a b
  ris : Ris cs nx
theorem AllP.start {rs : List Tri} {nx : Nat} (h : Ris rs nx) : AllP rs [] rs nx := ⟨.refl _, List.Pairwise.nil, by simp, h⟩
theorem AllP.step {rs ls cs : List Tri} {nx q : Nat} (h : AllP rs ls cs nx) (hl : Least cs q) : AllP rs (ls ++ [gR cs q]) (cs.eraseIdx q) nx := by
  have hp := cons_erase hl.1
  rw [← gR_of hl.1] at hp
  have hs : ∀ b ∈ cs.eraseIdx q, b ∈ cs := fun b hb => (List.eraseIdx_sublist cs q).subset hb
  refine ⟨?_, ?_, ?_, h.ris.sub (List.eraseIdx_sublist _ _)⟩
  · rw [List.append_assoc]
    exact (hp.append_left ls).trans h.perm
  · rw [List.pairwise_append]
    refine ⟨h.srt, by simp, fun a ha b hb => ?_⟩
    simp at hb
    subst hb
    exact h.low a ha _ (gR_mem hl.1)
  · intro a ha b hb
    rcases List.mem_append.1 ha with ha | ha
    · exact h.low a ha b (hs b hb)
    · simp at ha
      subst ha
      exact hl.2 b (hs b hb)
theorem AllP.asc {rs ls : List Tri} {nx : Nat} (h : AllP rs ls [] nx) : ls.Perm rs ∧ Asc ls := by
  refine ⟨by have := h.perm; rwa [List.append_nil] at this, ?_⟩
  unfold Asc
  refine h.srt.imp ?_
  intro a b hab
  unfold ordR at hab
  omega
theorem AllP.len {rs ls cs : List Tri} {nx : Nat} (h : AllP rs ls cs nx) : ls.length + cs.length = rs.length := by have := h.perm.length_eq; simpa using this
def RallY (w : World) (rs : List Tri) (e : Ending) (w' : World) : Prop :=
  ∃ lv ls, e = .returned lv ∧ (ls.Perm rs ∧ Asc ls) ∧ w'.ownsRow w.heap.size 48 3 lv ls.length (ls.flatMap triC) ∧ Below w.heap.size w w'
set_option maxRecDepth 20000 in
set_option maxHeartbeats 8000000 in
theorem rall (w : World) (r : Nat) (rv : Value) (rs : List Tri) (nx : Nat) (h : RS w r rv rs nx) (hr : Ris rs nx) :
    Calls Try.prog 39 #[.pointer (some ⟨r, 0, none⟩)] w (RallY w rs) := by
  obtain ⟨i0, hi0, hz0, hz1, hz2⟩ := info_parts info_rf
  have HF := Lib.hid (rcopy w r rv rs nx h)
  have hf := h.few
  clear h
  go_enter Try.func39, Try.ntmps39
  go_wp2_with fail
  refine HF.out.mono ?_
  rintro e w1 ⟨c, cv, rfl, hS, hlo, hb⟩
  have HS := Lib.hid hS
  have HL := Lib.hid hlo
  have HB := Lib.hid hb
  clear hS hlo hb
  go_wp2_with fail
  go_loopg [4, 5, 6] rs.length (fun gh lv _ _ wq => ∃ (ls cs : List Tri) (cv : Value), gh = cs.length ∧ Hid (RS wq c cv cs nx) ∧ Hid (∀ i, RSet c cv i → w.heap.size ≤ i) ∧ Hid (wq.ownsRow w.heap.size 48 3 lv ls.length (ls.flatMap triC)) ∧ Hid (∀ g, lv.ownBlock = some g → ¬ RSet c cv g) ∧ Hid (AllP rs ls cs nx) ∧ Hid (Below w.heap.size w wq))
  case atStart => exact ⟨[], rs, cv, rfl, HS, HL, Lib.hid (World.ownsRow_nil _ _ _ _), Lib.hid (fun g hg => by simp [Value.ownBlock] at hg), Lib.hid (AllP.start hr), HB⟩
  case round =>
    clear HS HL HB
    obtain ⟨ls, cs, cv, rfl, hS, hL, hR, hD, hA, hB⟩ := hrel
    have q0 := hS.out.c0
    obtain ⟨Al, cl, rfl⟩ := own_slice' hR.out
    by_cases h0 : 0 < cs.length
    · have h0I : (0 : Int) < (cs.length : Int) := by omega
      obtain ⟨g, cap, rfl, _, hg, hnc, hcm⟩ := own_at hS.out.row h0
      have HP := Lib.hid (rpop1 wr c _ cs nx hS.out hA.out.ris h0)
      have hlts := Lib.hid hS.out.lts
      go_wp2_with fail
      refine HP.out.mono ?_
      rintro e w2 ⟨q, hq, rfl, cv2, s2, n2, t2⟩
      have hlr := hA.out.len
      have A2 := Lib.hid (hA.out.step hq)
      have S2 := Lib.hid s2
      have L2 := Lib.hid (n2.lo hL.out hB.out.size)
      have B2 := Lib.hid (hB.out.trans (t2.below hB.out.size (fun i _ e => by have := hL.out c (.inl rfl); omega)))
      have R2 := Lib.hid (own_turns hR.out t2 (fun g hg e => hD.out g hg (.inl e)))
      have D2 : Hid (∀ g, (Value.slice Al ls.length cl).ownBlock = some g → ¬ RSet c cv2 g) := Lib.hid (fun g hg hs => by
        rcases hs with e | e
        · exact hD.out g hg (.inl e)
        · rcases n2 g e with e2 | e2
          · exact hD.out g hg (.inr e2)
          · have := (own_lt hR.out hg).2; omega)
      have HLZ : Hid ((cs.eraseIdx q).length + 1 = cs.length) := Lib.hid (by rw [List.length_eraseIdx_of_lt hq.1]; omega)
      unfold agR
      clear s2 n2 t2 hS hL hR hD hB HP hq
      have hb3 := Below.new2 w2 (.cells #[.int .i64 (gR cs q).1, .int .i64 (gR cs q).2.1, .int .i64 (gR cs q).2.2] 48) (.cells #[.int .i64 (gR cs q).1, .int .i64 (gR cs q).2.1, .int .i64 (gR cs q).2.2] 48)
      have S3 := Lib.hid (S2.out.bel hb3)
      have R3 := Lib.hid (own_turns R2.out (.of_below (S := fun _ => False) hb3) (fun _ _ => id))
      have B3 := Lib.hid (B2.out.trans (hb3.mono B2.out.size))
      have HN := Lib.hid (Blk.news (Blk.new2 w2 (.cells #[.int .i64 (gR cs q).1, .int .i64 (gR cs q).2.1, .int .i64 (gR cs q).2.2] 48) 48 [.int .i64 (gR cs q).1, .int .i64 (gR cs q).2.1, .int .i64 (gR cs q).2.2]))
      have HSL := Lib.hid S2.out.lts
      have hl1 : Hid (ls.length + 1 ≤ maxLen) := Lib.hid (by unfold maxLen; omega)
      have hl2 : Hid ((ls.length + 1) * 24 ≤ 140737488355328) := Lib.hid (by omega)
      have hbs : Hid (w.heap.size ≤ ((w2.alloc (.cells #[.int .i64 (gR cs q).1, .int .i64 (gR cs q).2.1, .int .i64 (gR cs q).2.2] 48)).alloc (.cells #[.int .i64 (gR cs q).1, .int .i64 (gR cs q).2.1, .int .i64 (gR cs q).2.2] 48)).heap.size) := Lib.hid B3.out.size
      have HF3 : Hid ((ls ++ [gR cs q]).flatMap triC = ls.flatMap triC ++ [.int .i64 (gR cs q).1, .int .i64 (gR cs q).2.1, .int .i64 (gR cs q).2.2]) := Lib.hid (by rw [List.flatMap_append]; simp [triC])
      clear hb3 hlr
      go_wp2_with (at_builtin; refine wpList_append_own_at _ rfl _ _ 41 rfl w.heap.size 48 i0 _ 3 24 Try.underlying41 hi0 hz0 hz1 hz2 rfl (by decide) _ _ _ rfl R3.out ⟨w2.heap.size + 1, 0, none⟩ 1 1 [.int .i64 (gR cs q).1, .int .i64 (gR cs q).2.1, .int .i64 (gR cs q).2.2] rfl rfl HN.out (by intro u hu; simp at hu; rcases hu with rfl | rfl | rfl <;> rfl) hl1.out hl2.out hbs.out ?_; intro v1 y1 hown1 hgr1 _ hat1)
      go_roundg (cs.eraseIdx q).length
      case measure => have := HLZ.out; omega
      case rel =>
        refine ⟨ls ++ [gR cs q], cs.eraseIdx q, cv2, rfl, ?_, L2, ?_, ?_, A2, ?_⟩
        · exact Lib.hid (S3.out.keep (.of_grown (S := fun i => (Value.slice Al ls.length cl).ownBlock = some i) hgr1 (fun r e => e)) (fun i hi e => D2.out i e hi))
        · exact Lib.hid (by rw [List.length_append, List.length_singleton, HF3.out]; exact hown1)
        · refine Lib.hid (fun g' hg' hs => ?_)
          rcases hat1 with e | e
          · have e' : v1.ownBlock = (Value.slice Al ls.length cl).ownBlock := e
            exact D2.out g' (by rw [← e']; exact hg') hs
          · rw [e] at hg'
            injection hg' with hg'
            have := HSL.out g' hs
            simp at hg'
            omega
        · exact Lib.hid (B3.out.grown hgr1 B3.out.size (fun r e => (own_lt R3.out e).1))
    · have h0I : ¬ (0 : Int) < (cs.length : Int) := by omega
      obtain rfl : cs = [] := List.eq_nil_of_length_eq_zero (by omega)
      obtain rfl := hS.out.nil rfl
      go_wp2_with fail
      go_ret
      exact ⟨_, ls, rfl, hA.out.asc, hR.out, hB.out⟩
end Go.Proofs.Ytoihhckiacmfcaa
