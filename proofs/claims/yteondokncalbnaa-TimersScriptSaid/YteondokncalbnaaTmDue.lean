/- timers: Due. -/
import Derived.Test.YteondokncalbnaaTmDuePlain
import Derived.Deep.LoopGhost
namespace Go.Proofs.Yteondokncalbnaa
open Go.RowKit

theorem own_lo {w : World} {base e size n g : Nat} {v : Value} {xs : List Value} (h : w.ownsRow base e size v n xs) (hg : v.ownBlock = some g) : base ≤ g ∧ g < w.heap.size := by
  rcases h.2 with ⟨rfl, _⟩ | ⟨g', cap, cur, rfl, h3, h4, _⟩
  · simp [Value.ownBlock] at hg
  · simp [Value.ownBlock] at hg
    subst hg
    exact ⟨h3, (Array.getElem?_eq_some_iff.1 h4).1⟩

def DueY (w : World) (t p : Nat) (v : Value) (M A : Nat) (xs0 : List Th) (nx : Nat) (now : Int) (e : Ending) (w' : World) : Prop := ∃ lv, e = .returned lv ∧ ∃ ls xs v', DueP now xs0 ls xs ∧ (∀ b ∈ xs, now < b.key) ∧ w'.ownsRow w.heap.size 31 3 lv ls.length (ls.flatMap tmC) ∧ TabS w' t p v' M A xs nx ∧ v'.ownBlock = v.ownBlock ∧ Turns (TSet t p v M A) w w'

set_option maxRecDepth 20000 in
set_option maxHeartbeats 16000000 in
theorem dueTab (w : World) (t p : Nat) (v : Value) (M A : Nat) (xs0 : List Th) (nx : Nat) (now : Int) (h : TabS w t p v M A xs0 nx) :
    Calls Try.prog 11 #[.pointer (some ⟨t, 0, none⟩), .int .i64 now] w (DueY w t p v M A xs0 nx now) := by
  obtain ⟨i0, hi, hz0, hz1, hz2⟩ := info_parts info_tm
  have hlt := Lib.hid h.lts
  have HH := Lib.hid h
  have hlx := h.st.len
  have hfew := h.st.few
  have hl0 : xs0.length ≤ 1000000 := by omega
  clear h hlx hfew
  go_enter Try.func11, Try.ntmps11
  go_wp2_with fail
  refine (nextTab w t p v M A xs0 nx HH.out).mono ?_
  rintro e w1 ⟨rfl, hb⟩
  have H1 := Lib.hid (HH.out.bel hb)
  have T1 : Hid (Turns (TSet t p v M A) w w1) := Lib.hid (.of_below hb)
  clear hb
  go_wp2_with fail
  go_loopg [5, 6, 7, 8, 9, 10, 11] xs0.length (fun gh lv nv iv _ _ _ _ wq => ∃ (ls xs : List Th) (v' : Value), gh = xs.length ∧ nv = .int .i64 (nk xs) ∧ iv = .bool (isB xs) ∧ Hid (TabS wq t p v' M A xs nx) ∧ Hid (v'.ownBlock = v.ownBlock) ∧ Hid (wq.ownsRow w.heap.size 31 3 lv ls.length (ls.flatMap tmC)) ∧ Hid (DueP now xs0 ls xs) ∧ Hid (Turns (TSet t p v M A) w wq))
  case atStart => exact ⟨[], xs0, v, rfl, rfl, rfl, H1, Lib.hid rfl, Lib.hid (World.ownsRow_nil _ _ _ _), Lib.hid (DueP.start now xs0), T1⟩
  case round =>
    clear H1 T1
    obtain ⟨ls, xs, v', rfl, rfl, rfl, hS, hO, hR, hD, hT⟩ := hrel
    obtain ⟨A1, c1, rfl⟩ := own_slice' hR.out
    by_cases h0 : 0 < xs.length
    · rw [nk_pos h0, isB_pos h0]
      by_cases hle : (gT xs 0).key ≤ now
      · have hd : decide ((gT xs 0).key ≤ now) = true := decide_eq_true hle
        obtain ⟨m, hmp, hP⟩ := hS.out.at_
        obtain ⟨o, k, hv, _⟩ := hP.form _ (mem_gT h0)
        have hpop := pop1T wr p v' M xs nx hS.out.st h0
        have hnm : nmOf (gT xs 0) = (o, k) := by unfold nmOf; rw [hv]; rfl
        have htc : tmC (gT xs 0) = [.int .i64 (gT xs 0).key, .string o, .int .i64 k] := by unfold tmC; rw [hv]; rfl
        rw [hv] at hpop
        have c0 := hS.out.c0
        simp only [timV] at hpop
        have HPOP := Lib.hid hpop
        have HPP := Lib.hid hP
        have HMP := Lib.hid hmp
        have HNM := Lib.hid hnm
        have HTC := Lib.hid htc
        have HST : Hid (∀ zs, (gT xs 0 :: zs).Perm xs → DueP now xs0 (ls ++ [gT xs 0]) zs) := Lib.hid (fun zs hp => hD.out.step hS.out.st.heap h0 hp hle)
        clear hpop hP hmp hnm htc hv
        generalize gT xs 0 = x at *
        go_wp2_with fail
        refine HPOP.out.mono ?_
        rintro e w2 ⟨rfl, zs, v2, p2, s2, o2, t2⟩
        have W0 := Blk.new w2 31 [.int .i64 x.key, .string o, .int .i64 k]
        have hB2 := Below.new w2 (.cells #[.int .i64 x.key, .string o, .int .i64 k] 31)
        have hM2 := Lib.hid ((HMP.out.turns t2 hS.out.fa).below (hB2))
        have hb2 := Lib.hid ((hS.out.blk.turns t2 hS.out.ft).bel hB2)
        have P2 := Lib.hid p2
        have S2 := Lib.hid s2
        have O2 := Lib.hid o2
        have T2 := Lib.hid t2
        have D2 := Lib.hid (HST.out zs p2)
        have HB2 := Lib.hid hB2
        have hAx : A < w2.heap.size := (HMP.out.turns T2.out hS.out.fa).lt
        clear p2 s2 o2 t2 hB2
        go_wp2_with fail
        generalize w2.alloc (.cells #[.int .i64 x.key, .string o, .int .i64 k] 31) = W at *
        have a1 := W0.cell 1
        have a2 := W0.cell 2
        have b1 := hb2.out.cell 1
        simp only [List.getElem?_cons_succ, List.getElem?_cons_zero] at a1 a2 b1
        refine wp_tail 9 (by kernel_rfl) (by kernel_rfl) ?_
        simp only [List.take_succ_cons, List.take_zero, List.drop_succ_cons, List.drop_zero]
        repeat still_step
        refine wpStill_nil ?_
        refine wpl_delete (w := W.drew) rfl _ _ 37 70 rfl name_keys Try.underlying37 (hM2.out.below (below_drewN' (Below.refl _ _) 1)) (o, k) rfl rfl ?_
        intro w3 hm3 ht3
        have hm4 : MapIs kNm w3 A (fun k' => if k' = nmOf x then none else m k') (if (m (nmOf x)).isSome then xs.length - 1 else xs.length) := by rw [HNM.out]; exact hm3
        obtain ⟨hS3, hT3⟩ := hS.out.popped S2.out O2.out T2.out (below_trans' HB2.out (below_drewN' (Below.refl W.heap.size W) 1)) P2.out HPP.out hm4 ht3
        have hlo : ∀ i, TSet t p v2 M A i → i < w.heap.size := fun i hi => hlt.out i (hi.imp id (Or.imp id fun hs => (HS.own (O2.out.trans hO.out)).1 hs))
        have hlo' : ∀ i, TSet t p v' M A i → i < w.heap.size := fun i hi => hlt.out i (hi.imp id (Or.imp id fun hs => (HS.own hO.out).1 hs))
        have hr3 := own_turns hR.out hT3 (fun g hg hs => by have := (own_lo hR.out hg).1; have := hlo' g hs; omega)
        have k3 := (W0.drewN 1).turns (.of_map (S := fun i => i = A) ht3 rfl) (by omega)
        have a0 := k3.cell 0
        have a1' := k3.cell 1
        have a2' := k3.cell 2
        simp only [List.getElem?_cons_succ, List.getElem?_cons_zero] at a0 a1' a2'
        have hlen := D2.out.perm.length_eq
        rw [List.length_append, List.length_append, List.length_singleton] at hlen
        have hl1 : Hid (ls.length + 1 ≤ maxLen) := Lib.hid (by unfold maxLen; omega)
        have hl2 : Hid ((ls.length + 1) * 32 ≤ 140737488355328) := Lib.hid (by omega)
        have hws : w.heap.size ≤ w3.heap.size := Nat.le_trans hT.out.size hT3.size
        have HA := Lib.hid (hr3.alloc (.cells #[.int .i64 x.key, .string o, .int .i64 k] 31))
        have HN := Lib.hid (Blk.news (Blk.new w3 31 [.int .i64 x.key, .string o, .int .i64 k]))
        have HBS : Hid (w.heap.size ≤ (w3.alloc (.cells #[.int .i64 x.key, .string o, .int .i64 k] 31)).heap.size) := Lib.hid (by simp; omega)
        have HLO := Lib.hid hlo
        have H3 := Lib.hid hS3
        have HT3 := Lib.hid hT3
        have HLO' := Lib.hid hlo'
        clear hm3 ht3 hm4 hS3 hT3 hlo hlo' hr3 k3 hlen a1 a2 b1 W0 hM2 hb2 HB2
        go_wp2_with (at_builtin; refine wpList_append_own_at _ rfl _ _ 28 rfl w.heap.size 31 i0 _ 3 32 Try.underlying28 hi hz0 hz1 hz2 rfl (by decide) _ _ _ rfl HA.out ⟨w3.heap.size, 0, none⟩ 1 1 [.int .i64 x.key, .string o, .int .i64 k] rfl rfl HN.out (by intro u hu; simp at hu; rcases hu with rfl | rfl | rfl <;> rfl) hl1.out hl2.out HBS.out ?_; intro v1 w4 hown hgr _ _)
        have hg4 : Turns (fun i => w.heap.size ≤ i) (w3.alloc (.cells #[.int .i64 x.key, .string o, .int .i64 k] 31)) w4 := .of_grown hgr (fun r e => (own_lo HA.out e).1)
        have hS4 := (H3.out.bel (Below.new w3 (.cells #[.int .i64 x.key, .string o, .int .i64 k] 31))).keep hg4 (fun i hi hs => by have := HLO.out i hi; omega)
        have hT4 : Turns (TSet t p v M A) w w4 := ((hT.out.trans HT3.out (fun i _ hi => hi.imp id (Or.imp id fun hs => (HS.own hO.out).1 hs))).alloc (.cells #[.int .i64 x.key, .string o, .int .i64 k] 31)).trans hg4 (fun i hi hs => by omega)
        have H4 := Lib.hid hS4
        have HT4 := Lib.hid hT4
        have HR4 : Hid (w4.ownsRow w.heap.size 31 3 v1 (ls ++ [x]).length ((ls ++ [x]).flatMap tmC)) := Lib.hid (by
          rw [List.length_append, List.length_singleton, List.flatMap_append, show [x].flatMap tmC = tmC x from by simp, HTC.out]
          exact hown)
        clear hown hgr hg4 hS4 hT4
        refine (nextTab w4 t p v2 M A zs nx H4.out).mono ?_
        rintro e w5 ⟨rfl, hb5⟩
        have HB5 := Lib.hid hb5
        clear hb5
        have hlz := P2.out.length_eq
        rw [List.length_cons] at hlz
        have HLZ := Lib.hid hlz
        clear hlz
        go_wp2_with fail
        go_roundg zs.length
        case measure => have := HLZ.out; omega
        case rel => exact ⟨ls ++ [x], zs, v2, rfl, rfl, rfl, Lib.hid (H4.out.bel HB5.out), Lib.hid (O2.out.trans hO.out), Lib.hid (own_turns HR4.out (.of_below (S := fun _ => False) HB5.out) (fun _ _ => id)), D2, Lib.hid (HT4.out.then (.of_below HB5.out))⟩
      · have hd : decide ((gT xs 0).key ≤ now) = false := decide_eq_false hle
        have HL := Lib.hid hle
        clear hle
        go_wp2_with fail
        go_ret
        exact ⟨_, rfl, ls, xs, v', hD.out, later hS.out.st.heap (fun _ => by have := HL.out; omega), hR.out, hS.out, hO.out, hT.out⟩
    · obtain rfl : xs = [] := List.eq_nil_of_length_eq_zero (by omega)
      rw [isB_nil]
      go_wp2_with fail
      go_ret
      exact ⟨_, rfl, ls, [], v', hD.out, by simp, hR.out, hS.out, hO.out, hT.out⟩
end Go.Proofs.Yteondokncalbnaa
