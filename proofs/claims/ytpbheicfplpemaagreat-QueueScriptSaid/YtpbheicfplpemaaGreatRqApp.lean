/- The document's queue (prompterref22): a task put behind a row, in memory. -/
import Derived.Test.YtpbheicfplpemaaGreatRqMem
import Derived.Deep.RegionLaw
import Derived.Deep.AppendLies
namespace Go.Proofs.YtpbheicfplpemaaGreat
open Go.RowKit

section
variable {V U y1 : World} {r n : Nat} {most grace last : Int} {A0 : Option Addr} {c0 : Nat} {iv av : Value} {I Z : List Ot} {x : Ot} {ag cc : Nat}
theorem rq_idle (h : RQ V r most grace last (.slice A0 n c0) av I Z) (hn : I.length = n) (hu : Below V.heap.size V U) (hg : U.grownBy y1 (Value.slice A0 n c0).ownBlock)
    (ho : y1.ownsRow 0 64 7 (.slice (some ⟨ag, 0, none⟩) (n + 1) cc) (n + 1) (I.flatMap otC ++ otC x)) (hat : (Value.slice A0 n c0).ownBlock = some ag ∨ V.heap.size + 1 ≤ ag) (hf : n < 100000) :
    RQ (y1.setCell ⟨r, 3, none⟩ (.slice (some ⟨ag, 0, none⟩) (n + 1) cc)) r most grace last (.slice (some ⟨ag, 0, none⟩) (n + 1) cc) av (I ++ [x]) Z ∧
    Turns (RQSet r (.slice A0 n c0) av) V (y1.setCell ⟨r, 3, none⟩ (.slice (some ⟨ag, 0, none⟩) (n + 1) cc)) := by
  subst hn
  have hnr : (Value.slice A0 I.length c0).ownBlock ≠ some r := fun e => own_ne_blk h.idle e h.blk (by decide) rfl
  have T1 : Turns (fun i => (Value.slice A0 I.length c0).ownBlock = some i) V y1 := (Turns.of_below hu).then (Turns.of_grown hg (fun r e => e))
  have T2 : Turns (fun i => i = r) y1 (y1.setCell ⟨r, 3, none⟩ (.slice (some ⟨ag, 0, none⟩) (I.length + 1) cc)) := Turns.of_set (S := fun i => i = r) y1 ⟨r, 3, none⟩ _ rfl
  have hb := h.blk.turns T1 hnr
  have hb2 := hb.set 3 (.slice (some ⟨ag, 0, none⟩) (I.length + 1) cc)
  simp only [List.set_cons_succ, List.set_cons_zero] at hb2
  have hfl : I.flatMap otC ++ otC x = (I ++ [x]).flatMap otC := by rw [List.flatMap_append]; simp
  have hi := own_turns ho T2 (fun g hg e => own_ne_blk ho hg hb (by decide) e)
  rw [hfl] at hi
  have ha := own_turns (own_turns h.away T1 (fun g hg e => h.apart g e hg)) T2 (fun g hg e => own_ne_blk h.away hg h.blk (by decide) e)
  refine ⟨⟨hb2, by simpa using hi, ha, fun g hg => ?_, by simp; omega, h.few.2⟩, ?_⟩
  · simp [Value.ownBlock] at hg
    subst hg
    rcases hat with e | e
    · exact h.apart _ e
    · intro e2; have := (own_lt h.away e2).2; omega
  · exact (T1.mono (T := RQSet r (.slice A0 I.length c0) av) (fun i _ e => .inr (.inl e))).then (T2.mono (fun i _ e => .inl e))
theorem rq_away (h : RQ V r most grace last iv (.slice A0 n c0) I Z) (hn : Z.length = n) (hu : Below V.heap.size V U) (hg : U.grownBy y1 (Value.slice A0 n c0).ownBlock)
    (ho : y1.ownsRow 0 64 7 (.slice (some ⟨ag, 0, none⟩) (n + 1) cc) (n + 1) (Z.flatMap otC ++ otC x)) (hat : (Value.slice A0 n c0).ownBlock = some ag ∨ V.heap.size + 1 ≤ ag) (hf : n < 100000) :
    RQ (y1.setCell ⟨r, 4, none⟩ (.slice (some ⟨ag, 0, none⟩) (n + 1) cc)) r most grace last iv (.slice (some ⟨ag, 0, none⟩) (n + 1) cc) I (Z ++ [x]) ∧
    Turns (RQSet r iv (.slice A0 n c0)) V (y1.setCell ⟨r, 4, none⟩ (.slice (some ⟨ag, 0, none⟩) (n + 1) cc)) := by
  subst hn
  have hnr : (Value.slice A0 Z.length c0).ownBlock ≠ some r := fun e => own_ne_blk h.away e h.blk (by decide) rfl
  have T1 : Turns (fun i => (Value.slice A0 Z.length c0).ownBlock = some i) V y1 := (Turns.of_below hu).then (Turns.of_grown hg (fun r e => e))
  have T2 : Turns (fun i => i = r) y1 (y1.setCell ⟨r, 4, none⟩ (.slice (some ⟨ag, 0, none⟩) (Z.length + 1) cc)) := Turns.of_set (S := fun i => i = r) y1 ⟨r, 4, none⟩ _ rfl
  have hb := h.blk.turns T1 hnr
  have hb2 := hb.set 4 (.slice (some ⟨ag, 0, none⟩) (Z.length + 1) cc)
  simp only [List.set_cons_succ, List.set_cons_zero] at hb2
  have hfl : Z.flatMap otC ++ otC x = (Z ++ [x]).flatMap otC := by rw [List.flatMap_append]; simp
  have hi := own_turns ho T2 (fun g hg e => own_ne_blk ho hg hb (by decide) e)
  rw [hfl] at hi
  have ha := own_turns (own_turns h.idle T1 (fun g hg e => h.apart g hg e)) T2 (fun g hg e => own_ne_blk h.idle hg h.blk (by decide) e)
  refine ⟨⟨hb2, ha, by simpa using hi, fun g hg e => ?_, h.few.1, by simp; omega⟩, ?_⟩
  · simp [Value.ownBlock] at e
    subst e
    rcases hat with e | e
    · exact h.apart _ hg e
    · have := (own_lt h.idle hg).2; omega
  · exact (T1.mono (T := RQSet r iv (.slice A0 Z.length c0)) (fun i _ e => .inr (.inr e))).then (T2.mono (fun i _ e => .inl e))
end
end Go.Proofs.YtpbheicfplpemaaGreat
