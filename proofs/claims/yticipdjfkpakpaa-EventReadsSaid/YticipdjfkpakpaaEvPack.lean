/- event.Pack of events that may be: their bytes. -/
import Derived.Test.YticipdjfkpakpaaEvBytes
namespace Go.Proofs.Yticipdjfkpakpaa
open Go.RowKit
attribute [local go_sem] run_store_cx'

/-- a list of events in memory: each event's cells, each value's nodes -/
def EvAt (W : World) (g k : Nat) (x : Ev) : Prop := ∃ A cap, VIn W A x.val.length x.val ∧
  ∀ j, j < 5 → W.cell? ⟨g, k * 5 + j, none⟩ = ([.int .u8 (x.kind : Int), .int .i64 (x.id : Int), .string ⟨x.name.toArray⟩, .slice A x.val.length cap, .int .i64 x.int] : List Value)[j]?
def EvRow (W : World) (g : Nat) (es : List Ev) : Prop := ∀ k (h : k < es.length), EvAt W g k es[k]
theorem EvRow.below {W W' : World} {g : Nat} {es : List Ev} (h : EvRow W g es) (hb : Below W.heap.size W W') (hg : g < W.heap.size) : EvRow W' g es := fun k hk => by
  obtain ⟨A, cap, h1, h2⟩ := h k hk
  exact ⟨A, cap, h1.below hb, fun j hj => (hb.cell (p := ⟨g, k * 5 + j, none⟩) hg).trans (h2 j hj)⟩
def packB (es : List Ev) : List UInt8 := Cd.uB es.length ++ es.flatMap evB

set_option maxRecDepth 20000 in
set_option maxHeartbeats 4000000 in
theorem evPack_any (w : World) (g cap : Nat) (es : List Ev) (hn : es.length ≤ 4096) (hr : ∀ x ∈ es, EvRaw x ∧ evOk x = true) (hlen : (packB es).length ≤ 100000000) (hg : g < w.heap.size) (hI : EvRow w g es) :
    Calls Try.prog 15 #[.slice (some ⟨g, 0, none⟩) es.length cap] w (MadeV w (packB es)) := by
  obtain ⟨i0, hi, hz0, hz1, hz2⟩ := info_parts info_u8
  have HE := Lib.hid hr
  have HI := Lib.hid hI
  have HL := Lib.hid hlen
  have hn1 : ¬ (4096 : Int) < (es.length : Int) := by omega
  clear hr hI hlen
  go_enter Try.func15, Try.ntmps15
  go_wp2_with fail
  refine (putUint_any _ es.length (by omega)).mono ?_
  rintro e w1 ⟨v0, rfl, ho, B0⟩
  go_wp2_with fail
  go_loopw [4, 18] (fun b i wr => ∃ (k : Nat), k ≤ es.length ∧ i = .int .i64 (k : Int) ∧ wr.ownsRow w.heap.size 5 1 b (Cd.uB es.length ++ (es.take k).flatMap evB).length (Cd.bytesV (Cd.uB es.length ++ (es.take k).flatMap evB)) ∧ Below w.heap.size w wr) (fun _ i _ => es.length - (intOf i).toNat)
  case atStart => exact ⟨0, by omega, rfl, by simpa using ho, B0⟩
  case round =>
    obtain ⟨k, hk, rfl, ho, hB⟩ := hrel
    by_cases hlt : k < es.length
    · have hlt1 : (k : Int) < (es.length : Int) := by omega
      obtain ⟨hx, hok⟩ := HE.out _ (List.getElem_mem hlt)
      have hsn : Cd.uB es.length ++ (es.take (k + 1)).flatMap evB = (Cd.uB es.length ++ (es.take k).flatMap evB) ++ evB es[k] := by rw [List.take_succ_eq_append_getElem hlt, List.flatMap_append, ← List.append_assoc]; simp only [List.flatMap_cons, List.flatMap_nil, List.append_nil]
      have hle : ((Cd.uB es.length ++ (es.take k).flatMap evB) ++ evB es[k]).length ≤ 100000000 := by
        rw [← hsn]
        refine Nat.le_trans ?_ HL.out
        unfold packB
        have : es.flatMap evB = (es.take (k + 1)).flatMap evB ++ (es.drop (k + 1)).flatMap evB := by rw [← List.flatMap_append, List.take_append_drop]
        rw [this]
        simp only [List.length_append]
        omega
      obtain ⟨A, c, hV, hC⟩ := HI.out k hlt
      have hcx : ∀ j, j < 5 → wr.cell? ⟨g, k * 5 + j, none⟩ = _ := fun j hj => (hB.cell (p := ⟨g, k * 5 + j, none⟩) hg).trans (hC j hj)
      have c0 := hcx 0 (by omega)
      have c1 := hcx 1 (by omega)
      have c2 := hcx 2 (by omega)
      have c3 := hcx 3 (by omega)
      have c4 := hcx 4 (by omega)
      rw [Nat.add_zero] at c0
      simp only [List.getElem?_cons_succ, List.getElem?_cons_zero] at c0 c1 c2 c3 c4
      have HS := Lib.hid hsn
      have HX := Lib.hid hx
      have HK := Lib.hid hok
      have HLe := Lib.hid hle
      have HV := Lib.hid (hV.below hB)
      have HO := Lib.hid ho
      clear hcx hsn hx hok hle hV hC ho
      generalize hxe : es[k] = x at *
      generalize (Cd.uB es.length ++ (es.take k).flatMap evB) = acc at *
      go_wp2_with fail
      refine (evBytes_any x HX.out HK.out A x.val.length c _ (HV.out.below ((Below.refl _ _).alloc (Nat.le_refl _) _))).mono ?_
      rintro e w2 hm
      obtain ⟨Aq, cq, rfl, iq, Bq⟩ := hm.bs
      have hB2 : Below wr.heap.size wr w2 := ((Below.refl wr.heap.size wr).alloc (Nat.le_refl _) _).trans (Bq.mono (by simp))
      have ho2 := Lib.hid (own_below HO.out hB2)
      have hBB := hB.trans (hB2.mono hB.size)
      obtain ⟨ad, rfl, hn⟩ := in_cells iq (by simp [evB])
      have hM1 : acc.length + (evB x).length ≤ maxLen := by have := HLe.out; simp only [List.length_append] at this; unfold maxLen; omega
      have hM2 : (acc.length + (evB x).length) * 1 ≤ 140737488355328 := by have := HLe.out; simp only [List.length_append] at this; omega
      have HM1 := Lib.hid hM1
      have HM2 := Lib.hid hM2
      have HNW := Lib.hid hn
      have HBB := Lib.hid hBB
      clear hm iq Bq hn hM1 hM2 c0 c1 c2 c3 c4 hB2 hBB
      go_wp2_with (at_builtin; refine wpList_append_own_at _ rfl _ _ 22 rfl w.heap.size 5 i0 (.int .u8 0) 1 1 Try.underlying22 hi hz0 hz1 hz2 rfl (by decide) _ _ _ rfl ho2.out ad _ _ (Cd.bytesV (evB x)) rfl (bytesV_len _) HNW.out (bytes_one _) HM1.out HM2.out HBB.out.size ?_; intro v1 y1 hown hgr _ _)
      go_roundw
      case rel => exact ⟨k + 1, by omega, by go_num, by rw [HS.out, List.length_append, Cd.bytesV_append]; exact hown, HBB.out.trans (below_grown ho2.out HBB.out.size hgr)⟩
      case measure => simp [intOf]; omega
    · obtain rfl : k = es.length := by omega
      have hlt1 : ¬ (es.length : Int) < (es.length : Int) := by omega
      rw [List.take_length] at ho
      have HO := Lib.hid ho
      clear ho
      go_wp2_with fail
      go_ret2
      exact ⟨_, rfl, HO.out, hB⟩
end Go.Proofs.Yticipdjfkpakpaa
