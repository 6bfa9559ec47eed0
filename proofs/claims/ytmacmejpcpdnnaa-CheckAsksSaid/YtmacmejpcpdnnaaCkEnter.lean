/- check: a variable is made: the closure 'enter' of check.Slots. -/
import Derived.Test.YtmacmejpcpdnnaaCkSlEnv
namespace Go.Proofs.Ytmacmejpcpdnnaa
open Go.RowKit

theorem zeroInt (w : World) : (zeroValue 3).run Try.prog w = .ok (.int .i64 0) w := by kernel_rfl
theorem info_int : (Try.prog.info? 3).map (fun i => (i.zero, i.size, i.bytes)) = some (some (.int .i64 0), 1, 8) := by kernel_rfl
theorem Next.of_size {w w' : World} {v v' : Value} (h : Next w' v v') (hs : w.heap.size ≤ w'.heap.size) : Next w v v' := by
  rcases h with h | ⟨g, h, hg⟩
  · exact .inl h
  · exact .inr ⟨g, h, by omega⟩
/-- what is wrong with a new variable -/
def enterF (s : Sl) (name : ByteArray) : Nat := if (s.seen name).isSome then 111 else if s.made = 100 then 2 else 0
set_option maxRecDepth 20000 in
set_option maxHeartbeats 1600000 in
theorem enter_any (w : World) (K : SK) (t : List Tw) (v : Value) (s : Sl) (name : ByteArray) (h : SEnv w K t v s 0) (hm : s.made ≤ 100) (ho : s.out.length ≤ 2048) :
    Calls Try.prog 24 (#[.string name] ++ K.ecaps) w fun e w' => e = .returned (.tuple #[]) ∧ ∃ v', SEnv w' K t v' ⟨s.at_, s.made + 1, s.seen, s.out ++ [(s.made : Int)]⟩ (enterF s name) ∧ Turns (K.S v) w w' ∧ Next w v v' := by
  obtain ⟨i0, hi, hz0, hz1, hz2⟩ := info_parts info_int
  obtain ⟨A0, c0, rfl⟩ := own_slice' h.row
  obtain ⟨km, hmap⟩ := h.map
  have HM := Lib.hid hmap
  have HE := Lib.hid h
  have cs := h.bs.cell 0
  have cf := h.bf.cell 0
  have ff := h.bf.fz 0
  have cm := h.bm.cell 0
  have co := h.bo.cell 0
  simp only [List.getElem?_cons_zero] at cs cf cm co
  have hl1 : Hid (s.out.length + 1 ≤ maxLen) := Lib.hid (by unfold maxLen; omega)
  have hl2 : Hid ((s.out.length + 1) * 8 ≤ 140737488355328) := Lib.hid (by omega)
  have hmI : (s.made : Int) ≤ 100 := by omega
  cases hs : s.seen name with
  | some z =>
    have E : enterF s name = 111 := by unfold enterF; rw [hs]; rfl
    have HF : SEnv (w.setCell ⟨K.Bf, 0, none⟩ (.int .i64 111)) K t (.slice A0 s.out.length c0) s 111 := (h.setFault 111)
    have HA := Lib.hid (HF.past (Below.new _ (.cells #[.int .i64 (s.made : Int)] 3)))
    have HR := Lib.hid HA.out.row
    have hnw := (Blk.new (w.setCell ⟨K.Bf, 0, none⟩ (.int .i64 111)) 3 [.int .i64 (s.made : Int)]).news
    rw [show (w.setCell ⟨K.Bf, 0, none⟩ (.int .i64 111)).heap.size = w.heap.size from by simp [World.setCell]] at hnw
    have cm1 := HF.bm.cell 0
    have co1 := HF.bo.cell 0
    simp only [List.getElem?_cons_zero] at cm1 co1
    have HNW := Lib.hid hnw
    have HBS : Hid (K.B ≤ (World.alloc (w.setCell ⟨K.Bf, 0, none⟩ (.int .i64 111)) (.cells #[.int .i64 (s.made : Int)] 3)).heap.size) := Lib.hid (by have := h.lo.1; have := h.bn.lt; simp [World.setCell]; omega)
    have HT0 : Hid (Turns (K.S (.slice A0 s.out.length c0)) w (World.alloc (w.setCell ⟨K.Bf, 0, none⟩ (.int .i64 111)) (.cells #[.int .i64 (s.made : Int)] 3))) := Lib.hid ((Turns.of_set w _ _ (.inr (.inr (.inl rfl)))).alloc _)
    rw [E]
    have HS := Lib.hid hs
    clear h hmap hs E HF hnw
    unfold SK.ecaps
    simp only [List.push_toArray, Array.append_singleton, List.append_toArray] at *
    go_enter Try.func24, Try.ntmps24
    go_wp2_with (first | (at_lookup; refine wpl_lookup _ rfl _ _ 45 true rfl (str_keys Try.underlying9) Try.underlying45 HM.out name (.int .i64 0) (zeroInt _) rfl rfl ?_; rw [HS.out]) | (at_builtin; refine wpList_append_own_at _ rfl _ _ 25 rfl K.B 3 i0 _ 1 8 Try.underlying25 hi hz0 hz1 hz2 rfl (by decide) _ _ _ rfl HR.out ⟨w.heap.size, 0, none⟩ 1 1 [.int .i64 (s.made : Int)] rfl rfl HNW.out (by intro u hu; simp at hu; subst hu; rfl) hl1.out hl2.out HBS.out ?_; intro v1 y1 hown1 hgr1 _ hat1; obtain ⟨A1, cc1, rfl⟩ := own_slice' hown1; have bo1 := HA.out.bo.turns (.of_grown (S := fun i => (Value.slice A0 s.out.length c0).ownBlock = some i) hgr1 (fun r e => e)) (fun e => own_ne_blk HA.out.row e HA.out.bo (by decide) rfl); have c1 := bo1.cell 0; have f1 := bo1.fz 0; have HT := Lib.hid (HA.out.told (s.made : Int) hown1 hgr1 hat1); have c2 := HT.out.1.bm.cell 0; have f2 := HT.out.1.bm.fz 0; simp only [List.getElem?_cons_zero] at c1 c2; clear hown1 hgr1 hat1 bo1))
    go_end0
    exact ⟨rfl, _, HT.out.1.setMade (s.made + 1), (HT0.out.trans HT.out.2.1 (fun _ _ e => e)).trans (.of_set _ ⟨K.Bm, 0, none⟩ _ (.inr (.inl rfl))) (fun i hi e => SK.next (Next.of_size HT.out.2.2 HT0.out.size) hi e), Next.of_size HT.out.2.2 HT0.out.size⟩
  | none =>
    by_cases hk : s.made = 100
    · have E : enterF s name = 2 := by unfold enterF; rw [hs, if_neg (by simp), if_pos hk]
      have HF : SEnv (w.setCell ⟨K.Bf, 0, none⟩ (.int .i64 2)) K t (.slice A0 s.out.length c0) s 2 := (h.setFault 2)
      have HA := Lib.hid (HF.past (Below.new _ (.cells #[.int .i64 (s.made : Int)] 3)))
      have HR := Lib.hid HA.out.row
      have hnw := (Blk.new (w.setCell ⟨K.Bf, 0, none⟩ (.int .i64 2)) 3 [.int .i64 (s.made : Int)]).news
      rw [show (w.setCell ⟨K.Bf, 0, none⟩ (.int .i64 2)).heap.size = w.heap.size from by simp [World.setCell]] at hnw
      have cm1 := HF.bm.cell 0
      have co1 := HF.bo.cell 0
      simp only [List.getElem?_cons_zero] at cm1 co1
      have HNW := Lib.hid hnw
      have HBS : Hid (K.B ≤ (World.alloc (w.setCell ⟨K.Bf, 0, none⟩ (.int .i64 2)) (.cells #[.int .i64 (s.made : Int)] 3)).heap.size) := Lib.hid (by have := h.lo.1; have := h.bn.lt; simp [World.setCell]; omega)
      have HT0 : Hid (Turns (K.S (.slice A0 s.out.length c0)) w (World.alloc (w.setCell ⟨K.Bf, 0, none⟩ (.int .i64 2)) (.cells #[.int .i64 (s.made : Int)] 3))) := Lib.hid ((Turns.of_set w _ _ (.inr (.inr (.inl rfl)))).alloc _)
      rw [E]
      have HS := Lib.hid hs
      have HK : Hid (s.made = 100) := Lib.hid hk
      clear hk
      clear h hmap hs E HF hnw
      unfold SK.ecaps
      simp only [List.push_toArray, Array.append_singleton, List.append_toArray] at *
      go_enter Try.func24, Try.ntmps24
      go_wp2_with (first | (at_lookup; refine wpl_lookup _ rfl _ _ 45 true rfl (str_keys Try.underlying9) Try.underlying45 HM.out name (.int .i64 0) (zeroInt _) rfl rfl ?_; rw [HS.out]) | (at_builtin; refine wpList_append_own_at _ rfl _ _ 25 rfl K.B 3 i0 _ 1 8 Try.underlying25 hi hz0 hz1 hz2 rfl (by decide) _ _ _ rfl HR.out ⟨w.heap.size, 0, none⟩ 1 1 [.int .i64 (s.made : Int)] rfl rfl HNW.out (by intro u hu; simp at hu; subst hu; rfl) hl1.out hl2.out HBS.out ?_; intro v1 y1 hown1 hgr1 _ hat1; obtain ⟨A1, cc1, rfl⟩ := own_slice' hown1; have bo1 := HA.out.bo.turns (.of_grown (S := fun i => (Value.slice A0 s.out.length c0).ownBlock = some i) hgr1 (fun r e => e)) (fun e => own_ne_blk HA.out.row e HA.out.bo (by decide) rfl); have c1 := bo1.cell 0; have f1 := bo1.fz 0; have HT := Lib.hid (HA.out.told (s.made : Int) hown1 hgr1 hat1); have c2 := HT.out.1.bm.cell 0; have f2 := HT.out.1.bm.fz 0; simp only [List.getElem?_cons_zero] at c1 c2; clear hown1 hgr1 hat1 bo1))
      all_goals first
        | exact Bool.noConfusion ((show ((s.made : Int) == 100) = true by rw [HK.out]; rfl).symm.trans ‹((s.made : Int) == 100) = false›)
        | (go_end0; exact ⟨rfl, _, HT.out.1.setMade (s.made + 1), (HT0.out.trans HT.out.2.1 (fun _ _ e => e)).trans (.of_set _ ⟨K.Bm, 0, none⟩ _ (.inr (.inl rfl))) (fun i hi e => SK.next (Next.of_size HT.out.2.2 HT0.out.size) hi e), Next.of_size HT.out.2.2 HT0.out.size⟩)
    · have E : enterF s name = 0 := by unfold enterF; rw [hs, if_neg (by simp), if_neg hk]
      have HF : SEnv w K t (.slice A0 s.out.length c0) s 0 := h
      have HA := Lib.hid (HF.past (Below.new _ (.cells #[.int .i64 (s.made : Int)] 3)))
      have HR := Lib.hid HA.out.row
      have hnw := (Blk.new w 3 [.int .i64 (s.made : Int)]).news
      have HNW := Lib.hid hnw
      have HBS : Hid (K.B ≤ (World.alloc w (.cells #[.int .i64 (s.made : Int)] 3)).heap.size) := Lib.hid (by have := h.lo.1; have := h.bn.lt; simp [World.setCell]; omega)
      have HT0 : Hid (Turns (K.S (.slice A0 s.out.length c0)) w (World.alloc w (.cells #[.int .i64 (s.made : Int)] 3))) := Lib.hid ((Turns.refl _ w).alloc _)
      rw [E]
      have HS := Lib.hid hs
      have hk' : ¬ (s.made : Int) = 100 := by omega
      clear hk
      clear h hmap hs E HF hnw
      unfold SK.ecaps
      simp only [List.push_toArray, Array.append_singleton, List.append_toArray] at *
      go_enter Try.func24, Try.ntmps24
      go_wp2_with (first | (at_lookup; refine wpl_lookup _ rfl _ _ 45 true rfl (str_keys Try.underlying9) Try.underlying45 HM.out name (.int .i64 0) (zeroInt _) rfl rfl ?_; rw [HS.out]) | (at_builtin; refine wpList_append_own_at _ rfl _ _ 25 rfl K.B 3 i0 _ 1 8 Try.underlying25 hi hz0 hz1 hz2 rfl (by decide) _ _ _ rfl HR.out ⟨w.heap.size, 0, none⟩ 1 1 [.int .i64 (s.made : Int)] rfl rfl HNW.out (by intro u hu; simp at hu; subst hu; rfl) hl1.out hl2.out HBS.out ?_; intro v1 y1 hown1 hgr1 _ hat1; obtain ⟨A1, cc1, rfl⟩ := own_slice' hown1; have bo1 := HA.out.bo.turns (.of_grown (S := fun i => (Value.slice A0 s.out.length c0).ownBlock = some i) hgr1 (fun r e => e)) (fun e => own_ne_blk HA.out.row e HA.out.bo (by decide) rfl); have c1 := bo1.cell 0; have f1 := bo1.fz 0; have HT := Lib.hid (HA.out.told (s.made : Int) hown1 hgr1 hat1); have c2 := HT.out.1.bm.cell 0; have f2 := HT.out.1.bm.fz 0; simp only [List.getElem?_cons_zero] at c1 c2; clear hown1 hgr1 hat1 bo1))
      go_end0
      exact ⟨rfl, _, HT.out.1.setMade (s.made + 1), (HT0.out.trans HT.out.2.1 (fun _ _ e => e)).trans (.of_set _ ⟨K.Bm, 0, none⟩ _ (.inr (.inl rfl))) (fun i hi e => SK.next (Next.of_size HT.out.2.2 HT0.out.size) hi e), Next.of_size HT.out.2.2 HT0.out.size⟩
end Go.Proofs.Ytmacmejpcpdnnaa
