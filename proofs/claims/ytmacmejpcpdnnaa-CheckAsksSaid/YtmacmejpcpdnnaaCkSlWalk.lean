/- check: the walk of check.Slots at one tree. -/
import Derived.Test.YtmacmejpcpdnnaaCkSlGo
import Derived.Deep.Cut
import Derived.Deep.CutBlock
import Derived.Deep.DeepCutAuto
import Derived.BigQuiet
namespace Go.Proofs.Ytmacmejpcpdnnaa
open Go.RowKit

theorem info_str : (Try.prog.info? 9).map (fun i => (i.zero, i.size, i.bytes)) = some (some (.string ⟨#[]⟩), 1, 16) := by kernel_rfl
theorem text_ne {s : ByteArray} (h : s ≠ ⟨#[]⟩) : ¬ s.toList = [] := fun e => h (ByteArray.ext (Array.eq_empty_of_size_eq_zero (toList_nil s e)))
theorem cnt_size : ∀ f : Fo, f.cnt ≤ f.size
  | .nil => Nat.le_refl _
  | .cons x k r => by have := cnt_size r; simp only [Fo.cnt, Fo.size]; omega
set_option maxRecDepth 20000 in
set_option maxHeartbeats 12800000 in
theorem slw_step (w : World) (K : SK) (t : List Tw) (v : Value) (x : Tw) (k : Fo) (s : Sl) (h : SEnv w K t v s 0) (hst : Stands t s.at_ (.cons x k .nil)) (hok : (Fo.cons x k .nil).ok) (hnm : (Fo.cons x k .nil).named) (hs : s.Ok)
    (hih : ∀ (w : World) (v : Value) (y : Tw) (k' : Fo) (s : Sl), k'.size < k.size → SEnv w K t v s 0 → Stands t s.at_ (.cons y k' .nil) → (Fo.cons y k' .nil).ok → (Fo.cons y k' .nil).named → s.Ok →
      Calls Try.prog 25 K.wcaps w (SlY w K t v y s (go1 y k' s))) :
    Calls Try.prog 25 K.wcaps w (SlY w K t v x s (go1 x k s)) := by
  have hlen := hst.1
  have hkk := hst.kids
  simp only [Fo.size] at hlen
  obtain ⟨hlt, hx⟩ := hst.head
  obtain ⟨hkc, hk1, _⟩ := hok
  obtain ⟨hn1, hn2, _⟩ := hnm
  have hn := h.tw.len
  have hm := h.most
  obtain ⟨hc1, hc2⟩ := h.cap
  obtain ⟨so, sm⟩ := hs
  have hol : s.out.length ≤ 2048 := by omega
  have HSO := Lib.hid so
  have cT := h.bt.cell 0
  have cN := h.bn.cell 0
  obtain ⟨b, o, ea, hbB, hbl, c0, c1, c2, c3⟩ := h.tw.cell s.at_ hlt
  obtain ⟨w1, w2, w3, w4⟩ := h.tw.wf s.at_ hlt
  rw [hx] at c0 c1 c2 c3 w1 w2 w3 w4
  have HE := Lib.hid h
  have HIH := Lib.hid hih
  have HX := Lib.hid hx
  have HKK := Lib.hid hkk
  have HK1 := Lib.hid hk1
  have HN1 := Lib.hid hn1
  have HN2 := Lib.hid hn2
  have HKC := Lib.hid hkc
  have HST := Lib.hid hst
  clear so
  clear h hih hx hkk hk1 hn1 hn2 hkc hst
  have ET : Hid (K.a = some ⟨b, o, none⟩) := Lib.hid ea
  simp only [List.getElem?_cons_zero] at cT cN
  rw [ea, ← hn] at cT
  have h2 : (s.at_ : Int) < (t.length : Int) := by omega
  have h3 : (0 : Int) ≤ (s.at_ : Int) := by omega
  clear ea
  unfold SK.wcaps
  go_enter Try.func25, Try.ntmps25
  go_upto_block 0 with fail
  have HA := Lib.hid (HE.out.past (Below.new w (.cells (twC x).toArray 34)))
  have HB := Lib.hid (Blk.new w 34 (twC x))
  have HT := Lib.hid ((Turns.refl (K.S v) w).alloc (.cells (twC x).toArray 34))
  have HNX : Hid (Next w v v) := Lib.hid (Next.refl w v)
  unfold twC at HA HB HT
  generalize (w.alloc (.cells #[.int .u8 x.op, .int .i64 x.kids, .int .i64 x.int, .string x.text] 34)) = wx at *
  obtain ⟨i0, hi, hz0, hz1, hz2⟩ := info_parts info_int
  obtain ⟨A0, c9, rfl⟩ := own_slice' HA.out.row
  obtain ⟨km, hmap⟩ := HA.out.map
  have HM := Lib.hid hmap
  clear hmap
  have HNS := Lib.hid (HA.out.far HB.out (by decide) (by decide) (by decide))
  have cs0 := HA.out.bs.cell 0
  have cf0 := HA.out.bf.cell 0
  have ff0 := HA.out.bf.fz 0
  have cm0 := HA.out.bm.cell 0
  have co0 := HA.out.bo.cell 0
  have be0 := HA.out.be.cell 0
  have x0 := HB.out.cell 0
  have x3 := HB.out.cell 3
  simp only [List.getElem?_cons_zero, List.getElem?_cons_succ] at cs0 cf0 cm0 co0 be0 x0 x3
  have hl1 : Hid (s.out.length + 1 ≤ maxLen) := Lib.hid (by unfold maxLen; omega)
  have hl2 : Hid ((s.out.length + 1) * 8 ≤ 140737488355328) := Lib.hid (by omega)
  have hmI : (s.made : Int) ≤ 100 := by omega
  go_cut [11, 12] (fun s11 s12 wc => s11 = .string (nmS x) ∧ s12 = .int .i64 (slS x s) ∧ ∃ v', Hid (SEnv wc K t v' (stepS x s).1 (stepS x s).2 ∧ Blk wc w.heap.size 34 (twC x) ∧ Turns (K.S (.slice A0 s.out.length c9)) w wc ∧ Next w (.slice A0 s.out.length c9) v'))
  case first =>
    have hq : ∀ n : Nat, x.op = n → (((x.op : Int) == (n : Int)) = true) := fun n e => by rw [beq_iff_eq]; omega
    have hq' : ∀ n : Nat, x.op ≠ n → (((x.op : Int) == (n : Int)) = false) := fun n e => by rw [beq_eq_false_iff_ne]; omega
    by_cases e : x.op = 2
    · have q2 : ((x.op : Int) == 2) = true := hq 2 (by omega)
      have EM : mkB x = true := by simp [mkB]; omega
      have HM1 := Lib.hid EM
      have HEN := Lib.hid (fun nq : Nat => enter_any (wx.drewN nq) K t (.slice A0 s.out.length c9) s x.text (HA.out.past (below_drewN' (Below.refl _ _) nq)) sm hol)
      clear e hq hq' EM
      unfold SK.ecaps at HEN be0
      simp only [List.push_toArray, Array.append_singleton, List.append_toArray] at HEN be0
      go_wp2_with fail
      go_quiet (fail)
      go_wp2_with (go_at_call 24; refine (HEN.out _).mono ?_; rintro e wn ⟨rfl, v9, hS9, hT9, hN9⟩)
      go_meet
      exact ⟨by unfold nmS; rw [if_pos HM1.out], by unfold slS; rw [if_pos HM1.out], v9, Lib.hid ⟨by unfold stepS; rw [if_pos HM1.out]; exact hS9, (HB.out.drewN _).turns hT9 HNS.out, (HT.out.drewN _).then hT9, Next.of_size hN9 HT.out.size⟩⟩
    have e2 := e
    clear e
    by_cases e : x.op = 4
    · have q2 : ((x.op : Int) == 2) = false := hq' 2 (by omega)
      have q4 : ((x.op : Int) == 4) = true := hq 4 (by omega)
      have EM : mkB x = true := by simp [mkB]; omega
      have HM1 := Lib.hid EM
      have HEN := Lib.hid (fun nq : Nat => enter_any (wx.drewN nq) K t (.slice A0 s.out.length c9) s x.text (HA.out.past (below_drewN' (Below.refl _ _) nq)) sm hol)
      clear e hq hq' EM
      unfold SK.ecaps at HEN be0
      simp only [List.push_toArray, Array.append_singleton, List.append_toArray] at HEN be0
      go_wp2_with fail
      go_quiet (fail)
      go_wp2_with (go_at_call 24; refine (HEN.out _).mono ?_; rintro e wn ⟨rfl, v9, hS9, hT9, hN9⟩)
      go_meet
      exact ⟨by unfold nmS; rw [if_pos HM1.out], by unfold slS; rw [if_pos HM1.out], v9, Lib.hid ⟨by unfold stepS; rw [if_pos HM1.out]; exact hS9, (HB.out.drewN _).turns hT9 HNS.out, (HT.out.drewN _).then hT9, Next.of_size hN9 HT.out.size⟩⟩
    have e4 := e
    clear e
    by_cases e : x.op = 5
    · rcases hs9 : s.seen x.text with _ | z
      · have q2 : ((x.op : Int) == 2) = false := hq' 2 (by omega)
        have q4 : ((x.op : Int) == 4) = false := hq' 4 (by omega)
        have q5 : ((x.op : Int) == 5) = true := hq 5 (by omega)
        have EM : mkB x = false := by simp [mkB]; omega
        have EU : usB x = true := by simp [usB]; omega
        have HM1 := Lib.hid EM
        have HU1 := Lib.hid EU
        have HF : Hid (SEnv (World.alloc (wx.setCell ⟨K.Bf, 0, none⟩ (.int .i64 110)) (.cells #[.int .i64 0] 3)) K t (.slice A0 s.out.length c9) s 110) := Lib.hid ((HA.out.setFault 110).past (Below.new _ _))
        have HR := Lib.hid HF.out.row
        have hnw9 := (Blk.new (wx.setCell ⟨K.Bf, 0, none⟩ (.int .i64 110)) 3 [.int .i64 0]).news
        rw [show (wx.setCell ⟨K.Bf, 0, none⟩ (.int .i64 110)).heap.size = wx.heap.size from by simp [World.setCell]] at hnw9
        have HNW := Lib.hid hnw9
        have HBS : Hid (K.B ≤ (World.alloc (wx.setCell ⟨K.Bf, 0, none⟩ (.int .i64 110)) (.cells #[.int .i64 0] 3)).heap.size) := Lib.hid (by have := HA.out.lo.1; have := HA.out.bn.lt; simp [World.setCell]; omega)
        have HT8 : Hid (Turns (K.S (.slice A0 s.out.length c9)) w (World.alloc (wx.setCell ⟨K.Bf, 0, none⟩ (.int .i64 110)) (.cells #[.int .i64 0] 3))) := Lib.hid ((HT.out.set ⟨K.Bf, 0, none⟩ _ (fun _ => .inr (.inr (.inl rfl)))).alloc _)
        have HB9 := Lib.hid ((HB.out.turns (Turns.of_set (S := K.S (.slice A0 s.out.length c9)) wx ⟨K.Bf, 0, none⟩ (.int .i64 110) (.inr (.inr (.inl rfl)))) HNS.out).alloc (.cells #[.int .i64 0] 3))
        have co9 : (wx.setCell ⟨K.Bf, 0, none⟩ (.int .i64 110)).cell? ⟨K.Bo, 0, none⟩ = some (.slice A0 s.out.length c9) := (HA.out.setFault 110).bo.cell 0
        have HS := Lib.hid hs9
        clear e hq hq' EM EU hs9 hnw9
        go_wp2_with (first | (at_lookup; refine wpl_lookup _ rfl _ _ 45 true rfl (str_keys Try.underlying9) Try.underlying45 HM.out x.text (.int .i64 0) (zeroInt _) rfl rfl ?_; rw [HS.out]; try simp only [Option.map_some, Option.getD_some, Option.isSome_some, intI]) | (at_builtin; refine wpList_append_own_at _ rfl _ _ 25 rfl K.B 3 i0 _ 1 8 Try.underlying25 hi hz0 hz1 hz2 rfl (by decide) _ _ _ rfl HR.out ⟨wx.heap.size, 0, none⟩ 1 1 [.int .i64 0] rfl rfl HNW.out (by intro u hu; simp at hu; subst hu; rfl) hl1.out hl2.out HBS.out ?_; intro v1 y1 hown1 hgr1 _ hat1; obtain ⟨A1, cc1, rfl⟩ := own_slice' hown1; have bo1 := HF.out.bo.turns (.of_grown (S := fun i => (Value.slice A0 s.out.length c9).ownBlock = some i) hgr1 (fun r e => e)) (fun e => own_ne_blk HF.out.row e HF.out.bo (by decide) rfl); have c91 := bo1.cell 0; have f91 := bo1.fz 0; have HT9 := Lib.hid (HF.out.told 0 hown1 hgr1 hat1); simp only [List.getElem?_cons_zero] at c91; clear hown1 hgr1 hat1 bo1))
        go_meet
        exact ⟨by unfold nmS; rw [HM1.out]; rfl, by unfold slS; rw [HM1.out]; rfl, _, Lib.hid ⟨by unfold stepS; rw [HM1.out, HU1.out, HS.out]; exact HT9.out.1, HB9.out.turns HT9.out.2.1 HNS.out, HT8.out.then HT9.out.2.1, Next.of_size HT9.out.2.2 HT8.out.size⟩⟩
      · have q2 : ((x.op : Int) == 2) = false := hq' 2 (by omega)
        have q4 : ((x.op : Int) == 4) = false := hq' 4 (by omega)
        have q5 : ((x.op : Int) == 5) = true := hq 5 (by omega)
        have EM : mkB x = false := by simp [mkB]; omega
        have EU : usB x = true := by simp [usB]; omega
        have HM1 := Lib.hid EM
        have HU1 := Lib.hid EU
        have HF : Hid (SEnv (World.alloc wx (.cells #[.int .i64 z] 3)) K t (.slice A0 s.out.length c9) s 0) := Lib.hid (HA.out.past (Below.new _ _))
        have HR := Lib.hid HF.out.row
        have hnw9 := (Blk.new wx 3 [.int .i64 z]).news
        have HNW := Lib.hid hnw9
        have HBS : Hid (K.B ≤ (World.alloc wx (.cells #[.int .i64 z] 3)).heap.size) := Lib.hid (by have := HA.out.lo.1; have := HA.out.bn.lt; simp [World.setCell]; omega)
        have HT8 : Hid (Turns (K.S (.slice A0 s.out.length c9)) w (World.alloc wx (.cells #[.int .i64 z] 3))) := Lib.hid (HT.out.alloc _)
        have HB9 := Lib.hid (HB.out.alloc (.cells #[.int .i64 z] 3))
        have HS := Lib.hid hs9
        clear e hq hq' EM EU hs9 hnw9
        go_wp2_with (first | (at_lookup; refine wpl_lookup _ rfl _ _ 45 true rfl (str_keys Try.underlying9) Try.underlying45 HM.out x.text (.int .i64 0) (zeroInt _) rfl rfl ?_; rw [HS.out]; try simp only [Option.map_some, Option.getD_some, Option.isSome_some, intI]) | (at_builtin; refine wpList_append_own_at _ rfl _ _ 25 rfl K.B 3 i0 _ 1 8 Try.underlying25 hi hz0 hz1 hz2 rfl (by decide) _ _ _ rfl HR.out ⟨wx.heap.size, 0, none⟩ 1 1 [.int .i64 z] rfl rfl HNW.out (by intro u hu; simp at hu; subst hu; rfl) hl1.out hl2.out HBS.out ?_; intro v1 y1 hown1 hgr1 _ hat1; obtain ⟨A1, cc1, rfl⟩ := own_slice' hown1; have bo1 := HF.out.bo.turns (.of_grown (S := fun i => (Value.slice A0 s.out.length c9).ownBlock = some i) hgr1 (fun r e => e)) (fun e => own_ne_blk HF.out.row e HF.out.bo (by decide) rfl); have c91 := bo1.cell 0; have f91 := bo1.fz 0; have HT9 := Lib.hid (HF.out.told z hown1 hgr1 hat1); simp only [List.getElem?_cons_zero] at c91; clear hown1 hgr1 hat1 bo1))
        go_meet
        exact ⟨by unfold nmS; rw [HM1.out]; rfl, by unfold slS; rw [HM1.out]; rfl, _, Lib.hid ⟨by unfold stepS; rw [HM1.out, HU1.out, HS.out]; exact HT9.out.1, HB9.out.turns HT9.out.2.1 HNS.out, HT8.out.then HT9.out.2.1, Next.of_size HT9.out.2.2 HT8.out.size⟩⟩
    have e5 := e
    clear e
    by_cases e : x.op = 26
    · rcases hs9 : s.seen x.text with _ | z
      · have q2 : ((x.op : Int) == 2) = false := hq' 2 (by omega)
        have q4 : ((x.op : Int) == 4) = false := hq' 4 (by omega)
        have q5 : ((x.op : Int) == 5) = false := hq' 5 (by omega)
        have q26 : ((x.op : Int) == 26) = true := hq 26 (by omega)
        have EM : mkB x = false := by simp [mkB]; omega
        have EU : usB x = true := by simp [usB]; omega
        have HM1 := Lib.hid EM
        have HU1 := Lib.hid EU
        have HF : Hid (SEnv (World.alloc (wx.setCell ⟨K.Bf, 0, none⟩ (.int .i64 110)) (.cells #[.int .i64 0] 3)) K t (.slice A0 s.out.length c9) s 110) := Lib.hid ((HA.out.setFault 110).past (Below.new _ _))
        have HR := Lib.hid HF.out.row
        have hnw9 := (Blk.new (wx.setCell ⟨K.Bf, 0, none⟩ (.int .i64 110)) 3 [.int .i64 0]).news
        rw [show (wx.setCell ⟨K.Bf, 0, none⟩ (.int .i64 110)).heap.size = wx.heap.size from by simp [World.setCell]] at hnw9
        have HNW := Lib.hid hnw9
        have HBS : Hid (K.B ≤ (World.alloc (wx.setCell ⟨K.Bf, 0, none⟩ (.int .i64 110)) (.cells #[.int .i64 0] 3)).heap.size) := Lib.hid (by have := HA.out.lo.1; have := HA.out.bn.lt; simp [World.setCell]; omega)
        have HT8 : Hid (Turns (K.S (.slice A0 s.out.length c9)) w (World.alloc (wx.setCell ⟨K.Bf, 0, none⟩ (.int .i64 110)) (.cells #[.int .i64 0] 3))) := Lib.hid ((HT.out.set ⟨K.Bf, 0, none⟩ _ (fun _ => .inr (.inr (.inl rfl)))).alloc _)
        have HB9 := Lib.hid ((HB.out.turns (Turns.of_set (S := K.S (.slice A0 s.out.length c9)) wx ⟨K.Bf, 0, none⟩ (.int .i64 110) (.inr (.inr (.inl rfl)))) HNS.out).alloc (.cells #[.int .i64 0] 3))
        have co9 : (wx.setCell ⟨K.Bf, 0, none⟩ (.int .i64 110)).cell? ⟨K.Bo, 0, none⟩ = some (.slice A0 s.out.length c9) := (HA.out.setFault 110).bo.cell 0
        have HS := Lib.hid hs9
        clear e hq hq' EM EU hs9 hnw9
        go_wp2_with (first | (at_lookup; refine wpl_lookup _ rfl _ _ 45 true rfl (str_keys Try.underlying9) Try.underlying45 HM.out x.text (.int .i64 0) (zeroInt _) rfl rfl ?_; rw [HS.out]; try simp only [Option.map_some, Option.getD_some, Option.isSome_some, intI]) | (at_builtin; refine wpList_append_own_at _ rfl _ _ 25 rfl K.B 3 i0 _ 1 8 Try.underlying25 hi hz0 hz1 hz2 rfl (by decide) _ _ _ rfl HR.out ⟨wx.heap.size, 0, none⟩ 1 1 [.int .i64 0] rfl rfl HNW.out (by intro u hu; simp at hu; subst hu; rfl) hl1.out hl2.out HBS.out ?_; intro v1 y1 hown1 hgr1 _ hat1; obtain ⟨A1, cc1, rfl⟩ := own_slice' hown1; have bo1 := HF.out.bo.turns (.of_grown (S := fun i => (Value.slice A0 s.out.length c9).ownBlock = some i) hgr1 (fun r e => e)) (fun e => own_ne_blk HF.out.row e HF.out.bo (by decide) rfl); have c91 := bo1.cell 0; have f91 := bo1.fz 0; have HT9 := Lib.hid (HF.out.told 0 hown1 hgr1 hat1); simp only [List.getElem?_cons_zero] at c91; clear hown1 hgr1 hat1 bo1))
        go_meet
        exact ⟨by unfold nmS; rw [HM1.out]; rfl, by unfold slS; rw [HM1.out]; rfl, _, Lib.hid ⟨by unfold stepS; rw [HM1.out, HU1.out, HS.out]; exact HT9.out.1, HB9.out.turns HT9.out.2.1 HNS.out, HT8.out.then HT9.out.2.1, Next.of_size HT9.out.2.2 HT8.out.size⟩⟩
      · have q2 : ((x.op : Int) == 2) = false := hq' 2 (by omega)
        have q4 : ((x.op : Int) == 4) = false := hq' 4 (by omega)
        have q5 : ((x.op : Int) == 5) = false := hq' 5 (by omega)
        have q26 : ((x.op : Int) == 26) = true := hq 26 (by omega)
        have EM : mkB x = false := by simp [mkB]; omega
        have EU : usB x = true := by simp [usB]; omega
        have HM1 := Lib.hid EM
        have HU1 := Lib.hid EU
        have HF : Hid (SEnv (World.alloc wx (.cells #[.int .i64 z] 3)) K t (.slice A0 s.out.length c9) s 0) := Lib.hid (HA.out.past (Below.new _ _))
        have HR := Lib.hid HF.out.row
        have hnw9 := (Blk.new wx 3 [.int .i64 z]).news
        have HNW := Lib.hid hnw9
        have HBS : Hid (K.B ≤ (World.alloc wx (.cells #[.int .i64 z] 3)).heap.size) := Lib.hid (by have := HA.out.lo.1; have := HA.out.bn.lt; simp [World.setCell]; omega)
        have HT8 : Hid (Turns (K.S (.slice A0 s.out.length c9)) w (World.alloc wx (.cells #[.int .i64 z] 3))) := Lib.hid (HT.out.alloc _)
        have HB9 := Lib.hid (HB.out.alloc (.cells #[.int .i64 z] 3))
        have HS := Lib.hid hs9
        clear e hq hq' EM EU hs9 hnw9
        go_wp2_with (first | (at_lookup; refine wpl_lookup _ rfl _ _ 45 true rfl (str_keys Try.underlying9) Try.underlying45 HM.out x.text (.int .i64 0) (zeroInt _) rfl rfl ?_; rw [HS.out]; try simp only [Option.map_some, Option.getD_some, Option.isSome_some, intI]) | (at_builtin; refine wpList_append_own_at _ rfl _ _ 25 rfl K.B 3 i0 _ 1 8 Try.underlying25 hi hz0 hz1 hz2 rfl (by decide) _ _ _ rfl HR.out ⟨wx.heap.size, 0, none⟩ 1 1 [.int .i64 z] rfl rfl HNW.out (by intro u hu; simp at hu; subst hu; rfl) hl1.out hl2.out HBS.out ?_; intro v1 y1 hown1 hgr1 _ hat1; obtain ⟨A1, cc1, rfl⟩ := own_slice' hown1; have bo1 := HF.out.bo.turns (.of_grown (S := fun i => (Value.slice A0 s.out.length c9).ownBlock = some i) hgr1 (fun r e => e)) (fun e => own_ne_blk HF.out.row e HF.out.bo (by decide) rfl); have c91 := bo1.cell 0; have f91 := bo1.fz 0; have HT9 := Lib.hid (HF.out.told z hown1 hgr1 hat1); simp only [List.getElem?_cons_zero] at c91; clear hown1 hgr1 hat1 bo1))
        go_meet
        exact ⟨by unfold nmS; rw [HM1.out]; rfl, by unfold slS; rw [HM1.out]; rfl, _, Lib.hid ⟨by unfold stepS; rw [HM1.out, HU1.out, HS.out]; exact HT9.out.1, HB9.out.turns HT9.out.2.1 HNS.out, HT8.out.then HT9.out.2.1, Next.of_size HT9.out.2.2 HT8.out.size⟩⟩
    have e26 := e
    clear e
    have q2 : ((x.op : Int) == 2) = false := hq' 2 (by omega)
    have q4 : ((x.op : Int) == 4) = false := hq' 4 (by omega)
    have q5 : ((x.op : Int) == 5) = false := hq' 5 (by omega)
    have q26 : ((x.op : Int) == 26) = false := hq' 26 (by omega)
    have EM : mkB x = false := by simp [mkB]; omega
    have EU : usB x = false := by simp [usB]; omega
    have HM1 := Lib.hid EM
    have HU1 := Lib.hid EU
    have HF : Hid (SEnv (World.alloc wx (.cells #[.int .i64 (-1)] 3)) K t (.slice A0 s.out.length c9) s 0) := Lib.hid (HA.out.past (Below.new _ _))
    have HR := Lib.hid HF.out.row
    have hnw9 := (Blk.new wx 3 [.int .i64 (-1)]).news
    have HNW := Lib.hid hnw9
    have HBS : Hid (K.B ≤ (World.alloc wx (.cells #[.int .i64 (-1)] 3)).heap.size) := Lib.hid (by have := HA.out.lo.1; have := HA.out.bn.lt; simp [World.setCell]; omega)
    have HT8 : Hid (Turns (K.S (.slice A0 s.out.length c9)) w (World.alloc wx (.cells #[.int .i64 (-1)] 3))) := Lib.hid (HT.out.alloc _)
    have HB9 := Lib.hid (HB.out.alloc (.cells #[.int .i64 (-1)] 3))
    clear e2 e4 e5 e26 hq hq' EM EU hnw9
    go_wp2_with (at_builtin; refine wpList_append_own_at _ rfl _ _ 25 rfl K.B 3 i0 _ 1 8 Try.underlying25 hi hz0 hz1 hz2 rfl (by decide) _ _ _ rfl HR.out ⟨wx.heap.size, 0, none⟩ 1 1 [.int .i64 (-1)] rfl rfl HNW.out (by intro u hu; simp at hu; subst hu; rfl) hl1.out hl2.out HBS.out ?_; intro v1 y1 hown1 hgr1 _ hat1; obtain ⟨A1, cc1, rfl⟩ := own_slice' hown1; have bo1 := HF.out.bo.turns (.of_grown (S := fun i => (Value.slice A0 s.out.length c9).ownBlock = some i) hgr1 (fun r e => e)) (fun e => own_ne_blk HF.out.row e HF.out.bo (by decide) rfl); have c91 := bo1.cell 0; have f91 := bo1.fz 0; have HT9 := Lib.hid (HF.out.told (-1) hown1 hgr1 hat1); simp only [List.getElem?_cons_zero] at c91; clear hown1 hgr1 hat1 bo1)
    go_meet
    exact ⟨by unfold nmS; rw [HM1.out]; rfl, by unfold slS; rw [HM1.out]; rfl, _, Lib.hid ⟨by unfold stepS; rw [HM1.out, HU1.out]; exact HT9.out.1, HB9.out.turns HT9.out.2.1 HNS.out, HT8.out.then HT9.out.2.1, Next.of_size HT9.out.2.2 HT8.out.size⟩⟩
  case rest =>
    obtain ⟨rfl, rfl, v1, HC⟩ := hcut
    clear HA HB HT HNX HM HNS cs0 cf0 ff0 cm0 co0 be0 x0 x3 hl1 hl2 cT cN c0 c1 c2 c3 hi hz0 hz1 hz2
    obtain ⟨i0, hi, hz0, hz1, hz2⟩ := info_parts info_str
    have hT := stepT_S x s
    have hsa := stepS_at x s
    obtain ⟨s1, fl0, hq⟩ : ∃ s1 fl0, stepS x s = (s1, fl0) := ⟨_, _, rfl⟩
    rw [hq] at hT hsa HC
    simp only at hT hsa HC
    clear hq
    generalize hV0 : Value.slice A0 s.out.length c9 = V0 at *
    have HV0 := Lib.hid hV0
    clear hV0
    have bf0 := HC.out.1.bf.cell 0
    have bn0 := HC.out.1.bn.cell 0
    have bnf := HC.out.1.bn.fz 0
    simp only [List.getElem?_cons_zero] at bf0 bn0
    rw [hsa.1] at bn0
    by_cases hf : fl0 = 0
    · rw [if_pos hf] at hT
      subst hf
      have s1o := stepT_ok hT ⟨HSO.out, sm⟩
      have HG1 : Hid (go1 x k s = match goF k ⟨s.at_ + 1, s1.made, s1.seen, s1.out⟩ with | .error e => .error e | .ok (s2, l) => .ok (dropS s2 l)) := Lib.hid (by unfold go1; rw [hT]; simp only; cases goF k ⟨s.at_ + 1, s1.made, s1.seen, s1.out⟩ <;> rfl)
      have HEN := Lib.hid (HC.out.1.setNext (s.at_ + 1))
      have TN : Turns (K.S v1) wc (wc.setCell ⟨K.Bn, 0, none⟩ (.int .i64 ((s.at_ + 1 : Nat) : Int))) := .of_set _ _ _ (.inl rfl)
      have HP0 : Hid (Parts w K t V0 x (goF k ⟨s.at_ + 1, s1.made, s1.seen, s1.out⟩) k.cnt k.size w.heap.size w.heap.size (wc.setCell ⟨K.Bn, 0, none⟩ (.int .i64 ((s.at_ : Int) + 1))) 0 (.slice none 0 0) [] v1 ⟨s.at_ + 1, s1.made, s1.seen, s1.out⟩ 0) := Lib.hid ⟨HEN.out, HC.out.2.1.turns TN (HC.out.1.far HC.out.2.1 (by decide) (by decide) (by decide)), HC.out.2.2.1.trans TN (fun i hi e => SK.next HC.out.2.2.2 hi e), HC.out.2.2.2, World.ownsRow_nil _ _ _ _, Nat.zero_le _, Nat.le_refl _, .inl ⟨rfl, k, rfl, Nat.le_refl _, HKK.out, HK1.out, HN2.out, s1o, by cases goF k ⟨s.at_ + 1, s1.made, s1.seen, s1.out⟩ <;> rfl⟩⟩
      have hkc : x.kids = (k.cnt : Int) := HKC.out
      have hcs : k.cnt ≤ 2048 := by have := cnt_size k; omega
      clear hT hsa TN s1o
      generalize goF k ⟨s.at_ + 1, s1.made, s1.seen, s1.out⟩ = tot at HG1 HP0
      go_wp2_with fail
      go_loopw [15, 16] (fun mv iv wr => ∃ (i : Nat) (Am : Option Addr) (cm : Nat) (ml : List ByteArray) (vi : Value) (si : Sl) (fl : Nat), mv = .slice Am ml.length cm ∧ iv = .int .i64 (i : Int) ∧ i ≤ k.cnt ∧ Hid (Parts w K t V0 x tot k.cnt k.size w.heap.size w.heap.size wr i (.slice Am ml.length cm) ml vi si fl)) (fun _ iv _ => k.cnt - (intOf iv).toNat)
      case atStart => exact ⟨0, none, 0, [], v1, _, 0, rfl, rfl, Nat.zero_le _, HP0⟩
      case round =>
        clear HP0 bf0 bn0 bnf HC HEN
        obtain ⟨i, Am, cm, ml, vi, si, fl, rfl, rfl, hi9, HP⟩ := hrel
        have pX := HP.out.bX.cell 1
        have pF := HP.out.env.bf.cell 0
        have pW := HP.out.env.bw.cell 0
        unfold twC at pX
        simp only [List.getElem?_cons_zero, List.getElem?_cons_succ] at pX pF pW
        unfold SK.wcaps at pW
        rw [hkc] at pX
        rcases HP.out.st with ⟨hfl0, f, hfc, hfs, hfst, hfo, hfn, hso, htot⟩ | ⟨hfl, htot⟩
        · subst hfl0
          cases f with
          | nil =>
            obtain rfl : i = k.cnt := by simp only [Fo.cnt] at hfc; omega
            have hlt1 : ¬ (k.cnt : Int) < (k.cnt : Int) := by omega
            have HTOT := Lib.hid htot
            clear htot hfc hfs hfst hfo hfn hso
            go_wp2_with fail
            go_loopw [20, 89] (fun _ jv wr => ∃ j : Nat, j ≤ ml.length ∧ jv = .int .i64 (j : Int) ∧ Hid (Dels w K t V0 w.heap.size wr j (.slice Am ml.length cm) ml vi si 0)) (fun _ jv _ => ml.length - (intOf jv).toNat)
            case atStart => exact ⟨0, by omega, rfl, Lib.hid ⟨by rw [List.take_zero]; exact HP.out.env, HP.out.tr, HP.out.nx, HP.out.row⟩⟩
            case round =>
              obtain ⟨j, hj, rfl, HD⟩ := hrel
              by_cases hjl : j < ml.length
              · have hjl' : (j : Int) < (ml.length : Int) := by omega
                obtain ⟨g, cg, eg, vb, hg1, hg2, hg3⟩ := own_at HD.out.row (by omega)
                injection eg with eg1 _ eg3
                subst eg1 eg3
                have cj := HD.out.row.cellAt j (by omega)
                rw [List.getElem?_map, List.getElem?_eq_getElem hjl] at cj
                simp only [Option.map_some, kStr] at cj
                have cs0 := HD.out.env.bs.cell 0
                obtain ⟨km, hmap⟩ := HD.out.env.map
                have HM := Lib.hid hmap
                have HR9 := Lib.hid (fun (w9 : World) (hT : Turns (K.S vi) wr w9) => own_turns HD.out.row hT (fun g hg => HD.out.env.farRow HD.out.row hg))
                simp only [List.getElem?_cons_zero] at cs0
                clear hmap
                unfold maxLen at hg3
                go_wp2_with (at_delete; refine wpl_delete _ rfl _ _ 45 9 rfl (str_keys Try.underlying9) Try.underlying45 HM.out ml[j] rfl rfl ?_; intro w9 hm9 ht9; have HM9 := Lib.hid hm9; have HT9 := Lib.hid ht9; clear hm9 ht9)
                have hmp := HD.out.env.mapped (delS (dropS si (ml.take j)).seen ml[j]) (MapIs.ext HM9.out (fun k => by unfold delS; by_cases hkk : k = ml[j] <;> simp [hkk])) HT9.out
                have e9 : dropS si (ml.take (j + 1)) = ⟨(dropS si (ml.take j)).at_, (dropS si (ml.take j)).made, delS (dropS si (ml.take j)).seen ml[j], (dropS si (ml.take j)).out⟩ := by
                  unfold dropS
                  rw [List.take_succ_eq_append_getElem hjl, List.foldl_append]
                  rfl
                refine ⟨⟨j + 1, by omega, by go_num, Lib.hid ⟨by rw [e9]; exact hmp.1, HD.out.tr.trans hmp.2 (fun i hi e => SK.next HD.out.nx hi e), HD.out.nx, HR9.out _ hmp.2⟩⟩, by simp [intOf]; omega⟩
              · obtain rfl : j = ml.length := by omega
                have hjl' : ¬ (ml.length : Int) < (ml.length : Int) := by omega
                go_wp2_with fail
                go_ret2
                have HDD := HD.out
                have hen := HDD.env
                rw [List.take_of_length_le (Nat.le_refl _)] at hen
                refine ⟨vi, HDD.tr, HDD.nx, ?_⟩
                have htt : go1 x k s = .ok (dropS si ml) := by rw [HG1.out, HTOT.out]; simp [goF]
                rw [htt]
                exact ⟨rfl, hen⟩
          | cons y k2 r =>
            have hlt1 : (i : Int) < (k.cnt : Int) := by simp only [Fo.cnt] at hfc; omega
            have hlt2 : (i : Int) ≤ 2048 := by omega
            have hk2 : k2.size < k.size := by simp only [Fo.size] at hfs; omega
            have hcall := HIH.out wr vi y k2 si hk2 HP.out.env hfst.one ⟨hfo.1, hfo.2.1, trivial⟩ ⟨hfn.1, hfn.2.1, trivial⟩ hso
            rw [goF_cons] at htot
            have hmy := HP.out.mle
            have HF1 := Lib.hid hfc
            have HF2 := Lib.hid hfs
            have HF3 := Lib.hid hfst
            have HF4 := Lib.hid hfo
            have HF5 := Lib.hid hfn
            have HF6 := Lib.hid hso
            clear hfc hfs hfst hfo hfn hso
            unfold SK.wcaps at hcall
            rcases hq : go1 y k2 si with ⟨p, er⟩ | s3
            · rw [hq] at hcall htot
              simp only at htot
              have HCALL := Lib.hid hcall
              have HTOT := Lib.hid htot
              clear hcall htot hq
              go_wp2_with (go_at_call 25; refine HCALL.out.mono ?_; rintro e wn ⟨v3, hT3, hN3, nm, sl, s3, rfl, her, hat, hE3⟩; have HT3 := Lib.hid hT3; have HN3 := Lib.hid hN3; have HER := Lib.hid her; have HAT := Lib.hid hat; have HE3 := Lib.hid hE3; have pf3 := hE3.bf.cell 0; have herI : ¬ (er : Int) = 0 := (by omega); have herB : ((er : Int) == 0) = false := (by simpa using her); simp only [List.getElem?_cons_zero] at pf3; clear hT3 hN3 her hat hE3)
              all_goals refine ⟨⟨i + 1, Am, cm, ml, v3, s3, er, rfl, by go_num, by omega, Lib.hid ⟨HE3.out, HP.out.bX.turns HT3.out (HP.out.env.far HP.out.bX (by decide) (by decide) (by decide)), HP.out.tr.trans HT3.out (fun i hi e => SK.next HP.out.nx hi e), HP.out.nx.trans HN3.out HP.out.tr.size, own_turns HP.out.row HT3.out (fun g hg => HP.out.env.farRow HP.out.row hg), by omega, by omega, .inr ⟨HER.out, by rw [HTOT.out, HAT.out]⟩⟩⟩, by simp [intOf]; omega⟩
            · rw [hq] at hcall htot
              simp only at htot
              have h3o := go1_ok hq HF6.out
              have h3a := go1_at hq
              by_cases hmk : mkB y = true
              · have hne : y.text ≠ ⟨#[]⟩ := HF5.out.1 hmk
                have hneb : ¬ y.text.toList = [] := text_ne hne
                have hneb2 : (!y.text.toList.isEmpty) = true := by simpa using hneb
                have HNM : Hid (nmS y = y.text) := Lib.hid (by unfold nmS; rw [if_pos hmk])
                have HSLL : Hid (slS y si = (si.made : Int)) := Lib.hid (by unfold slS; rw [if_pos hmk])
                have HKB : Hid (K.B ≤ w.heap.size) := Lib.hid (by have := HE.out.lo.1; have := HE.out.bn.lt; omega)
                have HCALL := Lib.hid hcall
                have HTOT := Lib.hid htot
                have HMK := Lib.hid hmk
                have H3O := Lib.hid h3o
                have H3A := Lib.hid h3a
                have hl1 : Hid (ml.length + 1 ≤ maxLen) := Lib.hid (by unfold maxLen; omega)
                have hl2 : Hid ((ml.length + 1) * 16 ≤ 140737488355328) := Lib.hid (by omega)
                clear hcall htot hq hne hmk h3o h3a
                go_wp2_with (first | (go_at_call 25; refine HCALL.out.mono ?_; rintro e wn ⟨v3, hT3, hN3, rfl, hE3⟩; rw [HNM.out, HSLL.out]; have HT3 := Lib.hid hT3; have HN3 := Lib.hid hN3; have HE3 := Lib.hid hE3; have pf3 := hE3.bf.cell 0; have pB := hE3.bs.cell 0; have HR3 := Lib.hid ((own_turns HP.out.row hT3 (fun g hg => HP.out.env.farRow HP.out.row hg)).alloc (.cells #[.string y.text] 9)); have HNW := Lib.hid (Blk.new wn 9 [.string y.text]).news; have HBS : Hid (w.heap.size ≤ (wn.alloc (.cells #[.string y.text] 9)).heap.size) := Lib.hid (by have := HP.out.tr.size; have := hT3.size; simp; omega); simp only [List.getElem?_cons_zero] at pf3 pB; clear hT3 hN3 hE3) | (at_builtin; refine wpList_append_own_at _ rfl _ _ 31 rfl w.heap.size 9 i0 _ 1 16 Try.underlying31 hi hz0 hz1 hz2 rfl (by decide) _ _ _ rfl HR3.out ⟨wn.heap.size, 0, none⟩ 1 1 [.string y.text] rfl rfl HNW.out (by intro u hu; simp at hu; subst hu; rfl) hl1.out hl2.out HBS.out ?_; intro v4 y4 hown4 hgr4 _ hat4; obtain ⟨A4, c4, rfl⟩ := own_slice' hown4; have HO4 := Lib.hid hown4; have HG4 := Lib.hid hgr4; have HE4 := Lib.hid ((HE3.out.past (Below.new wn (.cells #[.string y.text] 9))).grewRow HR3.out HKB.out hgr4); have pB4 := HE4.out.bs.cell 0; obtain ⟨km, hmap⟩ := HE4.out.map; have HM4 := Lib.hid hmap; simp only [List.getElem?_cons_zero] at pB4; clear hown4 hgr4 hat4 hmap) | (at_mapUpdate; refine wpl_update _ rfl _ _ _ 45 rfl (str_keys Try.underlying9) Try.underlying45 HM4.out y.text (.int .i64 (si.made : Int)) rfl rfl rfl ?_; intro w9 hm9 ht9; have HM9 := Lib.hid hm9; have HT9 := Lib.hid ht9; clear hm9 ht9))
                have hmp := HE4.out.mapped (addS s3.seen y.text (si.made : Int)) (MapIs.ext HM9.out (fun k => by unfold addS; by_cases hkk : k = y.text <;> simp [hkk, intI])) HT9.out
                have hr4 : y4.ownsRow w.heap.size 9 1 (.slice A4 (ml.length + 1) c4) (ml.length + 1) ((ml ++ [y.text]).map kStr) := by rw [List.map_append]; exact HO4.out
                have t1 : Turns (K.S V0) w wn := HP.out.tr.trans HT3.out (fun i hi e => SK.next HP.out.nx hi e)
                have t3 : Turns (K.S V0) w y4 := (t1.alloc (.cells #[.string y.text] 9)).trans (.of_grown (S := fun i => (Value.slice Am ml.length cm).ownBlock = some i) HG4.out (fun r e => e)) (fun i hi e => by have := (row_lo HR3.out e).1; omega)
                have t4 : Turns (K.S V0) w w9 := t3.trans hmp.2 (fun i hi e => SK.next (HP.out.nx.trans HN3.out HP.out.tr.size) hi e)
                have bX3 := (HP.out.bX.turns HT3.out (HP.out.env.far HP.out.bX (by decide) (by decide) (by decide))).alloc (.cells #[.string y.text] 9)
                have bX4 := bX3.turns (.of_grown (S := fun i => (Value.slice Am ml.length cm).ownBlock = some i) HG4.out (fun r e => e)) (fun e => own_ne_blk HR3.out e bX3 (by decide) rfl)
                have bX5 := bX4.turns hmp.2 (HE4.out.far bX4 (by decide) (by decide) (by decide))
                have f1 := HF1.out
                have f2 := HF2.out
                have f3 := HF3.out.rest
                rw [← H3A.out.1] at f3
                simp only [Fo.cnt] at f1
                simp only [Fo.size] at f2
                have eb : bindS y si.made s3 = ⟨s3.at_, s3.made, addS s3.seen y.text (si.made : Int), s3.out⟩ := by unfold bindS; rw [if_pos HMK.out]
                refine ⟨⟨i + 1, A4, c4, ml ++ [y.text], v3, bindS y si.made s3, 0, by simp, by go_num, by omega, Lib.hid ⟨by rw [eb]; exact hmp.1, bX5, t4, HP.out.nx.trans HN3.out HP.out.tr.size, ?_, by omega, by simp; omega, .inl ⟨rfl, r, by omega, by omega, by rw [eb]; exact f3, HF4.out.2.2, HF5.out.2.2, H3O.out, ?_⟩⟩⟩, by simp [intOf]; omega⟩
                · have := own_turns hr4 hmp.2 (fun g hg => HE4.out.farRow hr4 hg)
                  simpa using this
                · rw [HTOT.out]
                  cases goF r (bindS y si.made s3) with
                  | error e => rfl
                  | ok q =>
                    obtain ⟨s4, l4⟩ := q
                    simp only
                    unfold bindN
                    rw [if_pos HMK.out, List.append_assoc]
                    rfl
              · have HNM : Hid (nmS y = ⟨#[]⟩) := Lib.hid (by unfold nmS; rw [if_neg hmk])
                have HCALL := Lib.hid hcall
                have HTOT := Lib.hid htot
                have HMK := Lib.hid hmk
                have H3O := Lib.hid h3o
                have H3A := Lib.hid h3a
                clear hcall htot hq hmk h3o h3a
                go_wp2_with (go_at_call 25; refine HCALL.out.mono ?_; rintro e wn ⟨v3, hT3, hN3, rfl, hE3⟩; rw [HNM.out]; have HT3 := Lib.hid hT3; have HN3 := Lib.hid hN3; have HE3 := Lib.hid hE3; clear hT3 hN3 hE3)
                have t1 : Turns (K.S V0) w wn := HP.out.tr.trans HT3.out (fun i hi e => SK.next HP.out.nx hi e)
                have f1 := HF1.out
                have f2 := HF2.out
                have f3 := HF3.out.rest
                rw [← H3A.out.1] at f3
                simp only [Fo.cnt] at f1
                simp only [Fo.size] at f2
                have eb : bindS y si.made s3 = s3 := by unfold bindS; rw [if_neg HMK.out]
                have h3k := H3O.out
                rw [eb] at h3k
                refine ⟨⟨i + 1, Am, cm, ml, v3, s3, 0, rfl, by go_num, by omega, Lib.hid ⟨HE3.out, HP.out.bX.turns HT3.out (HP.out.env.far HP.out.bX (by decide) (by decide) (by decide)), t1, HP.out.nx.trans HN3.out HP.out.tr.size, own_turns HP.out.row HT3.out (fun g hg => HP.out.env.farRow HP.out.row hg), by omega, by omega, .inl ⟨rfl, r, by omega, by omega, f3, HF4.out.2.2, HF5.out.2.2, h3k, ?_⟩⟩⟩, by simp [intOf]; omega⟩
                rw [HTOT.out, eb]
                cases goF r s3 with
                | error e => rfl
                | ok q =>
                  obtain ⟨s4, l4⟩ := q
                  simp only
                  unfold bindN
                  rw [if_neg HMK.out]
        · have HTOT := Lib.hid htot
          have HFL := Lib.hid hfl
          have hfl1 : ¬ (fl : Int) = 0 := by omega
          clear htot hfl
          by_cases hlt1 : (i : Int) < (k.cnt : Int)
          · go_wp2_with fail
            go_loopw [20, 89] (fun _ jv wr => ∃ j : Nat, j ≤ ml.length ∧ jv = .int .i64 (j : Int) ∧ Hid (Dels w K t V0 w.heap.size wr j (.slice Am ml.length cm) ml vi si fl)) (fun _ jv _ => ml.length - (intOf jv).toNat)
            case atStart => exact ⟨0, by omega, rfl, Lib.hid ⟨by rw [List.take_zero]; exact HP.out.env, HP.out.tr, HP.out.nx, HP.out.row⟩⟩
            case round =>
              obtain ⟨j, hj, rfl, HD⟩ := hrel
              by_cases hjl : j < ml.length
              · have hjl' : (j : Int) < (ml.length : Int) := by omega
                obtain ⟨g, cg, eg, vb, hg1, hg2, hg3⟩ := own_at HD.out.row (by omega)
                injection eg with eg1 _ eg3
                subst eg1 eg3
                have cj := HD.out.row.cellAt j (by omega)
                rw [List.getElem?_map, List.getElem?_eq_getElem hjl] at cj
                simp only [Option.map_some, kStr] at cj
                have cs0 := HD.out.env.bs.cell 0
                obtain ⟨km, hmap⟩ := HD.out.env.map
                have HM := Lib.hid hmap
                have HR9 := Lib.hid (fun (w9 : World) (hT : Turns (K.S vi) wr w9) => own_turns HD.out.row hT (fun g hg => HD.out.env.farRow HD.out.row hg))
                simp only [List.getElem?_cons_zero] at cs0
                clear hmap
                unfold maxLen at hg3
                go_wp2_with (at_delete; refine wpl_delete _ rfl _ _ 45 9 rfl (str_keys Try.underlying9) Try.underlying45 HM.out ml[j] rfl rfl ?_; intro w9 hm9 ht9; have HM9 := Lib.hid hm9; have HT9 := Lib.hid ht9; clear hm9 ht9)
                have hmp := HD.out.env.mapped (delS (dropS si (ml.take j)).seen ml[j]) (MapIs.ext HM9.out (fun k => by unfold delS; by_cases hkk : k = ml[j] <;> simp [hkk])) HT9.out
                have e9 : dropS si (ml.take (j + 1)) = ⟨(dropS si (ml.take j)).at_, (dropS si (ml.take j)).made, delS (dropS si (ml.take j)).seen ml[j], (dropS si (ml.take j)).out⟩ := by
                  unfold dropS
                  rw [List.take_succ_eq_append_getElem hjl, List.foldl_append]
                  rfl
                refine ⟨⟨j + 1, by omega, by go_num, Lib.hid ⟨by rw [e9]; exact hmp.1, HD.out.tr.trans hmp.2 (fun i hi e => SK.next HD.out.nx hi e), HD.out.nx, HR9.out _ hmp.2⟩⟩, by simp [intOf]; omega⟩
              · obtain rfl : j = ml.length := by omega
                have hjl' : ¬ (ml.length : Int) < (ml.length : Int) := by omega
                go_wp2_with fail
                go_ret2
                have HDD := HD.out
                have hen := HDD.env
                rw [List.take_of_length_le (Nat.le_refl _)] at hen
                refine ⟨vi, HDD.tr, HDD.nx, ?_⟩
                have htt : go1 x k s = .error (si.at_, fl) := by rw [HG1.out, HTOT.out]
                rw [htt]
                exact ⟨_, _, dropS si ml, rfl, HFL.out, rfl, hen⟩
          · go_wp2_with fail
            go_loopw [20, 89] (fun _ jv wr => ∃ j : Nat, j ≤ ml.length ∧ jv = .int .i64 (j : Int) ∧ Hid (Dels w K t V0 w.heap.size wr j (.slice Am ml.length cm) ml vi si fl)) (fun _ jv _ => ml.length - (intOf jv).toNat)
            case atStart => exact ⟨0, by omega, rfl, Lib.hid ⟨by rw [List.take_zero]; exact HP.out.env, HP.out.tr, HP.out.nx, HP.out.row⟩⟩
            case round =>
              obtain ⟨j, hj, rfl, HD⟩ := hrel
              by_cases hjl : j < ml.length
              · have hjl' : (j : Int) < (ml.length : Int) := by omega
                obtain ⟨g, cg, eg, vb, hg1, hg2, hg3⟩ := own_at HD.out.row (by omega)
                injection eg with eg1 _ eg3
                subst eg1 eg3
                have cj := HD.out.row.cellAt j (by omega)
                rw [List.getElem?_map, List.getElem?_eq_getElem hjl] at cj
                simp only [Option.map_some, kStr] at cj
                have cs0 := HD.out.env.bs.cell 0
                obtain ⟨km, hmap⟩ := HD.out.env.map
                have HM := Lib.hid hmap
                have HR9 := Lib.hid (fun (w9 : World) (hT : Turns (K.S vi) wr w9) => own_turns HD.out.row hT (fun g hg => HD.out.env.farRow HD.out.row hg))
                simp only [List.getElem?_cons_zero] at cs0
                clear hmap
                unfold maxLen at hg3
                go_wp2_with (at_delete; refine wpl_delete _ rfl _ _ 45 9 rfl (str_keys Try.underlying9) Try.underlying45 HM.out ml[j] rfl rfl ?_; intro w9 hm9 ht9; have HM9 := Lib.hid hm9; have HT9 := Lib.hid ht9; clear hm9 ht9)
                have hmp := HD.out.env.mapped (delS (dropS si (ml.take j)).seen ml[j]) (MapIs.ext HM9.out (fun k => by unfold delS; by_cases hkk : k = ml[j] <;> simp [hkk])) HT9.out
                have e9 : dropS si (ml.take (j + 1)) = ⟨(dropS si (ml.take j)).at_, (dropS si (ml.take j)).made, delS (dropS si (ml.take j)).seen ml[j], (dropS si (ml.take j)).out⟩ := by
                  unfold dropS
                  rw [List.take_succ_eq_append_getElem hjl, List.foldl_append]
                  rfl
                refine ⟨⟨j + 1, by omega, by go_num, Lib.hid ⟨by rw [e9]; exact hmp.1, HD.out.tr.trans hmp.2 (fun i hi e => SK.next HD.out.nx hi e), HD.out.nx, HR9.out _ hmp.2⟩⟩, by simp [intOf]; omega⟩
              · obtain rfl : j = ml.length := by omega
                have hjl' : ¬ (ml.length : Int) < (ml.length : Int) := by omega
                go_wp2_with fail
                go_ret2
                have HDD := HD.out
                have hen := HDD.env
                rw [List.take_of_length_le (Nat.le_refl _)] at hen
                refine ⟨vi, HDD.tr, HDD.nx, ?_⟩
                have htt : go1 x k s = .error (si.at_, fl) := by rw [HG1.out, HTOT.out]
                rw [htt]
                exact ⟨_, _, dropS si ml, rfl, HFL.out, rfl, hen⟩
    · have hf0 : ¬ (fl0 : Int) = 0 := by omega
      have hfb : ((fl0 : Int) != 0) = true := by simpa using hf
      rw [if_neg hf] at hT
      have HG1 : Hid (go1 x k s = .error (s.at_, fl0)) := Lib.hid (by unfold go1; rw [hT])
      have HF0 := Lib.hid hf
      have HSA := Lib.hid hsa.1
      clear hT hsa hf
      go_wp2_with fail
      go_ret2
      refine ⟨v1, HC.out.2.2.1, HC.out.2.2.2, ?_⟩
      rw [HG1.out]
      exact ⟨_, _, s1, rfl, HF0.out, HSA.out, HC.out.1⟩
theorem slw_any (K : SK) (t : List Tw) : ∀ (r : Nat) (w : World) (v : Value) (x : Tw) (k : Fo) (s : Sl), k.size < r → SEnv w K t v s 0 → Stands t s.at_ (.cons x k .nil) → (Fo.cons x k .nil).ok → (Fo.cons x k .nil).named → s.Ok →
    Calls Try.prog 25 K.wcaps w (SlY w K t v x s (go1 x k s)) := by
  intro r
  induction r with
  | zero => intro w v x k s h; omega
  | succ r ih =>
    intro w v x k s hr h hst hok hnm hs
    exact slw_step w K t v x k s h hst hok hnm hs fun w v y k' s hk h1 h2 h3 h4 h5 => ih w v y k' s (by omega) h1 h2 h3 h4 h5
end Go.Proofs.Ytmacmejpcpdnnaa
