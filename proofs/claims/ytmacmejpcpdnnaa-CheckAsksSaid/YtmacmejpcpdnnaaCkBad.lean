/- check: the walk at a twig that may not stand there. -/
import Derived.Test.YtmacmejpcpdnnaaCkMayF
namespace Go.Proofs.Ytmacmejpcpdnnaa
open Go.RowKit
attribute [local go_sem] run_store_fn' run_store_nf'

theorem walk_none (w : World) (K : Ck) (t : List Tw) (dp : Int) (at_ level : Nat) (m : May) (fid : Nat) (cs : Array Value) (h : Env w K t (-1) dp) (hlt : at_ < t.length) (hf : formT t[at_].op = none) :
    Calls Try.prog 33 (#[.int .i64 (at_ : Int), .int .i64 (level : Int), .func (.func fid) #[] cs] ++ K.caps) w (WalkY w K t (.error at_)) := by
  have hn := h.tw.len
  have hm := h.most
  obtain ⟨hc1, hc2⟩ := h.cap
  have cT := h.bt.cell 0
  have cM := h.bm.cell 0
  have cW := h.bw.cell 0
  have fW := h.bw.fz 0
  obtain ⟨nn, hT⟩ := h.tab
  have HT := Lib.hid hT
  clear hT
  obtain ⟨b, o, ea, hbB, hbl, c0, c1, c2, c3⟩ := h.tw.cell at_ hlt
  obtain ⟨w1, w2, w3, w4⟩ := h.tw.wf at_ hlt
  have HE := Lib.hid h
  have gM : ∀ o, (w.alloc o).cell? ⟨K.Bm, 0, none⟩ = _ := fun o => (h.bm.alloc o).cell 0
  have gW : ∀ o o2, ((w.alloc o).alloc o2).cell? ⟨K.Bw, 0, none⟩ = _ := fun o o2 => ((h.bw.alloc o).alloc o2).cell 0
  have gF : ∀ o o2, ((w.alloc o).alloc o2).frozen? ⟨K.Bw, 0, none⟩ = _ := fun o o2 => ((h.bw.alloc o).alloc o2).fz 0
  clear h
  obtain ⟨B, a, n, c, Bt, Bw, Bm, Bd, Bk, M⟩ := K
  unfold Ck.caps
  simp only [List.getElem?_cons_zero] at cT cW cM gM gW gF hn hm hc1 hc2 ea
  subst hn ea
  have HF := Lib.hid hf
  clear hf
  generalize hx : t[at_] = x at *
  clear hx
  have h1 : ¬ (t.length : Int) ≤ (at_ : Int) := by omega
  have h2 : (at_ : Int) < (t.length : Int) := by omega
  go_enter Try.func33, Try.ntmps33
  go_wp2_with (at_lookup; refine wpl_lookup _ rfl _ _ 62 true rfl (u8_keys Try.underlying5) Try.underlying62 (HT.out.alloc _) x.op (Value.agg #[.nilFunc, .int .i64 0, .int .i64 0, .nilFunc]) (zeroForm _) rfl rfl ?_; rw [HF.out]; simp only [Option.map_none, Option.getD_none, Option.isSome_none])
  go_ret
  exact ⟨(((Turns.refl _ w).alloc _).alloc _).set _ _ (fun _ => .inl rfl), _, dp, rfl, (HE.out.past (Below.new2 w _ _)).wrong _⟩
set_option maxRecDepth 20000 in
set_option maxHeartbeats 3200000 in
theorem walk_bad (w : World) (K : Ck) (t : List Tw) (dp : Int) (at_ level : Nat) (m : May) (fid : Nat) (cs : Array Value) (fm : Form) (hmay : MayF w K m fid cs) (h : Env w K t (-1) dp) (hlt : at_ < t.length) (hf : formT t[at_].op = some fm) (hg : goodB m t[at_] = false) :
    Calls Try.prog 33 (#[.int .i64 (at_ : Int), .int .i64 (level : Int), .func (.func fid) #[] cs] ++ K.caps) w (WalkY w K t (.error at_)) := by
  have hn := h.tw.len
  have hm := h.most
  obtain ⟨hc1, hc2⟩ := h.cap
  have cT := h.bt.cell 0
  have cM := h.bm.cell 0
  have cW := h.bw.cell 0
  have fW := h.bw.fz 0
  obtain ⟨nn, hT⟩ := h.tab
  have HT := Lib.hid hT
  clear hT
  obtain ⟨b, o, ea, hbB, hbl, c0, c1, c2, c3⟩ := h.tw.cell at_ hlt
  obtain ⟨w1, w2, w3, w4⟩ := h.tw.wf at_ hlt
  have HE := Lib.hid h
  have gM : ∀ o, (w.alloc o).cell? ⟨K.Bm, 0, none⟩ = _ := fun o => (h.bm.alloc o).cell 0
  have gW : ∀ o o2, ((w.alloc o).alloc o2).cell? ⟨K.Bw, 0, none⟩ = _ := fun o o2 => ((h.bw.alloc o).alloc o2).cell 0
  have gF : ∀ o o2, ((w.alloc o).alloc o2).frozen? ⟨K.Bw, 0, none⟩ = _ := fun o o2 => ((h.bw.alloc o).alloc o2).fz 0
  clear h
  obtain ⟨B, a, n, c, Bt, Bw, Bm, Bd, Bk, M⟩ := K
  unfold Ck.caps
  simp only [List.getElem?_cons_zero] at cT cW cM gM gW gF hn hm hc1 hc2 ea
  subst hn ea
  have HF := Lib.hid hf
  clear hf
  generalize hx : t[at_] = x at *
  clear hx
  have hen := hmay.en
  have HMAY := Lib.hid hmay
  clear hmay
  have het := txt_enters fm.txt
  have HTX := Lib.hid (txt_any fm.txt x.text w4)
  unfold goodB at hg
  rw [HF.out] at hg
  simp only at hg
  have hV : formV fm = .agg #[.func (.func (txtF fm.txt)) #[] #[], .int .i64 fm.least, .int .i64 fm.most, .func (.func (prtF fm.prt)) #[] #[]] := rfl
  have hle := formT_lm HF.out
  generalize txtB fm.txt x.text = b2 at *
  generalize txtF fm.txt = tf at *
  generalize prtF fm.prt = pf at *
  generalize hb1 : m.ok x.op = b1 at *
  have HB1 := Lib.hid hb1
  clear hb1
  have HV := Lib.hid hV
  clear hV
  obtain ⟨hl1, hl2⟩ := hle
  have h1 : ¬ (t.length : Int) ≤ (at_ : Int) := by omega
  have h2 : (at_ : Int) < (t.length : Int) := by omega
  cases b1
  case false =>
    clear hg
    go_enter Try.func33, Try.ntmps33
    go_wp2_with ((at_lookup; refine wpl_lookup _ rfl _ _ 62 true rfl (u8_keys Try.underlying5) Try.underlying62 (HT.out.alloc _) x.op (Value.agg #[.nilFunc, .int .i64 0, .int .i64 0, .nilFunc]) (zeroForm _) rfl rfl ?_; rw [HF.out]; simp only [Option.map_some, Option.getD_some, Option.isSome_some]; rw [HV.out]))
    refine (HMAY.out.ask _ (((Turns.refl _ w).alloc _).alloc _) x.op).mono ?_
    rintro e wn ⟨rfl, rfl⟩
    rw [HB1.out]
    go_wp2_with fail
    go_ret
    exact ⟨(((Turns.refl _ w).alloc _).alloc _).set _ _ (fun _ => .inl rfl), _, dp, rfl, (HE.out.past (Below.new2 w _ _)).wrong _⟩
  case true =>
    cases b2
    case false =>
      clear hg
      go_enter Try.func33, Try.ntmps33
      go_wp2_with ((at_lookup; refine wpl_lookup _ rfl _ _ 62 true rfl (u8_keys Try.underlying5) Try.underlying62 (HT.out.alloc _) x.op (Value.agg #[.nilFunc, .int .i64 0, .int .i64 0, .nilFunc]) (zeroForm _) rfl rfl ?_; rw [HF.out]; simp only [Option.map_some, Option.getD_some, Option.isSome_some]; rw [HV.out]))
      refine (HMAY.out.ask _ (((Turns.refl _ w).alloc _).alloc _) x.op).mono ?_
      rintro e wn ⟨rfl, rfl⟩
      rw [HB1.out]
      go_wp2_with fail
      refine (HTX.out _).mono ?_
      rintro e wn ⟨rfl, rfl⟩
      go_wp2_with fail
      go_ret
      exact ⟨(((Turns.refl _ w).alloc _).alloc _).set _ _ (fun _ => .inl rfl), _, dp, rfl, (HE.out.past (Below.new2 w _ _)).wrong _⟩
    case true =>
      by_cases k1 : x.kids < fm.least
      · clear hg
        go_enter Try.func33, Try.ntmps33
        go_wp2_with ((at_lookup; refine wpl_lookup _ rfl _ _ 62 true rfl (u8_keys Try.underlying5) Try.underlying62 (HT.out.alloc _) x.op (Value.agg #[.nilFunc, .int .i64 0, .int .i64 0, .nilFunc]) (zeroForm _) rfl rfl ?_; rw [HF.out]; simp only [Option.map_some, Option.getD_some, Option.isSome_some]; rw [HV.out]))
        refine (HMAY.out.ask _ (((Turns.refl _ w).alloc _).alloc _) x.op).mono ?_
        rintro e wn ⟨rfl, rfl⟩
        rw [HB1.out]
        go_wp2_with fail
        refine (HTX.out _).mono ?_
        rintro e wn ⟨rfl, rfl⟩
        go_wp2_with fail
        go_ret
        exact ⟨(((Turns.refl _ w).alloc _).alloc _).set _ _ (fun _ => .inl rfl), _, dp, rfl, (HE.out.past (Below.new2 w _ _)).wrong _⟩
      · by_cases k2 : fm.most < x.kids
        · clear hg
          go_enter Try.func33, Try.ntmps33
          go_wp2_with ((at_lookup; refine wpl_lookup _ rfl _ _ 62 true rfl (u8_keys Try.underlying5) Try.underlying62 (HT.out.alloc _) x.op (Value.agg #[.nilFunc, .int .i64 0, .int .i64 0, .nilFunc]) (zeroForm _) rfl rfl ?_; rw [HF.out]; simp only [Option.map_some, Option.getD_some, Option.isSome_some]; rw [HV.out]))
          refine (HMAY.out.ask _ (((Turns.refl _ w).alloc _).alloc _) x.op).mono ?_
          rintro e wn ⟨rfl, rfl⟩
          rw [HB1.out]
          go_wp2_with fail
          refine (HTX.out _).mono ?_
          rintro e wn ⟨rfl, rfl⟩
          go_wp2_with fail
          go_ret
          exact ⟨(((Turns.refl _ w).alloc _).alloc _).set _ _ (fun _ => .inl rfl), _, dp, rfl, (HE.out.past (Below.new2 w _ _)).wrong _⟩
        · by_cases k3 : x.int < 0
          · clear hg
            by_cases k4 : (x.op : Int) = 23
            · have k5 := Lib.hid k4
              go_enter Try.func33, Try.ntmps33
              go_wp2_with ((at_lookup; refine wpl_lookup _ rfl _ _ 62 true rfl (u8_keys Try.underlying5) Try.underlying62 (HT.out.alloc _) x.op (Value.agg #[.nilFunc, .int .i64 0, .int .i64 0, .nilFunc]) (zeroForm _) rfl (by show Value.int .u8 23 = kU8 x.op; unfold kU8; rw [k5.out]) ?_; rw [HF.out]; simp only [Option.map_some, Option.getD_some, Option.isSome_some]; rw [HV.out]))
              have HASK := HMAY.out.ask _ (((Turns.refl _ w).alloc (.cells #[.int .u8 23, .int .i64 x.kids, .int .i64 x.int, .string x.text] 34)).alloc (.cells #[.func (.func tf) #[] #[], .int .i64 fm.least, .int .i64 fm.most, .func (.func pf) #[] #[]] 68)) x.op
              rw [k5.out] at HASK
              refine HASK.mono ?_
              rintro e wn ⟨rfl, rfl⟩
              rw [HB1.out]
              go_wp2_with fail
              refine (HTX.out _).mono ?_
              rintro e wn ⟨rfl, rfl⟩
              go_wp2_with fail
              go_ret
              exact ⟨(((Turns.refl _ w).alloc _).alloc _).set _ _ (fun _ => .inl rfl), _, dp, rfl, (HE.out.past (Below.new2 w _ _)).wrong _⟩
            · have k6 : ¬ x.int = 0 := by omega
              go_enter Try.func33, Try.ntmps33
              go_wp2_with ((at_lookup; refine wpl_lookup _ rfl _ _ 62 true rfl (u8_keys Try.underlying5) Try.underlying62 (HT.out.alloc _) x.op (Value.agg #[.nilFunc, .int .i64 0, .int .i64 0, .nilFunc]) (zeroForm _) rfl rfl ?_; rw [HF.out]; simp only [Option.map_some, Option.getD_some, Option.isSome_some]; rw [HV.out]))
              refine (HMAY.out.ask _ (((Turns.refl _ w).alloc _).alloc _) x.op).mono ?_
              rintro e wn ⟨rfl, rfl⟩
              rw [HB1.out]
              go_wp2_with fail
              refine (HTX.out _).mono ?_
              rintro e wn ⟨rfl, rfl⟩
              go_wp2_with fail
              go_ret
              exact ⟨(((Turns.refl _ w).alloc _).alloc _).set _ _ (fun _ => .inl rfl), _, dp, rfl, (HE.out.past (Below.new2 w _ _)).wrong _⟩
          · have k4 : ¬ (x.op : Int) = 23 := fun e => by
              have : x.op = 23 := by omega
              simp [k1, k2, k3, this] at hg
            have k6 : ¬ x.int = 0 := fun e => by simp [k1, k2, e] at hg
            clear hg
            go_enter Try.func33, Try.ntmps33
            go_wp2_with ((at_lookup; refine wpl_lookup _ rfl _ _ 62 true rfl (u8_keys Try.underlying5) Try.underlying62 (HT.out.alloc _) x.op (Value.agg #[.nilFunc, .int .i64 0, .int .i64 0, .nilFunc]) (zeroForm _) rfl rfl ?_; rw [HF.out]; simp only [Option.map_some, Option.getD_some, Option.isSome_some]; rw [HV.out]))
            refine (HMAY.out.ask _ (((Turns.refl _ w).alloc _).alloc _) x.op).mono ?_
            rintro e wn ⟨rfl, rfl⟩
            rw [HB1.out]
            go_wp2_with fail
            refine (HTX.out _).mono ?_
            rintro e wn ⟨rfl, rfl⟩
            go_wp2_with fail
            go_ret
            exact ⟨(((Turns.refl _ w).alloc _).alloc _).set _ _ (fun _ => .inl rfl), _, dp, rfl, (HE.out.past (Below.new2 w _ _)).wrong _⟩

end Go.Proofs.Ytmacmejpcpdnnaa
