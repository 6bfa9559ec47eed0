/- check: the walk at a twig that may stand there. -/
import Derived.Test.YtmacmejpcpdnnaaCkMayF
namespace Go.Proofs.Ytmacmejpcpdnnaa
open Go.RowKit
attribute [local go_sem] run_store_fn' run_store_nf'

/-- the number that a pointer leads to -/
def atI (w : World) : Value → Int
  | .pointer (some p) => match w.cell? p with | some v => intOf v | none => 0
  | _ => 0
theorem atI_blk {w : World} {I : Nat} {ty : TypeId} {i : Int} (h : Blk w I ty [.int .i64 i]) : atI w (.pointer (some ⟨I, 0, none⟩)) = i := by
  have := h.cell 0
  simp only [List.getElem?_cons_zero] at this
  simp only [atI, this, intOf]
theorem Blk.newAt {W : World} {n : Nat} (h : W.heap.size = n) (t : TypeId) (cs : List Value) : Blk (W.alloc (.cells cs.toArray t)) n t cs := h ▸ Blk.new W t cs
/-- what the parts' loop keeps -/
structure Kids (w : World) (K : Ck) (t : List Tw) (x : Tw) (fm : Form) (tot : Except Nat (Nat × Option Nat)) (level F X : Nat) (wr : World) (a I : Nat) (i : Nat) (wrg : Int) (dp : Int) : Prop where
  tr : Turns K.S w wr
  env : Env wr K t wrg dp
  bF : Blk wr F 68 (formC fm)
  bX : Blk wr X 34 (twC x)
  bI : Blk wr I 3 [.int .i64 (i : Int)]
  nI : ¬ K.S I
  st : (wrg = -1 ∧ a ≤ t.length ∧ ∃ d, dp = dI d ∧ tot = ckr t a (level + 1) (.of x.op i x.kids) (x.kids - i).toNat d) ∨ (∃ p : Nat, wrg = (p : Int) ∧ tot = .error p)
set_option maxRecDepth 20000 in
set_option maxHeartbeats 25600000 in
theorem walk_good (w : World) (K : Ck) (t : List Tw) (d : Option Nat) (at_ level : Nat) (m : May) (fid : Nat) (cs : Array Value) (fm : Form) (hmay : MayF w K m fid cs) (h : Env w K t (-1) (dI d)) (hlt : at_ < t.length) (hlv : level ≤ at_ + 1) (hf : formT t[at_].op = some fm) (hg : goodB m t[at_] = true)
    (hih : ∀ (w : World) (a fid : Nat) (cs : Array Value) (m : May) (d : Option Nat), at_ < a → a ≤ t.length → Env w K t (-1) (dI d) → MayF w K m fid cs →
      Calls Try.prog 33 (#[.int .i64 (a : Int), .int .i64 (level + 1 : Int), .func (.func fid) #[] cs] ++ K.caps) w (WalkY w K t (ckr t a (level + 1) m 1 d))) :
    Calls Try.prog 33 (#[.int .i64 (at_ : Int), .int .i64 (level : Int), .func (.func fid) #[] cs] ++ K.caps) w (WalkY w K t (ckr t at_ level m 1 d)) := by
  have htot : ckr t at_ level m 1 d = ckr t (at_ + 1) (level + 1) (.of t[at_].op 0 t[at_].kids) t[at_].kids.toNat (deepAt at_ level d) := by
    rw [ckr_good (n := 0) hlt hg]
    cases ckr t (at_ + 1) (level + 1) (.of t[at_].op 0 t[at_].kids) t[at_].kids.toNat (deepAt at_ level d) with
    | error e => rfl
    | ok q => obtain ⟨a1, d1⟩ := q; simp only [ckr_zero]
  have hkids := goodB_kids hg
  have HTOT := Lib.hid htot
  clear htot
  generalize hq : ckr t at_ level m 1 d = tot at *
  clear hq
  have hn := h.tw.len
  have hm := h.most
  obtain ⟨hc1, hc2⟩ := h.cap
  have cT := h.bt.cell 0
  have cM := h.bm.cell 0
  obtain ⟨nn, hT⟩ := h.tab
  have HT := Lib.hid hT
  clear hT
  obtain ⟨b, o, ea, hbB, hbl, c0, c1, c2, c3⟩ := h.tw.cell at_ hlt
  obtain ⟨w1, w2, w3, w4⟩ := h.tw.wf at_ hlt
  have HE := Lib.hid h
  have gM : ∀ o, (w.alloc o).cell? ⟨K.Bm, 0, none⟩ = _ := fun o => (h.bm.alloc o).cell 0
  have gW : ∀ o o2, ((w.alloc o).alloc o2).cell? ⟨K.Bw, 0, none⟩ = _ := fun o o2 => ((h.bw.alloc o).alloc o2).cell 0
  have gD : ∀ o o2, ((w.alloc o).alloc o2).cell? ⟨K.Bd, 0, none⟩ = _ := fun o o2 => ((h.bd.alloc o).alloc o2).cell 0
  have gF : ∀ o o2, ((w.alloc o).alloc o2).frozen? ⟨K.Bd, 0, none⟩ = _ := fun o o2 => ((h.bd.alloc o).alloc o2).fz 0
  clear h
  have HIH := Lib.hid hih
  clear hih
  obtain ⟨B, a, n, c, Bt, Bw, Bm, Bd, Bk, M⟩ := K
  unfold Ck.caps
  simp only [List.getElem?_cons_zero] at cT cM gM gW gD gF hn hm hc1 hc2 ea
  subst hn ea
  have HF := Lib.hid hf
  clear hf
  generalize hx : t[at_] = x at *
  clear hx
  have h1 : ¬ (t.length : Int) ≤ (at_ : Int) := by omega
  have h2 : (at_ : Int) < (t.length : Int) := by omega
  have hen := hmay.en
  have HMAY := Lib.hid hmay
  clear hmay
  have het := txt_enters fm.txt
  have HTX := Lib.hid (txt_any fm.txt x.text w4)
  unfold goodB at hg
  rw [HF.out] at hg
  simp only [Bool.and_eq_true, Bool.not_eq_true', decide_eq_false_iff_not] at hg
  obtain ⟨⟨⟨⟨⟨g1, g2⟩, g3⟩, g4⟩, g5⟩, g6⟩ := hg
  have HB1 := Lib.hid g1
  clear g1
  rw [g2] at HTX
  clear g2
  have hV : formV fm = .agg #[.func (.func (txtF fm.txt)) #[] #[], .int .i64 fm.least, .int .i64 fm.most, .func (.func (prtF fm.prt)) #[] #[]] := rfl
  have HV := Lib.hid hV
  clear hV
  have HC := Lib.hid (show formC fm = [.func (.func (txtF fm.txt)) #[] #[], .int .i64 fm.least, .int .i64 fm.most, .func (.func (prtF fm.prt)) #[] #[]] from rfl)
  generalize txtF fm.txt = tf at *
  generalize prtF fm.prt = pf at *
  obtain ⟨hk1, hk2⟩ := hkids
  have hd0 : dI d < 0 ∨ (0 ≤ dI d ∧ ∃ p : Nat, d = some p) := by
    cases d with
    | none => left; decide
    | some p => right; exact ⟨by simp only [dI]; omega, p, rfl⟩
  generalize hdd : dI d = dp at *
  have HDD := Lib.hid hdd
  clear hdd
  go_enter Try.func33, Try.ntmps33
  go_wp2_with ((at_lookup; refine wpl_lookup _ rfl _ _ 62 true rfl (u8_keys Try.underlying5) Try.underlying62 (HT.out.alloc _) x.op (Value.agg #[.nilFunc, .int .i64 0, .int .i64 0, .nilFunc]) (zeroForm _) rfl rfl ?_; rw [HF.out]; simp only [Option.map_some, Option.getD_some, Option.isSome_some]; rw [HV.out]))
  refine (HMAY.out.ask _ (((Turns.refl _ w).alloc _).alloc _) x.op).mono ?_
  rintro e wn ⟨rfl, rfl⟩
  rw [HB1.out]
  go_wp2_with fail
  refine (HTX.out _).mono ?_
  rintro e wn ⟨rfl, rfl⟩
  have k23 : ((x.op : Int) = 23 ∧ 0 ≤ x.int) ∨ (¬ (x.op : Int) = 23 ∧ x.int = 0) := by
    by_cases e : x.op = 23
    · left; omega
    · right
      refine ⟨by omega, ?_⟩
      simpa [e] using g5
  clear g5
  rcases k23 with ⟨k4, k6⟩ | ⟨k4, k6⟩ <;> by_cases l1 : (40 : Int) < (level : Int) <;> rcases hd0 with l2 | ⟨l2, _⟩
  · go_wp2_with fail
    go_loopw [15, 16] (fun nv iv wr => ∃ (a I i : Nat) (nx wrg dp' : Int), nv = .int .i64 nx ∧ iv = .pointer (some ⟨I, 0, none⟩) ∧ (wrg = -1 → nx = (a : Int)) ∧ at_ < a ∧ (i : Int) ≤ x.kids ∧ Hid (Kids w ⟨B, some ⟨b, o, none⟩, t.length, c, Bt, Bw, Bm, Bd, Bk, M⟩ t x fm tot level (w.heap.size + 1) w.heap.size wr a I i wrg dp')) (fun _ iv wr => (x.kids - atI wr iv).toNat)
    case atStart =>
      have lw := HE.out.bw.lt
      have ld := HE.out.bd.lt
      have hX : twC x = [.int .u8 23, .int .i64 x.kids, .int .i64 x.int, .string x.text] := by unfold twC; rw [k4]
      have hdn : d = none := by
        cases d with
        | none => rfl
        | some p => have := HDD.out; simp only [dI] at this; omega
      refine ⟨at_ + 1, w.heap.size + 1 + 1, 0, _, -1, (at_ : Int), rfl, rfl, fun _ => (by simp), by omega, by simpa using hk1, Lib.hid ⟨(((((Turns.refl _ w).alloc _).alloc _).set _ _ (fun _ => .inr rfl)).alloc _), (((HE.out.past (Below.new2 w _ _)).deep _).past (Below.new _ _)), ?_, ?_, ?_, ?_, .inl ⟨rfl, hlt, some at_, rfl, ?_⟩⟩⟩
      · rw [HC.out]
        exact ((Blk.new2 w _ 68 _).far (by show w.heap.size + 1 ≠ Bd; simp only at ld; omega) _).alloc _
      · rw [hX]
        exact (((Blk.new w 34 _).alloc _).far (by show w.heap.size ≠ Bd; simp only at ld; omega) _).alloc _
      · exact Blk.newAt (by simp [World.setCell]) 3 [.int .i64 0]
      · rintro (e | e) <;> simp only at e lw ld <;> omega
      · rw [HTOT.out, hdn]
        have l3 : 40 < level := by omega
        simp [deepAt, l3]
    case round =>
      obtain ⟨a, I, i, nx, wrg, dp', rfl, rfl, hnx, ha, hi, hK⟩ := hrel
      have cX := hK.out.bX.cell 1
      have cI := hK.out.bI.cell 0
      have cW := hK.out.env.bw.cell 0
      have cK := hK.out.env.bk.cell 0
      unfold twC at cX
      simp only [List.getElem?_cons_zero, List.getElem?_cons_succ] at cX cI cW cK
      rcases hK.out.st with ⟨rfl, hal, d', hd', htt⟩ | ⟨p, rfl, htt⟩
      · obtain rfl := hnx rfl
        by_cases hlt1 : (i : Int) < x.kids
        · have lw := HE.out.bw.lt
          have ld := HE.out.bd.lt
          have nF : ¬ (⟨B, some ⟨b, o, none⟩, t.length, c, Bt, Bw, Bm, Bd, Bk, M⟩ : Ck).S (w.heap.size + 1) := by rintro (e | e) <;> simp only at e lw ld <;> omega
          have nX : ¬ (⟨B, some ⟨b, o, none⟩, t.length, c, Bt, Bw, Bm, Bd, Bk, M⟩ : Ck).S w.heap.size := by rintro (e | e) <;> simp only at e lw ld <;> omega
          subst hd'
          have hcall := HIH.out wr a 34 _ _ d' ha hal hK.out.env (MayF.of HF.out ⟨(by omega : (0 : Int) ≤ (i : Int)), by omega⟩ ⟨hk1, by omega⟩ hK.out.bF hK.out.bI hK.out.bX nF hK.out.nI nX)
          rw [show (x.kids - (i : Int)).toNat = (x.kids - ((i + 1 : Nat) : Int)).toNat + 1 from by omega, ckr_one] at htt
          clear gM gW gD gF hnx
          have hw1 : wr.heap.size ≤ wr.heap.size := Nat.le_refl _
          rcases hq : ckr t a (level + 1) (.of x.op i x.kids) 1 d' with ep | ⟨a2, d2⟩
          · rw [hq] at hcall htt
            have HCALL := Lib.hid hcall
            have HTT := Lib.hid htt
            clear hcall htt hq
            go_wp2_with (go_at_call 33; refine HCALL.out.mono ?_; rintro e wn ⟨hT, v, dp2, rfl, hEn⟩; have HT2 := Lib.hid hT; have HE2 := Lib.hid hEn; have cI2 := (hK.out.bI.turns HT2.out hK.out.nI).cell 0; simp only [List.getElem?_cons_zero] at cI2; clear hT hEn)
            have nI2 : ¬ (⟨B, some ⟨b, o, none⟩, t.length, c, Bt, Bw, Bm, Bd, Bk, M⟩ : Ck).S wn.heap.size := by
              have e1 := HE2.out.bw.lt
              have e2 := HE2.out.bd.lt
              rintro (e | e) <;> simp only at e e1 e2 <;> omega
            have hIw : Blk (wn.alloc (.cells #[.int .i64 ((i : Int) + 1)] 3)) wn.heap.size 3 [.int .i64 (((i + 1 : Nat) : Int))] := Blk.new wn 3 [.int .i64 ((i : Int) + 1)]
            refine ⟨⟨a, wn.heap.size, i + 1, v, (ep : Int), dp2, rfl, rfl, fun e => (by omega), ha, by omega, Lib.hid ⟨(hK.out.tr.then HT2.out).alloc _, HE2.out.past (Below.new _ _), (hK.out.bF.turns HT2.out nF).alloc _, (hK.out.bX.turns HT2.out nX).alloc _, hIw, nI2, .inr ⟨ep, rfl, HTT.out⟩⟩⟩, ?_⟩
            rw [atI_blk hIw, atI_blk hK.out.bI]
            omega
          · have hle := ckr_le hal hq
            rw [hq] at hcall htt
            have HCALL := Lib.hid hcall
            have HTT := Lib.hid htt
            clear hcall htt hq
            go_wp2_with (go_at_call 33; refine HCALL.out.mono ?_; rintro e wn ⟨hT, rfl, hEn⟩; have HT2 := Lib.hid hT; have HE2 := Lib.hid hEn; have cI2 := (hK.out.bI.turns HT2.out hK.out.nI).cell 0; simp only [List.getElem?_cons_zero] at cI2; clear hT hEn)
            have nI2 : ¬ (⟨B, some ⟨b, o, none⟩, t.length, c, Bt, Bw, Bm, Bd, Bk, M⟩ : Ck).S wn.heap.size := by
              have e1 := HE2.out.bw.lt
              have e2 := HE2.out.bd.lt
              rintro (e | e) <;> simp only at e e1 e2 <;> omega
            have hIw : Blk (wn.alloc (.cells #[.int .i64 ((i : Int) + 1)] 3)) wn.heap.size 3 [.int .i64 (((i + 1 : Nat) : Int))] := Blk.new wn 3 [.int .i64 ((i : Int) + 1)]
            refine ⟨⟨a2, wn.heap.size, i + 1, _, -1, dI d2, rfl, rfl, fun _ => rfl, by omega, by omega, Lib.hid ⟨(hK.out.tr.then HT2.out).alloc _, HE2.out.past (Below.new _ _), (hK.out.bF.turns HT2.out nF).alloc _, (hK.out.bX.turns HT2.out nX).alloc _, hIw, nI2, .inl ⟨rfl, hle.2.1, d2, rfl, HTT.out⟩⟩⟩, ?_⟩
            rw [atI_blk hIw, atI_blk hK.out.bI]
            omega
        · have HTT := Lib.hid htt
          clear htt hnx
          clear gM gW gD gF
          go_wp2_with fail
          go_ret
          rw [HTT.out, show (x.kids - i).toNat = 0 from by omega, ckr_zero]
          exact ⟨hK.out.tr, rfl, hd' ▸ hK.out.env⟩
      · have HTT := Lib.hid htt
        clear htt hnx
        clear gM gW gD gF
        by_cases hlt1 : (i : Int) < x.kids
        · go_wp2_with fail
          go_ret
          rw [HTT.out]
          exact ⟨hK.out.tr, _, _, rfl, hK.out.env⟩
        · go_wp2_with fail
          go_ret
          rw [HTT.out]
          exact ⟨hK.out.tr, _, _, rfl, hK.out.env⟩
  · go_wp2_with fail
    go_loopw [15, 16] (fun nv iv wr => ∃ (a I i : Nat) (nx wrg dp' : Int), nv = .int .i64 nx ∧ iv = .pointer (some ⟨I, 0, none⟩) ∧ (wrg = -1 → nx = (a : Int)) ∧ at_ < a ∧ (i : Int) ≤ x.kids ∧ Hid (Kids w ⟨B, some ⟨b, o, none⟩, t.length, c, Bt, Bw, Bm, Bd, Bk, M⟩ t x fm tot level (w.heap.size + 1) w.heap.size wr a I i wrg dp')) (fun _ iv wr => (x.kids - atI wr iv).toNat)
    case atStart =>
      have lw := HE.out.bw.lt
      have ld := HE.out.bd.lt
      have hX : twC x = [.int .u8 23, .int .i64 x.kids, .int .i64 x.int, .string x.text] := by unfold twC; rw [k4]
      have hde : deepAt at_ level d = d := by
        unfold deepAt
        rw [if_neg]
        rintro ⟨h, h'⟩
        have := HDD.out
        rw [h'] at this
        simp only [dI] at this
        omega
      refine ⟨at_ + 1, w.heap.size + 1 + 1, 0, _, -1, dp, rfl, rfl, fun _ => (by simp), by omega, by simpa using hk1, Lib.hid ⟨((((Turns.refl _ w).alloc _).alloc _).alloc _), ((HE.out.past (Below.new2 w _ _)).past (Below.new _ _)), ?_, ?_, ?_, ?_, .inl ⟨rfl, hlt, d, HDD.out.symm, ?_⟩⟩⟩
      · rw [HC.out]
        exact (Blk.new2 w _ 68 _).alloc _
      · rw [hX]
        exact ((Blk.new w 34 _).alloc _).alloc _
      · exact Blk.newAt (by simp) 3 [.int .i64 0]
      · rintro (e | e) <;> simp only at e lw ld <;> omega
      · rw [HTOT.out, hde]
        simp
    case round =>
      obtain ⟨a, I, i, nx, wrg, dp', rfl, rfl, hnx, ha, hi, hK⟩ := hrel
      have cX := hK.out.bX.cell 1
      have cI := hK.out.bI.cell 0
      have cW := hK.out.env.bw.cell 0
      have cK := hK.out.env.bk.cell 0
      unfold twC at cX
      simp only [List.getElem?_cons_zero, List.getElem?_cons_succ] at cX cI cW cK
      rcases hK.out.st with ⟨rfl, hal, d', hd', htt⟩ | ⟨p, rfl, htt⟩
      · obtain rfl := hnx rfl
        by_cases hlt1 : (i : Int) < x.kids
        · have lw := HE.out.bw.lt
          have ld := HE.out.bd.lt
          have nF : ¬ (⟨B, some ⟨b, o, none⟩, t.length, c, Bt, Bw, Bm, Bd, Bk, M⟩ : Ck).S (w.heap.size + 1) := by rintro (e | e) <;> simp only at e lw ld <;> omega
          have nX : ¬ (⟨B, some ⟨b, o, none⟩, t.length, c, Bt, Bw, Bm, Bd, Bk, M⟩ : Ck).S w.heap.size := by rintro (e | e) <;> simp only at e lw ld <;> omega
          subst hd'
          have hcall := HIH.out wr a 34 _ _ d' ha hal hK.out.env (MayF.of HF.out ⟨(by omega : (0 : Int) ≤ (i : Int)), by omega⟩ ⟨hk1, by omega⟩ hK.out.bF hK.out.bI hK.out.bX nF hK.out.nI nX)
          rw [show (x.kids - (i : Int)).toNat = (x.kids - ((i + 1 : Nat) : Int)).toNat + 1 from by omega, ckr_one] at htt
          clear gM gW gD gF hnx
          have hw1 : wr.heap.size ≤ wr.heap.size := Nat.le_refl _
          rcases hq : ckr t a (level + 1) (.of x.op i x.kids) 1 d' with ep | ⟨a2, d2⟩
          · rw [hq] at hcall htt
            have HCALL := Lib.hid hcall
            have HTT := Lib.hid htt
            clear hcall htt hq
            go_wp2_with (go_at_call 33; refine HCALL.out.mono ?_; rintro e wn ⟨hT, v, dp2, rfl, hEn⟩; have HT2 := Lib.hid hT; have HE2 := Lib.hid hEn; have cI2 := (hK.out.bI.turns HT2.out hK.out.nI).cell 0; simp only [List.getElem?_cons_zero] at cI2; clear hT hEn)
            have nI2 : ¬ (⟨B, some ⟨b, o, none⟩, t.length, c, Bt, Bw, Bm, Bd, Bk, M⟩ : Ck).S wn.heap.size := by
              have e1 := HE2.out.bw.lt
              have e2 := HE2.out.bd.lt
              rintro (e | e) <;> simp only at e e1 e2 <;> omega
            have hIw : Blk (wn.alloc (.cells #[.int .i64 ((i : Int) + 1)] 3)) wn.heap.size 3 [.int .i64 (((i + 1 : Nat) : Int))] := Blk.new wn 3 [.int .i64 ((i : Int) + 1)]
            refine ⟨⟨a, wn.heap.size, i + 1, v, (ep : Int), dp2, rfl, rfl, fun e => (by omega), ha, by omega, Lib.hid ⟨(hK.out.tr.then HT2.out).alloc _, HE2.out.past (Below.new _ _), (hK.out.bF.turns HT2.out nF).alloc _, (hK.out.bX.turns HT2.out nX).alloc _, hIw, nI2, .inr ⟨ep, rfl, HTT.out⟩⟩⟩, ?_⟩
            rw [atI_blk hIw, atI_blk hK.out.bI]
            omega
          · have hle := ckr_le hal hq
            rw [hq] at hcall htt
            have HCALL := Lib.hid hcall
            have HTT := Lib.hid htt
            clear hcall htt hq
            go_wp2_with (go_at_call 33; refine HCALL.out.mono ?_; rintro e wn ⟨hT, rfl, hEn⟩; have HT2 := Lib.hid hT; have HE2 := Lib.hid hEn; have cI2 := (hK.out.bI.turns HT2.out hK.out.nI).cell 0; simp only [List.getElem?_cons_zero] at cI2; clear hT hEn)
            have nI2 : ¬ (⟨B, some ⟨b, o, none⟩, t.length, c, Bt, Bw, Bm, Bd, Bk, M⟩ : Ck).S wn.heap.size := by
              have e1 := HE2.out.bw.lt
              have e2 := HE2.out.bd.lt
              rintro (e | e) <;> simp only at e e1 e2 <;> omega
            have hIw : Blk (wn.alloc (.cells #[.int .i64 ((i : Int) + 1)] 3)) wn.heap.size 3 [.int .i64 (((i + 1 : Nat) : Int))] := Blk.new wn 3 [.int .i64 ((i : Int) + 1)]
            refine ⟨⟨a2, wn.heap.size, i + 1, _, -1, dI d2, rfl, rfl, fun _ => rfl, by omega, by omega, Lib.hid ⟨(hK.out.tr.then HT2.out).alloc _, HE2.out.past (Below.new _ _), (hK.out.bF.turns HT2.out nF).alloc _, (hK.out.bX.turns HT2.out nX).alloc _, hIw, nI2, .inl ⟨rfl, hle.2.1, d2, rfl, HTT.out⟩⟩⟩, ?_⟩
            rw [atI_blk hIw, atI_blk hK.out.bI]
            omega
        · have HTT := Lib.hid htt
          clear htt hnx
          clear gM gW gD gF
          go_wp2_with fail
          go_ret
          rw [HTT.out, show (x.kids - i).toNat = 0 from by omega, ckr_zero]
          exact ⟨hK.out.tr, rfl, hd' ▸ hK.out.env⟩
      · have HTT := Lib.hid htt
        clear htt hnx
        clear gM gW gD gF
        by_cases hlt1 : (i : Int) < x.kids
        · go_wp2_with fail
          go_ret
          rw [HTT.out]
          exact ⟨hK.out.tr, _, _, rfl, hK.out.env⟩
        · go_wp2_with fail
          go_ret
          rw [HTT.out]
          exact ⟨hK.out.tr, _, _, rfl, hK.out.env⟩
  · go_wp2_with fail
    go_loopw [15, 16] (fun nv iv wr => ∃ (a I i : Nat) (nx wrg dp' : Int), nv = .int .i64 nx ∧ iv = .pointer (some ⟨I, 0, none⟩) ∧ (wrg = -1 → nx = (a : Int)) ∧ at_ < a ∧ (i : Int) ≤ x.kids ∧ Hid (Kids w ⟨B, some ⟨b, o, none⟩, t.length, c, Bt, Bw, Bm, Bd, Bk, M⟩ t x fm tot level (w.heap.size + 1) w.heap.size wr a I i wrg dp')) (fun _ iv wr => (x.kids - atI wr iv).toNat)
    case atStart =>
      have lw := HE.out.bw.lt
      have ld := HE.out.bd.lt
      have hX : twC x = [.int .u8 23, .int .i64 x.kids, .int .i64 x.int, .string x.text] := by unfold twC; rw [k4]
      have hde : deepAt at_ level d = d := by
        unfold deepAt
        rw [if_neg]
        rintro ⟨h, h'⟩
        have := HDD.out
        rw [h'] at this
        simp only [dI] at this
        omega
      refine ⟨at_ + 1, w.heap.size + 1 + 1, 0, _, -1, dp, rfl, rfl, fun _ => (by simp), by omega, by simpa using hk1, Lib.hid ⟨((((Turns.refl _ w).alloc _).alloc _).alloc _), ((HE.out.past (Below.new2 w _ _)).past (Below.new _ _)), ?_, ?_, ?_, ?_, .inl ⟨rfl, hlt, d, HDD.out.symm, ?_⟩⟩⟩
      · rw [HC.out]
        exact (Blk.new2 w _ 68 _).alloc _
      · rw [hX]
        exact ((Blk.new w 34 _).alloc _).alloc _
      · exact Blk.newAt (by simp) 3 [.int .i64 0]
      · rintro (e | e) <;> simp only at e lw ld <;> omega
      · rw [HTOT.out, hde]
        simp
    case round =>
      obtain ⟨a, I, i, nx, wrg, dp', rfl, rfl, hnx, ha, hi, hK⟩ := hrel
      have cX := hK.out.bX.cell 1
      have cI := hK.out.bI.cell 0
      have cW := hK.out.env.bw.cell 0
      have cK := hK.out.env.bk.cell 0
      unfold twC at cX
      simp only [List.getElem?_cons_zero, List.getElem?_cons_succ] at cX cI cW cK
      rcases hK.out.st with ⟨rfl, hal, d', hd', htt⟩ | ⟨p, rfl, htt⟩
      · obtain rfl := hnx rfl
        by_cases hlt1 : (i : Int) < x.kids
        · have lw := HE.out.bw.lt
          have ld := HE.out.bd.lt
          have nF : ¬ (⟨B, some ⟨b, o, none⟩, t.length, c, Bt, Bw, Bm, Bd, Bk, M⟩ : Ck).S (w.heap.size + 1) := by rintro (e | e) <;> simp only at e lw ld <;> omega
          have nX : ¬ (⟨B, some ⟨b, o, none⟩, t.length, c, Bt, Bw, Bm, Bd, Bk, M⟩ : Ck).S w.heap.size := by rintro (e | e) <;> simp only at e lw ld <;> omega
          subst hd'
          have hcall := HIH.out wr a 34 _ _ d' ha hal hK.out.env (MayF.of HF.out ⟨(by omega : (0 : Int) ≤ (i : Int)), by omega⟩ ⟨hk1, by omega⟩ hK.out.bF hK.out.bI hK.out.bX nF hK.out.nI nX)
          rw [show (x.kids - (i : Int)).toNat = (x.kids - ((i + 1 : Nat) : Int)).toNat + 1 from by omega, ckr_one] at htt
          clear gM gW gD gF hnx
          have hw1 : wr.heap.size ≤ wr.heap.size := Nat.le_refl _
          rcases hq : ckr t a (level + 1) (.of x.op i x.kids) 1 d' with ep | ⟨a2, d2⟩
          · rw [hq] at hcall htt
            have HCALL := Lib.hid hcall
            have HTT := Lib.hid htt
            clear hcall htt hq
            go_wp2_with (go_at_call 33; refine HCALL.out.mono ?_; rintro e wn ⟨hT, v, dp2, rfl, hEn⟩; have HT2 := Lib.hid hT; have HE2 := Lib.hid hEn; have cI2 := (hK.out.bI.turns HT2.out hK.out.nI).cell 0; simp only [List.getElem?_cons_zero] at cI2; clear hT hEn)
            have nI2 : ¬ (⟨B, some ⟨b, o, none⟩, t.length, c, Bt, Bw, Bm, Bd, Bk, M⟩ : Ck).S wn.heap.size := by
              have e1 := HE2.out.bw.lt
              have e2 := HE2.out.bd.lt
              rintro (e | e) <;> simp only at e e1 e2 <;> omega
            have hIw : Blk (wn.alloc (.cells #[.int .i64 ((i : Int) + 1)] 3)) wn.heap.size 3 [.int .i64 (((i + 1 : Nat) : Int))] := Blk.new wn 3 [.int .i64 ((i : Int) + 1)]
            refine ⟨⟨a, wn.heap.size, i + 1, v, (ep : Int), dp2, rfl, rfl, fun e => (by omega), ha, by omega, Lib.hid ⟨(hK.out.tr.then HT2.out).alloc _, HE2.out.past (Below.new _ _), (hK.out.bF.turns HT2.out nF).alloc _, (hK.out.bX.turns HT2.out nX).alloc _, hIw, nI2, .inr ⟨ep, rfl, HTT.out⟩⟩⟩, ?_⟩
            rw [atI_blk hIw, atI_blk hK.out.bI]
            omega
          · have hle := ckr_le hal hq
            rw [hq] at hcall htt
            have HCALL := Lib.hid hcall
            have HTT := Lib.hid htt
            clear hcall htt hq
            go_wp2_with (go_at_call 33; refine HCALL.out.mono ?_; rintro e wn ⟨hT, rfl, hEn⟩; have HT2 := Lib.hid hT; have HE2 := Lib.hid hEn; have cI2 := (hK.out.bI.turns HT2.out hK.out.nI).cell 0; simp only [List.getElem?_cons_zero] at cI2; clear hT hEn)
            have nI2 : ¬ (⟨B, some ⟨b, o, none⟩, t.length, c, Bt, Bw, Bm, Bd, Bk, M⟩ : Ck).S wn.heap.size := by
              have e1 := HE2.out.bw.lt
              have e2 := HE2.out.bd.lt
              rintro (e | e) <;> simp only at e e1 e2 <;> omega
            have hIw : Blk (wn.alloc (.cells #[.int .i64 ((i : Int) + 1)] 3)) wn.heap.size 3 [.int .i64 (((i + 1 : Nat) : Int))] := Blk.new wn 3 [.int .i64 ((i : Int) + 1)]
            refine ⟨⟨a2, wn.heap.size, i + 1, _, -1, dI d2, rfl, rfl, fun _ => rfl, by omega, by omega, Lib.hid ⟨(hK.out.tr.then HT2.out).alloc _, HE2.out.past (Below.new _ _), (hK.out.bF.turns HT2.out nF).alloc _, (hK.out.bX.turns HT2.out nX).alloc _, hIw, nI2, .inl ⟨rfl, hle.2.1, d2, rfl, HTT.out⟩⟩⟩, ?_⟩
            rw [atI_blk hIw, atI_blk hK.out.bI]
            omega
        · have HTT := Lib.hid htt
          clear htt hnx
          clear gM gW gD gF
          go_wp2_with fail
          go_ret
          rw [HTT.out, show (x.kids - i).toNat = 0 from by omega, ckr_zero]
          exact ⟨hK.out.tr, rfl, hd' ▸ hK.out.env⟩
      · have HTT := Lib.hid htt
        clear htt hnx
        clear gM gW gD gF
        by_cases hlt1 : (i : Int) < x.kids
        · go_wp2_with fail
          go_ret
          rw [HTT.out]
          exact ⟨hK.out.tr, _, _, rfl, hK.out.env⟩
        · go_wp2_with fail
          go_ret
          rw [HTT.out]
          exact ⟨hK.out.tr, _, _, rfl, hK.out.env⟩
  · go_wp2_with fail
    go_loopw [15, 16] (fun nv iv wr => ∃ (a I i : Nat) (nx wrg dp' : Int), nv = .int .i64 nx ∧ iv = .pointer (some ⟨I, 0, none⟩) ∧ (wrg = -1 → nx = (a : Int)) ∧ at_ < a ∧ (i : Int) ≤ x.kids ∧ Hid (Kids w ⟨B, some ⟨b, o, none⟩, t.length, c, Bt, Bw, Bm, Bd, Bk, M⟩ t x fm tot level (w.heap.size + 1) w.heap.size wr a I i wrg dp')) (fun _ iv wr => (x.kids - atI wr iv).toNat)
    case atStart =>
      have lw := HE.out.bw.lt
      have ld := HE.out.bd.lt
      have hX : twC x = [.int .u8 23, .int .i64 x.kids, .int .i64 x.int, .string x.text] := by unfold twC; rw [k4]
      have hde : deepAt at_ level d = d := by
        unfold deepAt
        rw [if_neg]
        rintro ⟨h, h'⟩
        have := HDD.out
        rw [h'] at this
        simp only [dI] at this
        omega
      refine ⟨at_ + 1, w.heap.size + 1 + 1, 0, _, -1, dp, rfl, rfl, fun _ => (by simp), by omega, by simpa using hk1, Lib.hid ⟨((((Turns.refl _ w).alloc _).alloc _).alloc _), ((HE.out.past (Below.new2 w _ _)).past (Below.new _ _)), ?_, ?_, ?_, ?_, .inl ⟨rfl, hlt, d, HDD.out.symm, ?_⟩⟩⟩
      · rw [HC.out]
        exact (Blk.new2 w _ 68 _).alloc _
      · rw [hX]
        exact ((Blk.new w 34 _).alloc _).alloc _
      · exact Blk.newAt (by simp) 3 [.int .i64 0]
      · rintro (e | e) <;> simp only at e lw ld <;> omega
      · rw [HTOT.out, hde]
        simp
    case round =>
      obtain ⟨a, I, i, nx, wrg, dp', rfl, rfl, hnx, ha, hi, hK⟩ := hrel
      have cX := hK.out.bX.cell 1
      have cI := hK.out.bI.cell 0
      have cW := hK.out.env.bw.cell 0
      have cK := hK.out.env.bk.cell 0
      unfold twC at cX
      simp only [List.getElem?_cons_zero, List.getElem?_cons_succ] at cX cI cW cK
      rcases hK.out.st with ⟨rfl, hal, d', hd', htt⟩ | ⟨p, rfl, htt⟩
      · obtain rfl := hnx rfl
        by_cases hlt1 : (i : Int) < x.kids
        · have lw := HE.out.bw.lt
          have ld := HE.out.bd.lt
          have nF : ¬ (⟨B, some ⟨b, o, none⟩, t.length, c, Bt, Bw, Bm, Bd, Bk, M⟩ : Ck).S (w.heap.size + 1) := by rintro (e | e) <;> simp only at e lw ld <;> omega
          have nX : ¬ (⟨B, some ⟨b, o, none⟩, t.length, c, Bt, Bw, Bm, Bd, Bk, M⟩ : Ck).S w.heap.size := by rintro (e | e) <;> simp only at e lw ld <;> omega
          subst hd'
          have hcall := HIH.out wr a 34 _ _ d' ha hal hK.out.env (MayF.of HF.out ⟨(by omega : (0 : Int) ≤ (i : Int)), by omega⟩ ⟨hk1, by omega⟩ hK.out.bF hK.out.bI hK.out.bX nF hK.out.nI nX)
          rw [show (x.kids - (i : Int)).toNat = (x.kids - ((i + 1 : Nat) : Int)).toNat + 1 from by omega, ckr_one] at htt
          clear gM gW gD gF hnx
          have hw1 : wr.heap.size ≤ wr.heap.size := Nat.le_refl _
          rcases hq : ckr t a (level + 1) (.of x.op i x.kids) 1 d' with ep | ⟨a2, d2⟩
          · rw [hq] at hcall htt
            have HCALL := Lib.hid hcall
            have HTT := Lib.hid htt
            clear hcall htt hq
            go_wp2_with (go_at_call 33; refine HCALL.out.mono ?_; rintro e wn ⟨hT, v, dp2, rfl, hEn⟩; have HT2 := Lib.hid hT; have HE2 := Lib.hid hEn; have cI2 := (hK.out.bI.turns HT2.out hK.out.nI).cell 0; simp only [List.getElem?_cons_zero] at cI2; clear hT hEn)
            have nI2 : ¬ (⟨B, some ⟨b, o, none⟩, t.length, c, Bt, Bw, Bm, Bd, Bk, M⟩ : Ck).S wn.heap.size := by
              have e1 := HE2.out.bw.lt
              have e2 := HE2.out.bd.lt
              rintro (e | e) <;> simp only at e e1 e2 <;> omega
            have hIw : Blk (wn.alloc (.cells #[.int .i64 ((i : Int) + 1)] 3)) wn.heap.size 3 [.int .i64 (((i + 1 : Nat) : Int))] := Blk.new wn 3 [.int .i64 ((i : Int) + 1)]
            refine ⟨⟨a, wn.heap.size, i + 1, v, (ep : Int), dp2, rfl, rfl, fun e => (by omega), ha, by omega, Lib.hid ⟨(hK.out.tr.then HT2.out).alloc _, HE2.out.past (Below.new _ _), (hK.out.bF.turns HT2.out nF).alloc _, (hK.out.bX.turns HT2.out nX).alloc _, hIw, nI2, .inr ⟨ep, rfl, HTT.out⟩⟩⟩, ?_⟩
            rw [atI_blk hIw, atI_blk hK.out.bI]
            omega
          · have hle := ckr_le hal hq
            rw [hq] at hcall htt
            have HCALL := Lib.hid hcall
            have HTT := Lib.hid htt
            clear hcall htt hq
            go_wp2_with (go_at_call 33; refine HCALL.out.mono ?_; rintro e wn ⟨hT, rfl, hEn⟩; have HT2 := Lib.hid hT; have HE2 := Lib.hid hEn; have cI2 := (hK.out.bI.turns HT2.out hK.out.nI).cell 0; simp only [List.getElem?_cons_zero] at cI2; clear hT hEn)
            have nI2 : ¬ (⟨B, some ⟨b, o, none⟩, t.length, c, Bt, Bw, Bm, Bd, Bk, M⟩ : Ck).S wn.heap.size := by
              have e1 := HE2.out.bw.lt
              have e2 := HE2.out.bd.lt
              rintro (e | e) <;> simp only at e e1 e2 <;> omega
            have hIw : Blk (wn.alloc (.cells #[.int .i64 ((i : Int) + 1)] 3)) wn.heap.size 3 [.int .i64 (((i + 1 : Nat) : Int))] := Blk.new wn 3 [.int .i64 ((i : Int) + 1)]
            refine ⟨⟨a2, wn.heap.size, i + 1, _, -1, dI d2, rfl, rfl, fun _ => rfl, by omega, by omega, Lib.hid ⟨(hK.out.tr.then HT2.out).alloc _, HE2.out.past (Below.new _ _), (hK.out.bF.turns HT2.out nF).alloc _, (hK.out.bX.turns HT2.out nX).alloc _, hIw, nI2, .inl ⟨rfl, hle.2.1, d2, rfl, HTT.out⟩⟩⟩, ?_⟩
            rw [atI_blk hIw, atI_blk hK.out.bI]
            omega
        · have HTT := Lib.hid htt
          clear htt hnx
          clear gM gW gD gF
          go_wp2_with fail
          go_ret
          rw [HTT.out, show (x.kids - i).toNat = 0 from by omega, ckr_zero]
          exact ⟨hK.out.tr, rfl, hd' ▸ hK.out.env⟩
      · have HTT := Lib.hid htt
        clear htt hnx
        clear gM gW gD gF
        by_cases hlt1 : (i : Int) < x.kids
        · go_wp2_with fail
          go_ret
          rw [HTT.out]
          exact ⟨hK.out.tr, _, _, rfl, hK.out.env⟩
        · go_wp2_with fail
          go_ret
          rw [HTT.out]
          exact ⟨hK.out.tr, _, _, rfl, hK.out.env⟩
  · go_wp2_with fail
    go_loopw [15, 16] (fun nv iv wr => ∃ (a I i : Nat) (nx wrg dp' : Int), nv = .int .i64 nx ∧ iv = .pointer (some ⟨I, 0, none⟩) ∧ (wrg = -1 → nx = (a : Int)) ∧ at_ < a ∧ (i : Int) ≤ x.kids ∧ Hid (Kids w ⟨B, some ⟨b, o, none⟩, t.length, c, Bt, Bw, Bm, Bd, Bk, M⟩ t x fm tot level (w.heap.size + 1) w.heap.size wr a I i wrg dp')) (fun _ iv wr => (x.kids - atI wr iv).toNat)
    case atStart =>
      have lw := HE.out.bw.lt
      have ld := HE.out.bd.lt
      have hX : twC x = [.int .u8 x.op, .int .i64 x.kids, .int .i64 0, .string x.text] := by unfold twC; rw [k6]
      have hdn : d = none := by
        cases d with
        | none => rfl
        | some p => have := HDD.out; simp only [dI] at this; omega
      refine ⟨at_ + 1, w.heap.size + 1 + 1, 0, _, -1, (at_ : Int), rfl, rfl, fun _ => (by simp), by omega, by simpa using hk1, Lib.hid ⟨(((((Turns.refl _ w).alloc _).alloc _).set _ _ (fun _ => .inr rfl)).alloc _), (((HE.out.past (Below.new2 w _ _)).deep _).past (Below.new _ _)), ?_, ?_, ?_, ?_, .inl ⟨rfl, hlt, some at_, rfl, ?_⟩⟩⟩
      · rw [HC.out]
        exact ((Blk.new2 w _ 68 _).far (by show w.heap.size + 1 ≠ Bd; simp only at ld; omega) _).alloc _
      · rw [hX]
        exact (((Blk.new w 34 _).alloc _).far (by show w.heap.size ≠ Bd; simp only at ld; omega) _).alloc _
      · exact Blk.newAt (by simp [World.setCell]) 3 [.int .i64 0]
      · rintro (e | e) <;> simp only at e lw ld <;> omega
      · rw [HTOT.out, hdn]
        have l3 : 40 < level := by omega
        simp [deepAt, l3]
    case round =>
      obtain ⟨a, I, i, nx, wrg, dp', rfl, rfl, hnx, ha, hi, hK⟩ := hrel
      have cX := hK.out.bX.cell 1
      have cI := hK.out.bI.cell 0
      have cW := hK.out.env.bw.cell 0
      have cK := hK.out.env.bk.cell 0
      unfold twC at cX
      simp only [List.getElem?_cons_zero, List.getElem?_cons_succ] at cX cI cW cK
      rcases hK.out.st with ⟨rfl, hal, d', hd', htt⟩ | ⟨p, rfl, htt⟩
      · obtain rfl := hnx rfl
        by_cases hlt1 : (i : Int) < x.kids
        · have lw := HE.out.bw.lt
          have ld := HE.out.bd.lt
          have nF : ¬ (⟨B, some ⟨b, o, none⟩, t.length, c, Bt, Bw, Bm, Bd, Bk, M⟩ : Ck).S (w.heap.size + 1) := by rintro (e | e) <;> simp only at e lw ld <;> omega
          have nX : ¬ (⟨B, some ⟨b, o, none⟩, t.length, c, Bt, Bw, Bm, Bd, Bk, M⟩ : Ck).S w.heap.size := by rintro (e | e) <;> simp only at e lw ld <;> omega
          subst hd'
          have hcall := HIH.out wr a 34 _ _ d' ha hal hK.out.env (MayF.of HF.out ⟨(by omega : (0 : Int) ≤ (i : Int)), by omega⟩ ⟨hk1, by omega⟩ hK.out.bF hK.out.bI hK.out.bX nF hK.out.nI nX)
          rw [show (x.kids - (i : Int)).toNat = (x.kids - ((i + 1 : Nat) : Int)).toNat + 1 from by omega, ckr_one] at htt
          clear gM gW gD gF hnx
          have hw1 : wr.heap.size ≤ wr.heap.size := Nat.le_refl _
          rcases hq : ckr t a (level + 1) (.of x.op i x.kids) 1 d' with ep | ⟨a2, d2⟩
          · rw [hq] at hcall htt
            have HCALL := Lib.hid hcall
            have HTT := Lib.hid htt
            clear hcall htt hq
            go_wp2_with (go_at_call 33; refine HCALL.out.mono ?_; rintro e wn ⟨hT, v, dp2, rfl, hEn⟩; have HT2 := Lib.hid hT; have HE2 := Lib.hid hEn; have cI2 := (hK.out.bI.turns HT2.out hK.out.nI).cell 0; simp only [List.getElem?_cons_zero] at cI2; clear hT hEn)
            have nI2 : ¬ (⟨B, some ⟨b, o, none⟩, t.length, c, Bt, Bw, Bm, Bd, Bk, M⟩ : Ck).S wn.heap.size := by
              have e1 := HE2.out.bw.lt
              have e2 := HE2.out.bd.lt
              rintro (e | e) <;> simp only at e e1 e2 <;> omega
            have hIw : Blk (wn.alloc (.cells #[.int .i64 ((i : Int) + 1)] 3)) wn.heap.size 3 [.int .i64 (((i + 1 : Nat) : Int))] := Blk.new wn 3 [.int .i64 ((i : Int) + 1)]
            refine ⟨⟨a, wn.heap.size, i + 1, v, (ep : Int), dp2, rfl, rfl, fun e => (by omega), ha, by omega, Lib.hid ⟨(hK.out.tr.then HT2.out).alloc _, HE2.out.past (Below.new _ _), (hK.out.bF.turns HT2.out nF).alloc _, (hK.out.bX.turns HT2.out nX).alloc _, hIw, nI2, .inr ⟨ep, rfl, HTT.out⟩⟩⟩, ?_⟩
            rw [atI_blk hIw, atI_blk hK.out.bI]
            omega
          · have hle := ckr_le hal hq
            rw [hq] at hcall htt
            have HCALL := Lib.hid hcall
            have HTT := Lib.hid htt
            clear hcall htt hq
            go_wp2_with (go_at_call 33; refine HCALL.out.mono ?_; rintro e wn ⟨hT, rfl, hEn⟩; have HT2 := Lib.hid hT; have HE2 := Lib.hid hEn; have cI2 := (hK.out.bI.turns HT2.out hK.out.nI).cell 0; simp only [List.getElem?_cons_zero] at cI2; clear hT hEn)
            have nI2 : ¬ (⟨B, some ⟨b, o, none⟩, t.length, c, Bt, Bw, Bm, Bd, Bk, M⟩ : Ck).S wn.heap.size := by
              have e1 := HE2.out.bw.lt
              have e2 := HE2.out.bd.lt
              rintro (e | e) <;> simp only at e e1 e2 <;> omega
            have hIw : Blk (wn.alloc (.cells #[.int .i64 ((i : Int) + 1)] 3)) wn.heap.size 3 [.int .i64 (((i + 1 : Nat) : Int))] := Blk.new wn 3 [.int .i64 ((i : Int) + 1)]
            refine ⟨⟨a2, wn.heap.size, i + 1, _, -1, dI d2, rfl, rfl, fun _ => rfl, by omega, by omega, Lib.hid ⟨(hK.out.tr.then HT2.out).alloc _, HE2.out.past (Below.new _ _), (hK.out.bF.turns HT2.out nF).alloc _, (hK.out.bX.turns HT2.out nX).alloc _, hIw, nI2, .inl ⟨rfl, hle.2.1, d2, rfl, HTT.out⟩⟩⟩, ?_⟩
            rw [atI_blk hIw, atI_blk hK.out.bI]
            omega
        · have HTT := Lib.hid htt
          clear htt hnx
          clear gM gW gD gF
          go_wp2_with fail
          go_ret
          rw [HTT.out, show (x.kids - i).toNat = 0 from by omega, ckr_zero]
          exact ⟨hK.out.tr, rfl, hd' ▸ hK.out.env⟩
      · have HTT := Lib.hid htt
        clear htt hnx
        clear gM gW gD gF
        by_cases hlt1 : (i : Int) < x.kids
        · go_wp2_with fail
          go_ret
          rw [HTT.out]
          exact ⟨hK.out.tr, _, _, rfl, hK.out.env⟩
        · go_wp2_with fail
          go_ret
          rw [HTT.out]
          exact ⟨hK.out.tr, _, _, rfl, hK.out.env⟩
  · go_wp2_with fail
    go_loopw [15, 16] (fun nv iv wr => ∃ (a I i : Nat) (nx wrg dp' : Int), nv = .int .i64 nx ∧ iv = .pointer (some ⟨I, 0, none⟩) ∧ (wrg = -1 → nx = (a : Int)) ∧ at_ < a ∧ (i : Int) ≤ x.kids ∧ Hid (Kids w ⟨B, some ⟨b, o, none⟩, t.length, c, Bt, Bw, Bm, Bd, Bk, M⟩ t x fm tot level (w.heap.size + 1) w.heap.size wr a I i wrg dp')) (fun _ iv wr => (x.kids - atI wr iv).toNat)
    case atStart =>
      have lw := HE.out.bw.lt
      have ld := HE.out.bd.lt
      have hX : twC x = [.int .u8 x.op, .int .i64 x.kids, .int .i64 0, .string x.text] := by unfold twC; rw [k6]
      have hde : deepAt at_ level d = d := by
        unfold deepAt
        rw [if_neg]
        rintro ⟨h, h'⟩
        have := HDD.out
        rw [h'] at this
        simp only [dI] at this
        omega
      refine ⟨at_ + 1, w.heap.size + 1 + 1, 0, _, -1, dp, rfl, rfl, fun _ => (by simp), by omega, by simpa using hk1, Lib.hid ⟨((((Turns.refl _ w).alloc _).alloc _).alloc _), ((HE.out.past (Below.new2 w _ _)).past (Below.new _ _)), ?_, ?_, ?_, ?_, .inl ⟨rfl, hlt, d, HDD.out.symm, ?_⟩⟩⟩
      · rw [HC.out]
        exact (Blk.new2 w _ 68 _).alloc _
      · rw [hX]
        exact ((Blk.new w 34 _).alloc _).alloc _
      · exact Blk.newAt (by simp) 3 [.int .i64 0]
      · rintro (e | e) <;> simp only at e lw ld <;> omega
      · rw [HTOT.out, hde]
        simp
    case round =>
      obtain ⟨a, I, i, nx, wrg, dp', rfl, rfl, hnx, ha, hi, hK⟩ := hrel
      have cX := hK.out.bX.cell 1
      have cI := hK.out.bI.cell 0
      have cW := hK.out.env.bw.cell 0
      have cK := hK.out.env.bk.cell 0
      unfold twC at cX
      simp only [List.getElem?_cons_zero, List.getElem?_cons_succ] at cX cI cW cK
      rcases hK.out.st with ⟨rfl, hal, d', hd', htt⟩ | ⟨p, rfl, htt⟩
      · obtain rfl := hnx rfl
        by_cases hlt1 : (i : Int) < x.kids
        · have lw := HE.out.bw.lt
          have ld := HE.out.bd.lt
          have nF : ¬ (⟨B, some ⟨b, o, none⟩, t.length, c, Bt, Bw, Bm, Bd, Bk, M⟩ : Ck).S (w.heap.size + 1) := by rintro (e | e) <;> simp only at e lw ld <;> omega
          have nX : ¬ (⟨B, some ⟨b, o, none⟩, t.length, c, Bt, Bw, Bm, Bd, Bk, M⟩ : Ck).S w.heap.size := by rintro (e | e) <;> simp only at e lw ld <;> omega
          subst hd'
          have hcall := HIH.out wr a 34 _ _ d' ha hal hK.out.env (MayF.of HF.out ⟨(by omega : (0 : Int) ≤ (i : Int)), by omega⟩ ⟨hk1, by omega⟩ hK.out.bF hK.out.bI hK.out.bX nF hK.out.nI nX)
          rw [show (x.kids - (i : Int)).toNat = (x.kids - ((i + 1 : Nat) : Int)).toNat + 1 from by omega, ckr_one] at htt
          clear gM gW gD gF hnx
          have hw1 : wr.heap.size ≤ wr.heap.size := Nat.le_refl _
          rcases hq : ckr t a (level + 1) (.of x.op i x.kids) 1 d' with ep | ⟨a2, d2⟩
          · rw [hq] at hcall htt
            have HCALL := Lib.hid hcall
            have HTT := Lib.hid htt
            clear hcall htt hq
            go_wp2_with (go_at_call 33; refine HCALL.out.mono ?_; rintro e wn ⟨hT, v, dp2, rfl, hEn⟩; have HT2 := Lib.hid hT; have HE2 := Lib.hid hEn; have cI2 := (hK.out.bI.turns HT2.out hK.out.nI).cell 0; simp only [List.getElem?_cons_zero] at cI2; clear hT hEn)
            have nI2 : ¬ (⟨B, some ⟨b, o, none⟩, t.length, c, Bt, Bw, Bm, Bd, Bk, M⟩ : Ck).S wn.heap.size := by
              have e1 := HE2.out.bw.lt
              have e2 := HE2.out.bd.lt
              rintro (e | e) <;> simp only at e e1 e2 <;> omega
            have hIw : Blk (wn.alloc (.cells #[.int .i64 ((i : Int) + 1)] 3)) wn.heap.size 3 [.int .i64 (((i + 1 : Nat) : Int))] := Blk.new wn 3 [.int .i64 ((i : Int) + 1)]
            refine ⟨⟨a, wn.heap.size, i + 1, v, (ep : Int), dp2, rfl, rfl, fun e => (by omega), ha, by omega, Lib.hid ⟨(hK.out.tr.then HT2.out).alloc _, HE2.out.past (Below.new _ _), (hK.out.bF.turns HT2.out nF).alloc _, (hK.out.bX.turns HT2.out nX).alloc _, hIw, nI2, .inr ⟨ep, rfl, HTT.out⟩⟩⟩, ?_⟩
            rw [atI_blk hIw, atI_blk hK.out.bI]
            omega
          · have hle := ckr_le hal hq
            rw [hq] at hcall htt
            have HCALL := Lib.hid hcall
            have HTT := Lib.hid htt
            clear hcall htt hq
            go_wp2_with (go_at_call 33; refine HCALL.out.mono ?_; rintro e wn ⟨hT, rfl, hEn⟩; have HT2 := Lib.hid hT; have HE2 := Lib.hid hEn; have cI2 := (hK.out.bI.turns HT2.out hK.out.nI).cell 0; simp only [List.getElem?_cons_zero] at cI2; clear hT hEn)
            have nI2 : ¬ (⟨B, some ⟨b, o, none⟩, t.length, c, Bt, Bw, Bm, Bd, Bk, M⟩ : Ck).S wn.heap.size := by
              have e1 := HE2.out.bw.lt
              have e2 := HE2.out.bd.lt
              rintro (e | e) <;> simp only at e e1 e2 <;> omega
            have hIw : Blk (wn.alloc (.cells #[.int .i64 ((i : Int) + 1)] 3)) wn.heap.size 3 [.int .i64 (((i + 1 : Nat) : Int))] := Blk.new wn 3 [.int .i64 ((i : Int) + 1)]
            refine ⟨⟨a2, wn.heap.size, i + 1, _, -1, dI d2, rfl, rfl, fun _ => rfl, by omega, by omega, Lib.hid ⟨(hK.out.tr.then HT2.out).alloc _, HE2.out.past (Below.new _ _), (hK.out.bF.turns HT2.out nF).alloc _, (hK.out.bX.turns HT2.out nX).alloc _, hIw, nI2, .inl ⟨rfl, hle.2.1, d2, rfl, HTT.out⟩⟩⟩, ?_⟩
            rw [atI_blk hIw, atI_blk hK.out.bI]
            omega
        · have HTT := Lib.hid htt
          clear htt hnx
          clear gM gW gD gF
          go_wp2_with fail
          go_ret
          rw [HTT.out, show (x.kids - i).toNat = 0 from by omega, ckr_zero]
          exact ⟨hK.out.tr, rfl, hd' ▸ hK.out.env⟩
      · have HTT := Lib.hid htt
        clear htt hnx
        clear gM gW gD gF
        by_cases hlt1 : (i : Int) < x.kids
        · go_wp2_with fail
          go_ret
          rw [HTT.out]
          exact ⟨hK.out.tr, _, _, rfl, hK.out.env⟩
        · go_wp2_with fail
          go_ret
          rw [HTT.out]
          exact ⟨hK.out.tr, _, _, rfl, hK.out.env⟩
  · go_wp2_with fail
    go_loopw [15, 16] (fun nv iv wr => ∃ (a I i : Nat) (nx wrg dp' : Int), nv = .int .i64 nx ∧ iv = .pointer (some ⟨I, 0, none⟩) ∧ (wrg = -1 → nx = (a : Int)) ∧ at_ < a ∧ (i : Int) ≤ x.kids ∧ Hid (Kids w ⟨B, some ⟨b, o, none⟩, t.length, c, Bt, Bw, Bm, Bd, Bk, M⟩ t x fm tot level (w.heap.size + 1) w.heap.size wr a I i wrg dp')) (fun _ iv wr => (x.kids - atI wr iv).toNat)
    case atStart =>
      have lw := HE.out.bw.lt
      have ld := HE.out.bd.lt
      have hX : twC x = [.int .u8 x.op, .int .i64 x.kids, .int .i64 0, .string x.text] := by unfold twC; rw [k6]
      have hde : deepAt at_ level d = d := by
        unfold deepAt
        rw [if_neg]
        rintro ⟨h, h'⟩
        have := HDD.out
        rw [h'] at this
        simp only [dI] at this
        omega
      refine ⟨at_ + 1, w.heap.size + 1 + 1, 0, _, -1, dp, rfl, rfl, fun _ => (by simp), by omega, by simpa using hk1, Lib.hid ⟨((((Turns.refl _ w).alloc _).alloc _).alloc _), ((HE.out.past (Below.new2 w _ _)).past (Below.new _ _)), ?_, ?_, ?_, ?_, .inl ⟨rfl, hlt, d, HDD.out.symm, ?_⟩⟩⟩
      · rw [HC.out]
        exact (Blk.new2 w _ 68 _).alloc _
      · rw [hX]
        exact ((Blk.new w 34 _).alloc _).alloc _
      · exact Blk.newAt (by simp) 3 [.int .i64 0]
      · rintro (e | e) <;> simp only at e lw ld <;> omega
      · rw [HTOT.out, hde]
        simp
    case round =>
      obtain ⟨a, I, i, nx, wrg, dp', rfl, rfl, hnx, ha, hi, hK⟩ := hrel
      have cX := hK.out.bX.cell 1
      have cI := hK.out.bI.cell 0
      have cW := hK.out.env.bw.cell 0
      have cK := hK.out.env.bk.cell 0
      unfold twC at cX
      simp only [List.getElem?_cons_zero, List.getElem?_cons_succ] at cX cI cW cK
      rcases hK.out.st with ⟨rfl, hal, d', hd', htt⟩ | ⟨p, rfl, htt⟩
      · obtain rfl := hnx rfl
        by_cases hlt1 : (i : Int) < x.kids
        · have lw := HE.out.bw.lt
          have ld := HE.out.bd.lt
          have nF : ¬ (⟨B, some ⟨b, o, none⟩, t.length, c, Bt, Bw, Bm, Bd, Bk, M⟩ : Ck).S (w.heap.size + 1) := by rintro (e | e) <;> simp only at e lw ld <;> omega
          have nX : ¬ (⟨B, some ⟨b, o, none⟩, t.length, c, Bt, Bw, Bm, Bd, Bk, M⟩ : Ck).S w.heap.size := by rintro (e | e) <;> simp only at e lw ld <;> omega
          subst hd'
          have hcall := HIH.out wr a 34 _ _ d' ha hal hK.out.env (MayF.of HF.out ⟨(by omega : (0 : Int) ≤ (i : Int)), by omega⟩ ⟨hk1, by omega⟩ hK.out.bF hK.out.bI hK.out.bX nF hK.out.nI nX)
          rw [show (x.kids - (i : Int)).toNat = (x.kids - ((i + 1 : Nat) : Int)).toNat + 1 from by omega, ckr_one] at htt
          clear gM gW gD gF hnx
          have hw1 : wr.heap.size ≤ wr.heap.size := Nat.le_refl _
          rcases hq : ckr t a (level + 1) (.of x.op i x.kids) 1 d' with ep | ⟨a2, d2⟩
          · rw [hq] at hcall htt
            have HCALL := Lib.hid hcall
            have HTT := Lib.hid htt
            clear hcall htt hq
            go_wp2_with (go_at_call 33; refine HCALL.out.mono ?_; rintro e wn ⟨hT, v, dp2, rfl, hEn⟩; have HT2 := Lib.hid hT; have HE2 := Lib.hid hEn; have cI2 := (hK.out.bI.turns HT2.out hK.out.nI).cell 0; simp only [List.getElem?_cons_zero] at cI2; clear hT hEn)
            have nI2 : ¬ (⟨B, some ⟨b, o, none⟩, t.length, c, Bt, Bw, Bm, Bd, Bk, M⟩ : Ck).S wn.heap.size := by
              have e1 := HE2.out.bw.lt
              have e2 := HE2.out.bd.lt
              rintro (e | e) <;> simp only at e e1 e2 <;> omega
            have hIw : Blk (wn.alloc (.cells #[.int .i64 ((i : Int) + 1)] 3)) wn.heap.size 3 [.int .i64 (((i + 1 : Nat) : Int))] := Blk.new wn 3 [.int .i64 ((i : Int) + 1)]
            refine ⟨⟨a, wn.heap.size, i + 1, v, (ep : Int), dp2, rfl, rfl, fun e => (by omega), ha, by omega, Lib.hid ⟨(hK.out.tr.then HT2.out).alloc _, HE2.out.past (Below.new _ _), (hK.out.bF.turns HT2.out nF).alloc _, (hK.out.bX.turns HT2.out nX).alloc _, hIw, nI2, .inr ⟨ep, rfl, HTT.out⟩⟩⟩, ?_⟩
            rw [atI_blk hIw, atI_blk hK.out.bI]
            omega
          · have hle := ckr_le hal hq
            rw [hq] at hcall htt
            have HCALL := Lib.hid hcall
            have HTT := Lib.hid htt
            clear hcall htt hq
            go_wp2_with (go_at_call 33; refine HCALL.out.mono ?_; rintro e wn ⟨hT, rfl, hEn⟩; have HT2 := Lib.hid hT; have HE2 := Lib.hid hEn; have cI2 := (hK.out.bI.turns HT2.out hK.out.nI).cell 0; simp only [List.getElem?_cons_zero] at cI2; clear hT hEn)
            have nI2 : ¬ (⟨B, some ⟨b, o, none⟩, t.length, c, Bt, Bw, Bm, Bd, Bk, M⟩ : Ck).S wn.heap.size := by
              have e1 := HE2.out.bw.lt
              have e2 := HE2.out.bd.lt
              rintro (e | e) <;> simp only at e e1 e2 <;> omega
            have hIw : Blk (wn.alloc (.cells #[.int .i64 ((i : Int) + 1)] 3)) wn.heap.size 3 [.int .i64 (((i + 1 : Nat) : Int))] := Blk.new wn 3 [.int .i64 ((i : Int) + 1)]
            refine ⟨⟨a2, wn.heap.size, i + 1, _, -1, dI d2, rfl, rfl, fun _ => rfl, by omega, by omega, Lib.hid ⟨(hK.out.tr.then HT2.out).alloc _, HE2.out.past (Below.new _ _), (hK.out.bF.turns HT2.out nF).alloc _, (hK.out.bX.turns HT2.out nX).alloc _, hIw, nI2, .inl ⟨rfl, hle.2.1, d2, rfl, HTT.out⟩⟩⟩, ?_⟩
            rw [atI_blk hIw, atI_blk hK.out.bI]
            omega
        · have HTT := Lib.hid htt
          clear htt hnx
          clear gM gW gD gF
          go_wp2_with fail
          go_ret
          rw [HTT.out, show (x.kids - i).toNat = 0 from by omega, ckr_zero]
          exact ⟨hK.out.tr, rfl, hd' ▸ hK.out.env⟩
      · have HTT := Lib.hid htt
        clear htt hnx
        clear gM gW gD gF
        by_cases hlt1 : (i : Int) < x.kids
        · go_wp2_with fail
          go_ret
          rw [HTT.out]
          exact ⟨hK.out.tr, _, _, rfl, hK.out.env⟩
        · go_wp2_with fail
          go_ret
          rw [HTT.out]
          exact ⟨hK.out.tr, _, _, rfl, hK.out.env⟩
  · go_wp2_with fail
    go_loopw [15, 16] (fun nv iv wr => ∃ (a I i : Nat) (nx wrg dp' : Int), nv = .int .i64 nx ∧ iv = .pointer (some ⟨I, 0, none⟩) ∧ (wrg = -1 → nx = (a : Int)) ∧ at_ < a ∧ (i : Int) ≤ x.kids ∧ Hid (Kids w ⟨B, some ⟨b, o, none⟩, t.length, c, Bt, Bw, Bm, Bd, Bk, M⟩ t x fm tot level (w.heap.size + 1) w.heap.size wr a I i wrg dp')) (fun _ iv wr => (x.kids - atI wr iv).toNat)
    case atStart =>
      have lw := HE.out.bw.lt
      have ld := HE.out.bd.lt
      have hX : twC x = [.int .u8 x.op, .int .i64 x.kids, .int .i64 0, .string x.text] := by unfold twC; rw [k6]
      have hde : deepAt at_ level d = d := by
        unfold deepAt
        rw [if_neg]
        rintro ⟨h, h'⟩
        have := HDD.out
        rw [h'] at this
        simp only [dI] at this
        omega
      refine ⟨at_ + 1, w.heap.size + 1 + 1, 0, _, -1, dp, rfl, rfl, fun _ => (by simp), by omega, by simpa using hk1, Lib.hid ⟨((((Turns.refl _ w).alloc _).alloc _).alloc _), ((HE.out.past (Below.new2 w _ _)).past (Below.new _ _)), ?_, ?_, ?_, ?_, .inl ⟨rfl, hlt, d, HDD.out.symm, ?_⟩⟩⟩
      · rw [HC.out]
        exact (Blk.new2 w _ 68 _).alloc _
      · rw [hX]
        exact ((Blk.new w 34 _).alloc _).alloc _
      · exact Blk.newAt (by simp) 3 [.int .i64 0]
      · rintro (e | e) <;> simp only at e lw ld <;> omega
      · rw [HTOT.out, hde]
        simp
    case round =>
      obtain ⟨a, I, i, nx, wrg, dp', rfl, rfl, hnx, ha, hi, hK⟩ := hrel
      have cX := hK.out.bX.cell 1
      have cI := hK.out.bI.cell 0
      have cW := hK.out.env.bw.cell 0
      have cK := hK.out.env.bk.cell 0
      unfold twC at cX
      simp only [List.getElem?_cons_zero, List.getElem?_cons_succ] at cX cI cW cK
      rcases hK.out.st with ⟨rfl, hal, d', hd', htt⟩ | ⟨p, rfl, htt⟩
      · obtain rfl := hnx rfl
        by_cases hlt1 : (i : Int) < x.kids
        · have lw := HE.out.bw.lt
          have ld := HE.out.bd.lt
          have nF : ¬ (⟨B, some ⟨b, o, none⟩, t.length, c, Bt, Bw, Bm, Bd, Bk, M⟩ : Ck).S (w.heap.size + 1) := by rintro (e | e) <;> simp only at e lw ld <;> omega
          have nX : ¬ (⟨B, some ⟨b, o, none⟩, t.length, c, Bt, Bw, Bm, Bd, Bk, M⟩ : Ck).S w.heap.size := by rintro (e | e) <;> simp only at e lw ld <;> omega
          subst hd'
          have hcall := HIH.out wr a 34 _ _ d' ha hal hK.out.env (MayF.of HF.out ⟨(by omega : (0 : Int) ≤ (i : Int)), by omega⟩ ⟨hk1, by omega⟩ hK.out.bF hK.out.bI hK.out.bX nF hK.out.nI nX)
          rw [show (x.kids - (i : Int)).toNat = (x.kids - ((i + 1 : Nat) : Int)).toNat + 1 from by omega, ckr_one] at htt
          clear gM gW gD gF hnx
          have hw1 : wr.heap.size ≤ wr.heap.size := Nat.le_refl _
          rcases hq : ckr t a (level + 1) (.of x.op i x.kids) 1 d' with ep | ⟨a2, d2⟩
          · rw [hq] at hcall htt
            have HCALL := Lib.hid hcall
            have HTT := Lib.hid htt
            clear hcall htt hq
            go_wp2_with (go_at_call 33; refine HCALL.out.mono ?_; rintro e wn ⟨hT, v, dp2, rfl, hEn⟩; have HT2 := Lib.hid hT; have HE2 := Lib.hid hEn; have cI2 := (hK.out.bI.turns HT2.out hK.out.nI).cell 0; simp only [List.getElem?_cons_zero] at cI2; clear hT hEn)
            have nI2 : ¬ (⟨B, some ⟨b, o, none⟩, t.length, c, Bt, Bw, Bm, Bd, Bk, M⟩ : Ck).S wn.heap.size := by
              have e1 := HE2.out.bw.lt
              have e2 := HE2.out.bd.lt
              rintro (e | e) <;> simp only at e e1 e2 <;> omega
            have hIw : Blk (wn.alloc (.cells #[.int .i64 ((i : Int) + 1)] 3)) wn.heap.size 3 [.int .i64 (((i + 1 : Nat) : Int))] := Blk.new wn 3 [.int .i64 ((i : Int) + 1)]
            refine ⟨⟨a, wn.heap.size, i + 1, v, (ep : Int), dp2, rfl, rfl, fun e => (by omega), ha, by omega, Lib.hid ⟨(hK.out.tr.then HT2.out).alloc _, HE2.out.past (Below.new _ _), (hK.out.bF.turns HT2.out nF).alloc _, (hK.out.bX.turns HT2.out nX).alloc _, hIw, nI2, .inr ⟨ep, rfl, HTT.out⟩⟩⟩, ?_⟩
            rw [atI_blk hIw, atI_blk hK.out.bI]
            omega
          · have hle := ckr_le hal hq
            rw [hq] at hcall htt
            have HCALL := Lib.hid hcall
            have HTT := Lib.hid htt
            clear hcall htt hq
            go_wp2_with (go_at_call 33; refine HCALL.out.mono ?_; rintro e wn ⟨hT, rfl, hEn⟩; have HT2 := Lib.hid hT; have HE2 := Lib.hid hEn; have cI2 := (hK.out.bI.turns HT2.out hK.out.nI).cell 0; simp only [List.getElem?_cons_zero] at cI2; clear hT hEn)
            have nI2 : ¬ (⟨B, some ⟨b, o, none⟩, t.length, c, Bt, Bw, Bm, Bd, Bk, M⟩ : Ck).S wn.heap.size := by
              have e1 := HE2.out.bw.lt
              have e2 := HE2.out.bd.lt
              rintro (e | e) <;> simp only at e e1 e2 <;> omega
            have hIw : Blk (wn.alloc (.cells #[.int .i64 ((i : Int) + 1)] 3)) wn.heap.size 3 [.int .i64 (((i + 1 : Nat) : Int))] := Blk.new wn 3 [.int .i64 ((i : Int) + 1)]
            refine ⟨⟨a2, wn.heap.size, i + 1, _, -1, dI d2, rfl, rfl, fun _ => rfl, by omega, by omega, Lib.hid ⟨(hK.out.tr.then HT2.out).alloc _, HE2.out.past (Below.new _ _), (hK.out.bF.turns HT2.out nF).alloc _, (hK.out.bX.turns HT2.out nX).alloc _, hIw, nI2, .inl ⟨rfl, hle.2.1, d2, rfl, HTT.out⟩⟩⟩, ?_⟩
            rw [atI_blk hIw, atI_blk hK.out.bI]
            omega
        · have HTT := Lib.hid htt
          clear htt hnx
          clear gM gW gD gF
          go_wp2_with fail
          go_ret
          rw [HTT.out, show (x.kids - i).toNat = 0 from by omega, ckr_zero]
          exact ⟨hK.out.tr, rfl, hd' ▸ hK.out.env⟩
      · have HTT := Lib.hid htt
        clear htt hnx
        clear gM gW gD gF
        by_cases hlt1 : (i : Int) < x.kids
        · go_wp2_with fail
          go_ret
          rw [HTT.out]
          exact ⟨hK.out.tr, _, _, rfl, hK.out.env⟩
        · go_wp2_with fail
          go_ret
          rw [HTT.out]
          exact ⟨hK.out.tr, _, _, rfl, hK.out.env⟩
end Go.Proofs.Ytmacmejpcpdnnaa
