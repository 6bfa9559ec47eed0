/- The document's queue (prompterref22): Open. -/
import Derived.Test.YtpbheicfplpemaaGreatRqTask
import Derived.Test.YtpbheicfplpemaaGreatRqApp
import Derived.Test.YtpbheicfplpemaaGreatQuOpen
namespace Go.Proofs.YtpbheicfplpemaaGreat
open Go.RowKit

theorem keyO_id (ts : List Tk) (k : ByteArray) : keyO (ts.map idT) k = keyT ts k := by
  unfold keyO keyT
  induction ts with
  | nil => rfl
  | cons t ts ih => simp only [List.map_cons, List.any_cons, ih]; rfl
def ROpenQ (w : World) (l : List UInt8) (e : Ending) (w' : World) : Prop :=
  (match rdQ l with
  | .ok (x, n) => ∃ r iv av, e = .returned (.tuple #[.pointer (some ⟨r, 0, none⟩), .int .i64 (n : Int), .int .i64 0]) ∧ RQ w' r (x.most : Int) x.grace ((x.next : Int) - 1) iv av (x.ts.map idT) x.zs ∧ (∀ i, RQSet r iv av i → w.heap.size ≤ i)
  | .error (p, en) => e = .returned (.tuple #[.pointer none, .int .i64 (p : Int), .int .i64 (en : Int)])) ∧ Below w.heap.size w w'
theorem ROpenQ.er {w w' : World} {l : List UInt8} {p en : Nat} (h : rdQ l = .error (p, en)) (hb : Below w.heap.size w w') : ROpenQ w l (.returned (.tuple #[.pointer none, .int .i64 (p : Int), .int .i64 (en : Int)])) w' := by
  unfold ROpenQ
  rw [h]
  exact ⟨rfl, hb⟩
/-- how far the document's Open is, among those that wait -/
structure RI1 (w wr : World) (l : List UInt8) (r : Nat) (h : Nat × Int × Nat) (n i a : Nat) (iv : Value) (ts : List Tk) : Prop where
  rq : RQ wr r (h.1 : Int) h.2.1 ((h.2.2 : Int) - 1) iv (.slice none 0 0) (ts.map idT) []
  low : ∀ j, RQSet r iv (.slice none 0 0) j → w.heap.size ≤ j
  B : Below w.heap.size w wr
  eq : rdQ l = rest1 l h (n - i) a ts
  len : ts.length = i
  le : i ≤ n
  at_ : a ≤ l.length
structure RI2 (w wr : World) (l : List UInt8) (r : Nat) (h : Nat × Int × Nat) (n i a : Nat) (iv av : Value) (ts : List Tk) (last : Int) (zs : List Ot) : Prop where
  rq : RQ wr r (h.1 : Int) h.2.1 ((h.2.2 : Int) - 1) iv av (ts.map idT) zs
  low : ∀ j, RQSet r iv av j → w.heap.size ≤ j
  B : Below w.heap.size w wr
  eq : rdQ l = rest2 l h ts (n - i) a last zs
  len : zs.length = i
  le : i ≤ n
  at_ : a ≤ l.length
theorem rdHd_le {l : List UInt8} {h : Nat × Int × Nat} {t : Nat} (hr : rdHd l = .ok (h, t)) : t ≤ l.length := by
  unfold rdHd at hr
  cases h1 : rdNum l 0 with
  | error e => rw [h1] at hr; cases hr
  | ok p =>
    obtain ⟨m, t1⟩ := p
    rw [h1] at hr
    simp only at hr
    split at hr
    · cases hr
    · cases h2 : Cd.rdInt l t1 with
      | error e => rw [h2] at hr; cases hr
      | ok p =>
        obtain ⟨g, t2⟩ := p
        rw [h2] at hr
        simp only at hr
        split at hr
        · cases hr
        · cases h3 : rdNum l t2 with
          | error e => rw [h3] at hr; cases hr
          | ok p =>
            obtain ⟨x, t3⟩ := p
            rw [h3] at hr
            simp only at hr
            split at hr
            · cases hr
            · injection hr with hr; injection hr with _ hr; subst hr; exact (rdNum_le h3).1
theorem rdHd_er {l : List UInt8} {p en : Nat} (hr : rdHd l = .error (p, en)) : en ≠ 0 := by
  unfold rdHd at hr
  cases h1 : rdNum l 0 with
  | error e => rw [h1] at hr; injection hr with hr; subst hr; exact (rdNum_er (Nat.zero_le _) h1).2
  | ok q =>
    obtain ⟨m, t1⟩ := q
    rw [h1] at hr
    simp only at hr
    split at hr
    · injection hr with hr; injection hr with _ hr; omega
    · cases h2 : Cd.rdInt l t1 with
      | error e => rw [h2] at hr; injection hr with hr; subst hr; have := rdInt_er (rdNum_le h1).1 h2; omega
      | ok q =>
        obtain ⟨g, t2⟩ := q
        rw [h2] at hr
        simp only at hr
        split at hr
        · injection hr with hr; injection hr with _ hr; omega
        · cases h3 : rdNum l t2 with
          | error e => rw [h3] at hr; injection hr with hr; subst hr; exact (rdNum_er (rdInt_le h2) h3).2
          | ok q =>
            obtain ⟨x, t3⟩ := q
            rw [h3] at hr
            simp only at hr
            split at hr
            · injection hr with hr; injection hr with _ hr; omega
            · cases hr
theorem rdTk_er {l : List UInt8} {a p en : Nat} (hr : rdTk l a = .error (p, en)) : en ≠ 0 := by
  unfold rdTk at hr
  split at hr
  · cases hr
  · rename_i h; injection hr with hr; rw [hr] at h; exact h
theorem rdOt_er {l : List UInt8} {a p en : Nat} (hr : rdOt l a = .error (p, en)) : en ≠ 0 := by
  unfold rdOt at hr
  split at hr
  · cases hr
  · rename_i h; injection hr with hr; rw [hr] at h; exact h
theorem rdOt_bd {l : List UInt8} {a tz : Nat} {y : Ot} (ha : a ≤ l.length) (hr : rdOt l a = .ok (y, tz)) : 0 ≤ y.token ∧ y.token ≤ 4611686018427387904 ∧ 0 ≤ y.tk.att := by
  unfold rdOt at hr
  split at hr
  · rename_i h0
    injection hr with hr
    injection hr with hr _
    subst hr
    unfold ot5 at h0 ⊢
    simp only at h0 ⊢
    have l1 := aT (l := l) (a, 0) ha
    have l2 := aN (l := l) _ l1.1
    have l3 := aT (l := l) _ l2.1
    have l4 := aI (l := l) _ l3.1
    have l5 := aN (l := l) _ l4.1
    obtain ⟨k5, _⟩ := l5.2.1 h0
    obtain ⟨k4, _⟩ := l4.2.1 k5
    obtain ⟨k3, _⟩ := l3.2.1 k4
    obtain ⟨_, x2, n2, r2, q2⟩ := l2.2.1 k3
    have := (rdNum_le r2).2
    rw [q2]
    simp only
    omega
  · cases hr
set_option maxRecDepth 20000 in
set_option maxHeartbeats 8000000 in
theorem rqOpen (w : World) (A : Option Addr) (cap : Nat) (l : List UInt8) (h : In w A l.length cap l) (hsz : l.length ≤ 1000000) :
    Calls Tryz.prog 7 #[.slice A l.length cap] w (ROpenQ w l) := by
  obtain ⟨i0, hi, hz0, hz1, hz2⟩ := info_parts info_rtask
  have II := Lib.hid h
  have HH := Lib.hid (rqHead w A l.length cap l h.bs hsz)
  clear h
  rcases h1 : rdHd l with ⟨p, en⟩ | ⟨⟨m, g, x⟩, t⟩
  · have HR : Hid (rdQ l = .error (p, en)) := Lib.hid (by unfold rdQ; rw [h1])
    have hen : ((en : Int) != 0) = true := by rw [bne_iff_ne]; have := rdHd_er h1; omega
    unfold RHeadY at HH
    rw [h1] at HH
    clear h1
    go_enter Tryz.func7, Tryz.ntmps7
    go_wp2_with fail
    refine HH.out.mono ?_
    rintro e w1 ⟨rfl, hb⟩
    have HB := Lib.hid hb
    clear hb
    go_wp2_with fail
    go_ret3
    exact ROpenQ.er HR.out HB.out
  · have HR : Hid (rdQ l = rdQw l (m, g, x) t) := Lib.hid (by unfold rdQ; rw [h1])
    have htl := rdHd_le h1
    unfold RHeadY at HH
    rw [h1] at HH
    clear h1
    go_enter Tryz.func7, Tryz.ntmps7
    go_wp2_with fail
    refine HH.out.mono ?_
    rintro e w1 ⟨⟨r, rfl, hq, hl⟩, hb⟩
    have HQ := Lib.hid hq
    have HL := Lib.hid hl
    have HB := Lib.hid hb
    have I1 := Lib.hid (II.out.below hb)
    clear hq hl hb HH
    have HCn := Lib.hid (rqCount w1 A l.length cap l t I1.out.bs htl hsz)
    rcases h2 : rdCnt l t with ⟨p, en⟩ | ⟨n, t4⟩
    · have hen : ((en : Int) != 0) = true := by rw [bne_iff_ne]; have := (rdCnt_er htl h2).2; omega
      have HRE : Hid (rdQ l = .error (p, en)) := Lib.hid (by rw [HR.out]; unfold rdQw; rw [h2])
      have HS2 := Lib.hid h2
      clear h2
      go_wp2_with fail
      refine HCn.out.mono ?_
      rintro e w' ⟨hs, hw⟩; subst w'
      obtain rfl := hs.of_error HS2.out
      go_wp2_with fail
      go_ret3
      exact ROpenQ.er HRE.out HB.out
    · have HS2 := Lib.hid h2
      have ht4 := rdCnt_le h2
      have J0 : Hid (RI1 w w1 l r (m, g, x) n 0 t4 (.slice none 0 0) []) := Lib.hid ⟨HQ.out, fun j hj => by
        rcases hj with rfl | hj | hj
        · exact HL.out
        · simp [Value.ownBlock] at hj
        · simp [Value.ownBlock] at hj, HB.out, by rw [HR.out]; unfold rdQw rest1; rw [h2]; rfl, rfl, Nat.zero_le _, ht4.1⟩
      have hn64 : n ≤ 65536 := ht4.2
      clear h2 ht4 HQ HL I1
      go_wp2_with fail
      refine HCn.out.mono ?_
      rintro e w' ⟨hs, hw⟩; subst w'
      obtain rfl := hs.of_ok HS2.out
      unfold natV
      clear hs HCn HS2
      go_wp2_with fail
      go_loopw [6, 9] (fun av iv wr => ∃ (i a : Nat) (lv : Value) (ts : List Tk), av = .int .i64 (a : Int) ∧ iv = .int .i64 (i : Int) ∧ Hid (RI1 w wr l r (m, g, x) n i a lv ts)) (fun _ iv _ => n - (intOf iv).toNat)
      case atStart => exact ⟨0, t4, _, _, rfl, rfl, J0⟩
      case round =>
        clear J0 HB
        obtain ⟨i, a, lv, ts, rfl, rfl, J⟩ := hrel
        have hin := J.out.le
        have hal := J.out.at_
        by_cases hlt : i < n
        · have hlt1 : (i : Int) < (n : Int) := by omega
          obtain ⟨k, hk⟩ : ∃ k, n - i = k + 1 := ⟨n - i - 1, by omega⟩
          have HEQ : Hid (rdQ l = rest1 l (m, g, x) (k + 1) a ts) := Lib.hid (by rw [← hk]; exact J.out.eq)
          have hk2 : n - (i + 1) = k := by omega
          have HT := Lib.hid (rqWaiting wr A cap l a (II.out.below J.out.B) hal hsz)
          clear hk
          rcases ht : rdTk l a with ⟨p, en⟩ | ⟨tk, tz⟩
          · have hen : ((en : Int) != 0) = true := by rw [bne_iff_ne]; have := rdTk_er ht; omega
            have HRE : Hid (rdQ l = .error (p, en)) := Lib.hid (by rw [HEQ.out]; exact rest1_er ht)
            rw [ht] at HT
            clear ht
            go_wp2_with fail
            refine HT.out.mono ?_
            rintro e w2 ⟨⟨y, tz, en2, rfl, h2, h3⟩, hb⟩
            subst h2 h3
            have HB2 := Lib.hid (below_trans' J.out.B hb)
            clear hb HT
            unfold otV
            go_wp2_with fail
            go_ret3
            exact ROpenQ.er HRE.out (HB2.out.trans ((Below.new w2 _).mono HB2.out.size))
          · rw [ht] at HT
            go_wp2_with fail
            refine HT.out.mono ?_
            rintro e w2 ⟨⟨y, tz, en2, rfl, h2, h3, h4⟩, hb⟩
            subst h2 h3 h4
            have htz := rdTk_le hal ht
            have BX := Lib.hid (Below.new w2 (.cells (otC (idT tk)).toArray 64))
            have KX := Lib.hid (Blk.new w2 64 (otC (idT tk)))
            have JQ := Lib.hid ((J.out.rq.bel hb).bel BX.out)
            have HB2 := Lib.hid (below_trans' (below_trans' J.out.B hb) BX.out)
            obtain ⟨A0, c0, rfl⟩ := own_slice' JQ.out.idle
            have hfew : ts.length ≤ 65536 := by have := J.out.len; omega
            have hnew : Hid (w.heap.size ≤ w2.heap.size) := Lib.hid (Nat.le_trans J.out.B.size hb.size)
            have HTk := Lib.hid ht
            have hml : (ts.map idT).length = ts.length := List.length_map _
            have HGb : Hid (∀ g', (Value.slice A0 (ts.map idT).length c0).ownBlock = some g' → w.heap.size ≤ g' ∧ g' < w2.heap.size) := Lib.hid (fun g' e => ⟨J.out.low g' (.inr (.inl e)), Nat.lt_of_lt_of_le (own_lt J.out.rq.idle e).2 hb.size⟩)
            have HRL : Hid (w.heap.size ≤ r ∧ r < w2.heap.size) := Lib.hid ⟨J.out.low r (.inl rfl), Nat.lt_of_lt_of_le J.out.rq.blk.lt hb.size⟩
            have HJat := Lib.hid J.out.len
            clear HT hb ht
            simp only [otC, idT] at BX KX HB2 JQ
            unfold otV idT
            dsimp only
            (try dsimp only at BX KX HB2 JQ)
            have HKy : Hid (findI (ts.map idT) tk.key < 0 ↔ keyT ts tk.key = false) := Lib.hid (by
              rw [← keyO_id]
              have := findI_key (zs := ts.map idT) (k := tk.key)
              cases hk : keyO (ts.map idT) tk.key with
              | true => have := this.1 hk; simp; omega
              | false => have := this.2 hk; simp; omega)
            go_upto_region 13 with (fail)
            generalize w2.alloc (.cells #[.string tk.key, .string tk.sticky, .int .i64 tk.ready, .int .i64 tk.att, .int .i64 0, .string ⟨#[]⟩, .int .i64 0] 64) = X at *
            obtain ⟨bx, hbx⟩ : ∃ b, w2.heap.size = b := ⟨_, rfl⟩
            rw [hbx] at KX HGb HRL hnew BX ⊢
            have HBX := Lib.hid hbx
            clear hbx
            obtain ⟨_, _, _, q3, _⟩ := JQ.out.cells
            have t0 := KX.out.cell 0
            simp only [List.getElem?_cons_zero] at t0
            have HF : Hid (∀ n', Calls Tryz.prog 28 #[.slice A0 (ts.map idT).length c0, .string tk.key] (X.drewN n') fun e w'' => e = .returned (.int .i64 (findI (ts.map idT) tk.key)) ∧ ∃ m', w'' = X.drewN m') := Lib.hid (fun n' =>
              (rqFind (X.drewN n') _ (ts.map idT) (JQ.out.bel (below_drewN' (Below.refl _ _) n')).idle (by rw [hml]; omega) tk.key).mono fun _ _ ⟨he, hj⟩ => ⟨he, n', hj⟩)
            generalize findI (ts.map idT) tk.key = fi at *
            obtain ⟨I, hI⟩ : ∃ I, ts.map idT = I := ⟨_, rfl⟩
            have hIl : I.length = i := by rw [← hI, hml]; exact J.out.len
            rw [hI] at JQ HF q3 HGb
            have HI := Lib.hid hI
            have HIl := Lib.hid hIl
            have HJ := Lib.hid J.out.rq.few
            clear hI hml J hIl
            generalize hil : I.length = iL at *
            have HIL := Lib.hid hil
            clear hil
            by_cases hfi : 0 ≤ fi
            · have hf1 : decide ((0 : Int) ≤ fi) = true := decide_eq_true hfi
              have HRE : Hid (rdQ l = .error (a, 6)) := Lib.hid (by
                rw [HEQ.out]
                refine rest1_there HTk.out ?_
                cases hk : keyT ts tk.key with
                | true => rfl
                | false => have := HKy.out.2 hk; omega)
              go_quiet (first | (go_at_call 28; exact HF.out _))
              go_wp2_with fail
              go_ret3
              exact ROpenQ.er HRE.out (below_trans' HB2.out (below_drewN' (Below.refl _ _) nq))
            · have hf1 : decide ((0 : Int) ≤ fi) = false := decide_eq_false hfi
              have hkt : Hid (keyT ts tk.key = false) := Lib.hid (HKy.out.1 (by omega))
              go_quiet (first | (go_at_call 28; exact HF.out _))
              have HDV := Lib.hid (below_drewN' (Below.refl X.heap.size X) nq)
              have JV := Lib.hid (JQ.out.bel HDV.out)
              have KV := Lib.hid (KX.out.bel HDV.out)
              have HBV := Lib.hid (below_trans' HB2.out HDV.out)
              have hxb : bx < X.heap.size := KX.out.lt
              have hxv : X.heap.size ≤ (X.drewN nq).heap.size := HDV.out.size
              clear HF HKy q3 t0 HDV JQ KX hf1 hfi
              go_upto_region 15 with (fail)
              generalize X.drewN nq = V at *
              obtain ⟨_, _, _, q1, _⟩ := JV.out.cells
              have zf := JV.out.blk.fz 3
              have u0 := KV.out.cell 0
              have u1 := KV.out.cell 1
              have u2 := KV.out.cell 2
              have u3 := KV.out.cell 3
              have u4 := KV.out.cell 4
              have u5 := KV.out.cell 5
              have u6 := KV.out.cell 6
              simp only [List.getElem?_cons_succ, List.getElem?_cons_zero] at u0 u1 u2 u3 u4 u5 u6
              have n1 := World.new_ne V _ q1
              have n2 := World.new_ne V _ u0
              have lx1 := World.block_lt_of_cell? V _ q1
              have lx2 := World.block_lt_of_cell? V _ u0
              simp only at n1 n2 lx1 lx2
              have hnews := Lib.hid (World.news_of_block (w := (V.alloc (.cells #[.string tk.key, .string tk.sticky, .int .i64 tk.ready, .int .i64 tk.att, .int .i64 0, .string ⟨#[]⟩, .int .i64 0] 64)).drew) (B := V.heap.size) (cs := #[.string tk.key, .string tk.sticky, .int .i64 tk.ready, .int .i64 tk.att, .int .i64 0, .string ⟨#[]⟩, .int .i64 0]) (t := 64) (fr := (0, 0)) (heap_alloc_new V _))
              have hBX := below_drewN' (Below.new V (.cells #[.string tk.key, .string tk.sticky, .int .i64 tk.ready, .int .i64 tk.att, .int .i64 0, .string ⟨#[]⟩, .int .i64 0] 64)) 1
              have hown0 := own_turns JV.out.idle (.of_below (S := fun _ => False) hBX) (fun _ _ => id)
              rw [HIL.out] at hown0
              have hown := Lib.hid hown0
              have HBB := Lib.hid (JV.out.blk.bel hBX)
              have HBX2 := Lib.hid hBX
              have zfA : (V.alloc (.cells #[.string tk.key, .string tk.sticky, .int .i64 tk.ready, .int .i64 tk.att, .int .i64 0, .string ⟨#[]⟩, .int .i64 0] 64)).drew.frozen? ⟨r, 3, none⟩ = false := HBB.out.fz 3
              have hnq : (Value.slice A0 iL c0).ownBlock ≠ some r := fun e => own_ne_blk JV.out.idle e JV.out.blk (by decide) rfl
              have hl1 : Hid (iL + 1 ≤ maxLen) := Lib.hid (by have := HIl.out; unfold maxLen; omega)
              have hl2 : Hid ((iL + 1) * 80 ≤ 140737488355328) := Lib.hid (by have := HIl.out; omega)
              clear hBX hown0
              go_region_law ((refine step_append_lies _ (by rfl) _ _ _ (by rfl) 0 64 i0 _ 7 80 Tryz.underlying38 hi hz0 hz1 hz2 rfl (by omega) (.slice A0 iL c0) iL _ (by rfl) hown.out ⟨V.heap.size, 0, none⟩ 1 1 [.string tk.key, .string tk.sticky, .int .i64 tk.ready, .int .i64 tk.att, .int .i64 0, .string ⟨#[]⟩, .int .i64 0] (by rfl) (by rfl) hnews.out (by intro u hu; simp at hu; rcases hu with rfl | rfl | rfl | rfl | rfl | rfl | rfl <;> rfl) (by omega) hl1.out hl2.out (Nat.zero_le _) (V.heap.size + 1) (by simp) ?_; intro ag cc1 y1 hown1 hgr1 hat1 hlt1; have hb4 := Lib.hid (HBB.out.turns (.of_grown (S := fun i => (Value.slice A0 iL c0).ownBlock = some i) hgr1 (fun r e => e)) (fun e => hnq e)); have c1 := hb4.out.cell 3; have y1z := hb4.out.fz 3; simp only [List.set_cons_succ, List.set_cons_zero, List.getElem?_cons_succ, List.getElem?_cons_zero] at c1))
              all_goals
                obtain ⟨hq2, ht2⟩ := rq_idle (x := idT tk) JV.out HIL.out HBX2.out hgr1 hown1 (hat1.imp id (fun e => Nat.le_of_eq e.symm)) (by have := HIl.out; omega)
                have HQ2 := Lib.hid hq2
                have HT2 := Lib.hid ht2
                have HAT := Lib.hid hat1
                clear hq2 ht2 hown1 hgr1 hat1 c1 y1z zf zfA q1 u0 u1 u2 u3 u4 u5 u6
                generalize y1.setCell ⟨r, 3, none⟩ (.slice (some ⟨ag, 0, none⟩) (iL + 1) cc1) = W2 at *
                go_wp2_with fail
                go_roundw
                case measure => simp only [intOf]; omega
                case rel =>
                  refine ⟨i + 1, tz, _, ts ++ [tk], by go_num, by go_num, Lib.hid ⟨by rw [List.map_append, HI.out]; exact HQ2.out, ?_, ?_, ?_, by rw [List.length_append, HJat.out]; rfl, hlt, htz⟩⟩
                  · rintro j (e | e | e)
                    · subst e; exact HRL.out.1
                    · simp [Value.ownBlock] at e
                      subst e
                      rcases HAT.out with e | e
                      · exact (HGb.out _ e).1
                      · have := HBV.out.size; omega
                    · simp [Value.ownBlock] at e
                  · refine ((Turns.of_below (S := fun j => w.heap.size ≤ j) HBV.out).then (HT2.out.mono (fun j _ e => ?_))).below (Nat.le_refl _) (fun _ _ e => e)
                    rcases e with e | e | e
                    · rw [e]; exact HRL.out.1
                    · exact (HGb.out _ e).1
                    · simp [Value.ownBlock] at e
                  · rw [HEQ.out, hk2]; exact rest1_go HTk.out hkt.out
        · obtain rfl : i = n := by omega
          have hlt1 : ¬ (i : Int) < (i : Int) := by omega
          have HR2 : Hid (rdQ l = rdQo l (m, g, x) (ts, a)) := Lib.hid (by have := J.out.eq; rw [Nat.sub_self] at this; exact this)
          have I2 := Lib.hid (II.out.below J.out.B)
          have HCn := Lib.hid (rqCount wr A l.length cap l a I2.out.bs hal hsz)
          rcases h2 : rdCnt l a with ⟨p, en⟩ | ⟨n2, t4⟩
          · have hen : ((en : Int) != 0) = true := by rw [bne_iff_ne]; have := (rdCnt_er hal h2).2; omega
            have HRE : Hid (rdQ l = .error (p, en)) := Lib.hid (by rw [HR2.out]; unfold rdQo; simp only; rw [h2])
            have HS2 := Lib.hid h2
            have HB := Lib.hid J.out.B
            clear h2
            go_wp2_with fail
            refine HCn.out.mono ?_
            rintro e w' ⟨hs, hw⟩; subst w'
            obtain rfl := hs.of_error HS2.out
            go_wp2_with fail
            go_ret3
            exact ROpenQ.er HRE.out HB.out
          · have HS2 := Lib.hid h2
            have ht4 := rdCnt_le h2
            have J0 : Hid (RI2 w wr l r (m, g, x) n2 0 t4 lv (.slice none 0 0) ts 0 []) := Lib.hid ⟨J.out.rq, J.out.low, J.out.B, by rw [HR2.out]; unfold rdQo rest2; simp only; rw [h2]; rfl, rfl, Nat.zero_le _, ht4.1⟩
            have hn65 : n2 ≤ 65536 := ht4.2
            clear h2 ht4 HR2 J I2
            go_wp2_with fail
            refine HCn.out.mono ?_
            rintro e w' ⟨hs, hw⟩; subst w'
            obtain rfl := hs.of_ok HS2.out
            unfold natV
            clear hs HCn HS2
            go_wp2_with fail
            go_loopw [6, 13, 14] (fun av lav iv wr => ∃ (i a : Nat) (last : Int) (zv : Value) (zs : List Ot), av = .int .i64 (a : Int) ∧ lav = .int .i64 last ∧ iv = .int .i64 (i : Int) ∧ Hid (RI2 w wr l r (m, g, x) n2 i a lv zv ts last zs)) (fun _ _ iv _ => n2 - (intOf iv).toNat)
            case atStart => exact ⟨0, t4, 0, _, _, rfl, rfl, rfl, J0⟩
            case round =>
              clear J0 hlt hlt1 hin hal
              obtain ⟨i2, a2, last, zv, zs, rfl, rfl, rfl, J⟩ := hrel
              have hin := J.out.le
              have hal := J.out.at_
              by_cases hlt : i2 < n2
              · have hlt1 : (i2 : Int) < (n2 : Int) := by omega
                obtain ⟨k, hk⟩ : ∃ k, n2 - i2 = k + 1 := ⟨n2 - i2 - 1, by omega⟩
                have HEQ : Hid (rdQ l = rest2 l (m, g, x) ts (k + 1) a2 last zs) := Lib.hid (by rw [← hk]; exact J.out.eq)
                have hk2 : n2 - (i2 + 1) = k := by omega
                have HT := Lib.hid (rqAway wr A cap l a2 (II.out.below J.out.B) hal hsz)
                clear hk
                rcases ht : rdOt l a2 with ⟨p, en⟩ | ⟨y, tz⟩
                · have hen : ((en : Int) != 0) = true := by rw [bne_iff_ne]; have := rdOt_er ht; omega
                  have HRE : Hid (rdQ l = .error (p, en)) := Lib.hid (by rw [HEQ.out]; exact rest2_er ht)
                  rw [ht] at HT
                  clear ht
                  go_wp2_with fail
                  refine HT.out.mono ?_
                  rintro e w2 ⟨⟨y, tz, en2, rfl, h2, h3⟩, hb⟩
                  subst h2 h3
                  have HB2 := Lib.hid (below_trans' J.out.B hb)
                  clear hb HT
                  unfold otV
                  go_wp2_with fail
                  go_ret3
                  exact ROpenQ.er HRE.out (HB2.out.trans ((Below.new w2 _).mono HB2.out.size))
                · rw [ht] at HT
                  have hyb : 0 ≤ y.token ∧ y.token ≤ 4611686018427387904 ∧ 0 ≤ y.tk.att := rdOt_bd hal ht
                  go_wp2_with fail
                  refine HT.out.mono ?_
                  rintro e w2 ⟨⟨y2, tz, en2, rfl, h2, h3, h4⟩, hb⟩
                  subst h2 h3 h4
                  have htz := rdOt_le hal ht
                  have BX := Lib.hid (Below.new w2 (.cells (otC y2).toArray 64))
                  have KX := Lib.hid (Blk.new w2 64 (otC y2))
                  have JQ := Lib.hid ((J.out.rq.bel hb).bel BX.out)
                  have HB2 := Lib.hid (below_trans' (below_trans' J.out.B hb) BX.out)
                  obtain ⟨A0, c0, rfl⟩ := own_slice' JQ.out.idle
                  obtain ⟨A3, c3, rfl⟩ := own_slice' JQ.out.away
                  have hfew : zs.length ≤ 65536 := by have := J.out.len; omega
                  have hnew : Hid (w.heap.size ≤ w2.heap.size) := Lib.hid (Nat.le_trans J.out.B.size hb.size)
                  have HTk := Lib.hid ht
                  have hml : (ts.map idT).length = ts.length := List.length_map _
                  have HGb : Hid (∀ g', RQSet r (.slice A0 (ts.map idT).length c0) (.slice A3 zs.length c3) g' → w.heap.size ≤ g' ∧ g' < w2.heap.size) := Lib.hid (fun g' e => ⟨J.out.low g' e, Nat.lt_of_lt_of_le (J.out.rq.lts g' e) hb.size⟩)
                  have HJat := Lib.hid J.out.len
                  have HIf := Lib.hid J.out.rq.few
                  clear HT hb ht
                  simp only [otC] at BX KX HB2 JQ
                  unfold otV
                  (try dsimp only)
                  (try dsimp only at BX KX HB2 JQ)
                  have HKy : Hid ((0 ≤ findI (ts.map idT) y2.tk.key ∨ 0 ≤ findI zs y2.tk.key) ↔ (keyT ts y2.tk.key || keyO zs y2.tk.key) = true) := Lib.hid (by
                    rw [← keyO_id]
                    have h1 := findI_key (zs := ts.map idT) (k := y2.tk.key)
                    have h2 := findI_key (zs := zs) (k := y2.tk.key)
                    cases hk : keyO (ts.map idT) y2.tk.key with
                    | true => have := h1.1 hk; simp; omega
                    | false =>
                      have e1 := h1.2 hk
                      cases hk2 : keyO zs y2.tk.key with
                      | true => have := h2.1 hk2; simp; omega
                      | false => have e2 := h2.2 hk2; simp; omega)
                  go_wp2_with fail
                  generalize w2.alloc (.cells #[.string y2.tk.key, .string y2.tk.sticky, .int .i64 y2.tk.ready, .int .i64 y2.tk.att, .int .i64 y2.token, .string y2.worker, .int .i64 y2.until_] 64) = X at *
                  obtain ⟨bx, hbx⟩ : ∃ b, w2.heap.size = b := ⟨_, rfl⟩
                  rw [hbx] at KX HGb hnew BX ⊢
                  have HBX := Lib.hid hbx
                  clear hbx
                  obtain ⟨_, _, q2, q3, q4⟩ := JQ.out.cells
                  have t0 := KX.out.cell 0
                  have t3 := KX.out.cell 3
                  have t4 := KX.out.cell 4
                  simp only [List.getElem?_cons_succ, List.getElem?_cons_zero] at t0 t3 t4
                  have HF : Hid (∀ n', Calls Tryz.prog 28 #[.slice A0 (ts.map idT).length c0, .string y2.tk.key] (X.drewN n') fun e w'' => e = .returned (.int .i64 (findI (ts.map idT) y2.tk.key)) ∧ ∃ m', w'' = X.drewN m') := Lib.hid (fun n' =>
                    (rqFind (X.drewN n') _ (ts.map idT) (JQ.out.bel (below_drewN' (Below.refl _ _) n')).idle HIf.out.1 y2.tk.key).mono fun _ _ ⟨he, hj⟩ => ⟨he, n', hj⟩)
                  have HG : Hid (∀ n', Calls Tryz.prog 28 #[.slice A3 zs.length c3, .string y2.tk.key] (X.drewN n') fun e w'' => e = .returned (.int .i64 (findI zs y2.tk.key)) ∧ ∃ m', w'' = X.drewN m') := Lib.hid (fun n' =>
                    (rqFind (X.drewN n') _ zs (JQ.out.bel (below_drewN' (Below.refl _ _) n')).away (by omega) y2.tk.key).mono fun _ _ ⟨he, hj⟩ => ⟨he, n', hj⟩)
                  generalize findI (ts.map idT) y2.tk.key = fi at *
                  generalize findI zs y2.tk.key = fz at *
                  obtain ⟨I, hI⟩ : ∃ I, ts.map idT = I := ⟨_, rfl⟩
                  rw [hI] at JQ HF q3 HGb
                  have HI := Lib.hid hI
                  clear hI hml J
                  generalize hil : I.length = iL at *
                  generalize hzl : zs.length = zL at *
                  have HIL := Lib.hid hil
                  have HZL := Lib.hid hzl
                  clear hil hzl
                  by_cases hfi : 0 ≤ fi
                  · have hf1 : decide ((0 : Int) ≤ fi) = true := decide_eq_true hfi
                    have HRE : Hid (rdQ l = .error (a2, 6)) := Lib.hid (by rw [HEQ.out]; exact rest2_there HTk.out (HKy.out.1 (by omega)))
                    go_quiet (first | (go_at_call 28; with_reducible exact HF.out _) | (go_at_call 28; with_reducible exact HG.out _))
                    go_wp2_with fail
                    go_ret3
                    exact ROpenQ.er HRE.out (below_trans' HB2.out (below_drewN' (Below.refl _ _) nq))
                  by_cases hfz : 0 ≤ fz
                  · have hf1 : decide ((0 : Int) ≤ fi) = false := decide_eq_false hfi
                    have hf2 : decide ((0 : Int) ≤ fz) = true := decide_eq_true hfz
                    have HRE : Hid (rdQ l = .error (a2, 6)) := Lib.hid (by rw [HEQ.out]; exact rest2_there HTk.out (HKy.out.1 (by omega)))
                    go_quiet (first | (go_at_call 28; with_reducible exact HF.out _) | (go_at_call 28; with_reducible exact HG.out _))
                    go_wp2_with fail
                    go_ret3
                    exact ROpenQ.er HRE.out (below_trans' HB2.out (below_drewN' (Below.refl _ _) nq))
                  have hf1 : decide ((0 : Int) ≤ fi) = false := decide_eq_false hfi
                  have hf2 : decide ((0 : Int) ≤ fz) = false := decide_eq_false hfz
                  have HNK : Hid ((keyT ts y2.tk.key || keyO zs y2.tk.key) = false) := Lib.hid (by cases hk : (keyT ts y2.tk.key || keyO zs y2.tk.key) with | true => (have := HKy.out.2 hk; omega) | false => rfl)
                  go_quiet (first | (go_at_call 28; with_reducible exact HF.out _) | (go_at_call 28; with_reducible exact HG.out _))
                  have HDV := Lib.hid (below_drewN' (Below.refl X.heap.size X) nq)
                  have JV := Lib.hid (JQ.out.bel HDV.out)
                  have KV := Lib.hid (KX.out.bel HDV.out)
                  have HBV := Lib.hid (below_trans' HB2.out HDV.out)
                  clear HF HG HKy q2 q3 q4 t0 t3 t4 HDV JQ KX hf1 hfi hf2 hfz
                  generalize X.drewN nq = V at *
                  obtain ⟨_, _, q2, _, _⟩ := JV.out.cells
                  have t3 := KV.out.cell 3
                  have t4 := KV.out.cell 4
                  simp only [List.getElem?_cons_succ, List.getElem?_cons_zero] at t3 t4
                  by_cases hb1 : y2.token ≤ last
                  · have r1 : decide (y2.token ≤ last) = true := decide_eq_true hb1
                    have HBD : Hid (badO (x : Nat) last y2 = true) := Lib.hid (by unfold badO; simp [hb1])
                    have HRE : Hid (rdQ l = .error (a2, 3)) := Lib.hid (by rw [HEQ.out]; exact rest2_bad HTk.out HNK.out HBD.out)
                    clear hb1
                    go_wp2_with fail
                    go_quiet (fail)
                    go_wp2_with fail
                    go_ret3
                    exact ROpenQ.er HRE.out (below_trans' HBV.out (below_drewN' (Below.refl _ _) nq))
                  by_cases hb2 : (x : Int) ≤ y2.token
                  · have r1 : decide (y2.token ≤ last) = false := decide_eq_false hb1
                    have r2 : decide ((x : Int) - 1 < y2.token) = true := decide_eq_true (by omega)
                    have HBD : Hid (badO (x : Nat) last y2 = true) := Lib.hid (by unfold badO; simp [hb2])
                    have HRE : Hid (rdQ l = .error (a2, 3)) := Lib.hid (by rw [HEQ.out]; exact rest2_bad HTk.out HNK.out HBD.out)
                    clear hb2
                    go_wp2_with fail
                    go_quiet (fail)
                    go_wp2_with fail
                    go_ret3
                    exact ROpenQ.er HRE.out (below_trans' HBV.out (below_drewN' (Below.refl _ _) nq))
                  by_cases hb3 : y2.tk.att = 0
                  · have r1 : decide (y2.token ≤ last) = false := decide_eq_false hb1
                    have r2 : decide ((x : Int) - 1 < y2.token) = false := decide_eq_false (by omega)
                    have r3 : (y2.tk.att == 0) = true := by rw [beq_iff_eq]; exact hb3
                    have HBD : Hid (badO (x : Nat) last y2 = true) := Lib.hid (by unfold badO; simp [hb3])
                    have HRE : Hid (rdQ l = .error (a2, 3)) := Lib.hid (by rw [HEQ.out]; exact rest2_bad HTk.out HNK.out HBD.out)
                    clear hb3
                    go_wp2_with fail
                    go_quiet (fail)
                    go_wp2_with fail
                    go_ret3
                    exact ROpenQ.er HRE.out (below_trans' HBV.out (below_drewN' (Below.refl _ _) nq))
                  have r1 : decide (y2.token ≤ last) = false := decide_eq_false hb1
                  have r2 : decide ((x : Int) - 1 < y2.token) = false := decide_eq_false (by omega)
                  have r3 : (y2.tk.att == 0) = false := by rw [beq_eq_false_iff_ne]; exact hb3
                  have HBD : Hid (badO (x : Nat) last y2 = false) := Lib.hid (by unfold badO; simp only [Bool.or_eq_false_iff, decide_eq_false_iff_not]; exact ⟨⟨hb1, hb2⟩, hb3⟩)
                  clear hb1 hb2 hb3
                  go_wp2_with fail
                  go_quiet (fail)
                  go_wp2_with fail
                  have HDV := Lib.hid (below_drewN' (Below.refl V.heap.size V) nq)
                  have JV := Lib.hid (JV.out.bel HDV.out)
                  have KV := Lib.hid (KV.out.bel HDV.out)
                  have HBV := Lib.hid (below_trans' HBV.out HDV.out)
                  clear q2 t3 t4 r1 r2 r3 HDV
                  generalize V.drewN nq = V at *
                  obtain ⟨_, _, _, _, q1⟩ := JV.out.cells
                  have zf := JV.out.blk.fz 4
                  have u0 := KV.out.cell 0
                  have u1 := KV.out.cell 1
                  have u2 := KV.out.cell 2
                  have u3 := KV.out.cell 3
                  have u4 := KV.out.cell 4
                  have u5 := KV.out.cell 5
                  have u6 := KV.out.cell 6
                  simp only [List.getElem?_cons_succ, List.getElem?_cons_zero] at u0 u1 u2 u3 u4 u5 u6
                  have n1 := World.new_ne V _ q1
                  have n2 := World.new_ne V _ u0
                  have lx1 := World.block_lt_of_cell? V _ q1
                  have lx2 := World.block_lt_of_cell? V _ u0
                  simp only at n1 n2 lx1 lx2
                  have hnews := Lib.hid (World.news_of_block (w := (V.alloc (.cells #[.string y2.tk.key, .string y2.tk.sticky, .int .i64 y2.tk.ready, .int .i64 y2.tk.att, .int .i64 y2.token, .string y2.worker, .int .i64 y2.until_] 64)).drew) (B := V.heap.size) (cs := #[.string y2.tk.key, .string y2.tk.sticky, .int .i64 y2.tk.ready, .int .i64 y2.tk.att, .int .i64 y2.token, .string y2.worker, .int .i64 y2.until_]) (t := 64) (fr := (0, 0)) (heap_alloc_new V _))
                  have hBX := below_drewN' (Below.new V (.cells #[.string y2.tk.key, .string y2.tk.sticky, .int .i64 y2.tk.ready, .int .i64 y2.tk.att, .int .i64 y2.token, .string y2.worker, .int .i64 y2.until_] 64)) 1
                  have hown0 := own_turns JV.out.away (.of_below (S := fun _ => False) hBX) (fun _ _ => id)
                  rw [HZL.out] at hown0
                  have hown := Lib.hid hown0
                  have HBB := Lib.hid (JV.out.blk.bel hBX)
                  have HBX2 := Lib.hid hBX
                  have zfA : (V.alloc (.cells #[.string y2.tk.key, .string y2.tk.sticky, .int .i64 y2.tk.ready, .int .i64 y2.tk.att, .int .i64 y2.token, .string y2.worker, .int .i64 y2.until_] 64)).drew.frozen? ⟨r, 4, none⟩ = false := HBB.out.fz 4
                  have hnq : (Value.slice A3 zL c3).ownBlock ≠ some r := fun e => own_ne_blk JV.out.away e JV.out.blk (by decide) rfl
                  have hl1 : Hid (zL + 1 ≤ maxLen) := Lib.hid (by unfold maxLen; omega)
                  have hl2 : Hid ((zL + 1) * 80 ≤ 140737488355328) := Lib.hid (by omega)
                  clear hBX hown0
                  go_region_law ((refine step_append_lies _ (by rfl) _ _ _ (by rfl) 0 64 i0 _ 7 80 Tryz.underlying38 hi hz0 hz1 hz2 rfl (by omega) (.slice A3 zL c3) zL _ (by rfl) hown.out ⟨V.heap.size, 0, none⟩ 1 1 [.string y2.tk.key, .string y2.tk.sticky, .int .i64 y2.tk.ready, .int .i64 y2.tk.att, .int .i64 y2.token, .string y2.worker, .int .i64 y2.until_] (by rfl) (by rfl) hnews.out (by intro u hu; simp at hu; rcases hu with rfl | rfl | rfl | rfl | rfl | rfl | rfl <;> rfl) (by omega) hl1.out hl2.out (Nat.zero_le _) (V.heap.size + 1) (by simp) ?_; intro ag cc1 y1 hown1 hgr1 hat1 hlt1; have hb4 := Lib.hid (HBB.out.turns (.of_grown (S := fun i => (Value.slice A3 zL c3).ownBlock = some i) hgr1 (fun r e => e)) (fun e => hnq e)); have c1 := hb4.out.cell 4; have y1z := hb4.out.fz 4; simp only [List.set_cons_succ, List.set_cons_zero, List.getElem?_cons_succ, List.getElem?_cons_zero] at c1))
                  all_goals
                    obtain ⟨hq2, ht2⟩ := rq_away (x := y2) JV.out HZL.out HBX2.out hgr1 hown1 (hat1.imp id (fun e => Nat.le_of_eq e.symm)) (by omega)
                    have HQ2 := Lib.hid hq2
                    have HT2 := Lib.hid ht2
                    have HAT := Lib.hid hat1
                    clear hq2 ht2 hown1 hgr1 hat1 c1 y1z zf zfA q1 u0 u1 u2 u3 u4 u5 u6
                    generalize y1.setCell ⟨r, 4, none⟩ (.slice (some ⟨ag, 0, none⟩) (zL + 1) cc1) = W2 at *
                    go_wp2_with fail
                    go_roundw
                    case measure => simp only [intOf]; omega
                    case rel =>
                      refine ⟨i2 + 1, tz, y2.token, _, zs ++ [y2], by go_num, by go_num, by go_num, Lib.hid ⟨by rw [HI.out, HIL.out]; exact HQ2.out, ?_, ?_, ?_, by rw [List.length_append, HZL.out, HJat.out]; rfl, hlt, htz⟩⟩
                      · rintro j (e | e | e)
                        · exact (HGb.out j (.inl e)).1
                        · exact (HGb.out j (.inr (.inl (by rw [← HIL.out, ← HI.out]; exact e)))).1
                        · simp [Value.ownBlock] at e
                          subst e
                          rcases HAT.out with e | e
                          · exact (HGb.out _ (.inr (.inr e))).1
                          · have := HBV.out.size; omega
                      · exact ((Turns.of_below (S := fun j => w.heap.size ≤ j) HBV.out).then (HT2.out.mono (fun j _ e => (HGb.out j e).1))).below (Nat.le_refl _) (fun _ _ e => e)
                      · rw [HEQ.out, hk2]; exact rest2_go HTk.out HNK.out HBD.out
              · obtain rfl : i2 = n2 := by omega
                have hlt1 : ¬ (i2 : Int) < (i2 : Int) := by omega
                have HR2 : Hid (rdQ l = rdEnd l (m, g, x) ts (zs, a2)) := Lib.hid (by have := J.out.eq; rw [Nat.sub_self] at this; exact this)
                have HJ := Lib.hid J.out.rq
                have HL := Lib.hid J.out.low
                have HB := Lib.hid J.out.B
                clear J
                by_cases hla : a2 < l.length
                · have hla1 : (a2 : Int) < (l.length : Int) := by omega
                  have HRE : Hid (rdQ l = .error (a2, 3)) := Lib.hid (by rw [HR2.out]; unfold rdEnd; rw [if_pos hla])
                  clear hla
                  go_wp2_with fail
                  go_ret3
                  exact ROpenQ.er HRE.out HB.out
                · have hla1 : ¬ (a2 : Int) < (l.length : Int) := by omega
                  have HRE : Hid (rdQ l = .ok (⟨m, g, x, ts, zs⟩, a2)) := Lib.hid (by rw [HR2.out]; unfold rdEnd; rw [if_neg hla])
                  clear hla
                  go_wp2_with fail
                  go_ret3
                  unfold ROpenQ
                  rw [HRE.out]
                  exact ⟨⟨r, _, _, rfl, HJ.out, HL.out⟩, HB.out⟩
end Go.Proofs.YtpbheicfplpemaaGreat
