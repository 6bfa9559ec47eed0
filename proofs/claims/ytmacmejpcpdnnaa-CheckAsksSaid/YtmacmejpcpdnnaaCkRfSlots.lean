/- check: the document's Slots, whole. -/
import Derived.Test.YtmacmejpcpdnnaaCkRfWalk
import Derived.Test.YtmacmejpcpdnnaaCkRfCheck
import Derived.Test.YtmacmejpcpdnnaaCkSlots
import Derived.Test.YtmacmejpcpdnnaaCkRenP
import Derived.BigQuiet
namespace Go.Proofs.Ytmacmejpcpdnnaa
open Go.RowKit

theorem own_base {w : World} {b b' n : Nat} {e : TypeId} {size : Nat} {v : Value} {xs : List Value} (h : w.ownsRow b e size v n xs) (hb : b' ≤ b) : w.ownsRow b' e size v n xs := by
  refine ⟨h.1, ?_⟩
  rcases h.2 with h2 | ⟨g, cap, cur, h1, h2, h3⟩
  · exact .inl h2
  · exact .inr ⟨g, cap, cur, h1, by omega, h3⟩
/-- what the loop over a flow's parameters keeps -/
structure Pk (w3 wr : World) (base p : Nat) (a : Option Addr) (n c : Nat) (t : List Tw) (g cL : Nat) (k : Fo) (rs0 : RS) (i : Nat) (f : Fo) (ai : Nat) (rs : RS) (mm : May) (As : Option Addr) (cs : Nat) (ls : Vrs) : Prop where
  cnt : i + f.cnt = k.cnt
  pos : 0 < f.cnt
  st : Stands t ai f
  ok : f.ok
  rt : f.rt mm
  size : f.size ≤ k.size
  rst : RSt wr base p a n c t g cL rs
  tr : Turns (RSet p g) w3 wr
  run : dP f ai ls rs = dP k 1 [] rs0
  starts : ∃ pre : List Int, pre.length = i ∧ startsF k 1 = pre ++ startsF f ai
  made : rs.made + f.size ≤ rs0.made + k.size
  row : wr.ownsRow w3.heap.size 56 2 (.slice As ls.length cs) ls.length (ls.flatMap vrC)
  wf : ∀ q ∈ ls, -1 ≤ q.2 ∧ q.2 ≤ 1000000
  ln : ls.length + f.size ≤ k.size
set_option maxRecDepth 20000 in
set_option maxHeartbeats 25600000 in
theorem rslots_main (w : World) (a : Option Addr) (n c : Nat) (t : List Tw) (h : TreeIn w a n c t) (hck : ckTree t = (0, 0)) (x : Tw) (k : Fo) (hf : forest t = .cons x k .nil) (hfl : (forest t).flat = t) (hok : (forest t).ok) (hrt : (forest t).rt .any) (hl0 : 0 < t.length) (hl1 : t.length ≤ 2048) (h1 : x.op = 1) :
    Calls Try.prog 10 #[.slice a n c] w (SlotsY w t) := by
  obtain ⟨i0, hi, hz0, hz1, hz2⟩ := info_parts info_int
  have hn := h.tw.len
  rw [hf] at hfl hok hrt
  have hst : Stands t 0 (.cons x k .nil) := ⟨by rw [Nat.zero_add, ← Fo.flat_len, hfl]; omega, fun i hi => by rw [Nat.zero_add, hfl]⟩
  obtain ⟨hlt, hx⟩ := hst.head
  obtain ⟨b, o, ea, hbl, t0, t1, t2, t3⟩ := tree_cell h (i := 0) (x := x) (by rw [List.getElem?_eq_getElem hlt, hx])
  subst ea
  have hcap := h.cap.1
  have hcap2 := h.cap.2
  unfold maxLen at hcap2
  have hnI : (0 : Int) < (n : Int) := by omega
  have hn2 : n ≤ 2048 := by omega
  have HSL : Hid (slots t = match (dP k 1 [] ⟨0, List.replicate t.length (-1), none⟩).fl with | some q => .error q | none => .ok (dP k 1 [] ⟨0, List.replicate t.length (-1), none⟩).L) := Lib.hid (by
    rw [← docSlots_eq]
    unfold docSlots
    rw [if_neg (by simpa using hck), hf]
    simp only
    rw [if_neg (by simpa using h1)]
    cases (dP k 1 [] ⟨0, List.replicate t.length (-1), none⟩).fl <;> rfl)
  have HCK := Lib.hid (rcheck_any w _ n c t h)
  rw [hck] at HCK
  simp only at HCK
  have HT := Lib.hid h
  have HST := Lib.hid hst
  have HOK := Lib.hid hok
  have HRT := Lib.hid hrt
  have HN := Lib.hid hn
  have g0 : Hid (∀ W, Below w.heap.size w W → W.cell? ⟨b, o + 0 * 4, none⟩ = some (.int .u8 (x.op : Int))) := Lib.hid (fun W hW => (hW.cell hbl).trans t0)
  have q1 : ((x.op : Int) != 1) = false := by simp; omega
  have H1 := Lib.hid h1
  clear h hck hf hfl hok hrt hst hn t0 t1 t2 t3 hx h1
  go_enter Try.func10, Try.ntmps10
  go_wp2_with (go_at_call 26; refine HCK.out.mono ?_; rintro e w2 ⟨rfl, hB2⟩; have HB2 := Lib.hid hB2; have cx := g0.out w2 hB2; simp only [Nat.zero_mul, Nat.add_zero] at cx; clear hB2)
  have hP0 : Blk (w2.alloc (.cells #[.slice (some ⟨b, o, none⟩) n c, .slice none 0 0, .int .i64 0, .int .i64 0, .int .i64 0] 52)) w2.heap.size 52 [.slice (some ⟨b, o, none⟩) n c, .slice none 0 0, .int .i64 0, .int .i64 0, .int .i64 0] := Blk.new w2 _ [_, _, _, _, _]
  have HP0 := Lib.hid hP0
  clear hP0
  go_loopw [8] (fun iv wr => ∃ (i : Nat) (A : Option Addr) (c1 : Nat), iv = .int .i64 (i : Int) ∧ i ≤ n ∧ Hid (Below w2.heap.size w2 wr ∧ Blk wr w2.heap.size 52 [.slice (some ⟨b, o, none⟩) n c, .slice A i c1, .int .i64 0, .int .i64 0, .int .i64 0] ∧ wr.ownsRow w2.heap.size 3 1 (.slice A i c1) i ((List.replicate i (-1)).map intI))) (fun iv _ => n - (intOf iv).toNat)
  case atStart => exact ⟨0, none, 0, rfl, Nat.zero_le _, Lib.hid ⟨Below.new w2 _, HP0.out, World.ownsRow_nil _ _ _ _⟩⟩
  case round =>
    obtain ⟨i, A, c1, rfl, hi9, HW⟩ := hrel
    by_cases hlt9 : i < n
    · have hlt' : (i : Int) < (n : Int) := by omega
      have p1 := HW.out.2.1.cell 1
      simp only [List.getElem?_cons_zero, List.getElem?_cons_succ] at p1
      have HRW := Lib.hid (HW.out.2.2.alloc (.cells #[.int .i64 (-1)] 3))
      have HNW := Lib.hid (Blk.new wr 3 [.int .i64 (-1)]).news
      have HBS : Hid (w2.heap.size ≤ (wr.alloc (.cells #[.int .i64 (-1)] 3)).heap.size) := Lib.hid (by have := HW.out.1.size; simp; omega)
      have hl9 : Hid (i + 1 ≤ maxLen) := Lib.hid (by unfold maxLen; omega)
      have hl8 : Hid ((i + 1) * 8 ≤ 140737488355328) := Lib.hid (by omega)
      go_wp2_with (at_builtin; refine wpList_append_own_at _ rfl _ _ 25 rfl w2.heap.size 3 i0 _ 1 8 Try.underlying25 hi hz0 hz1 hz2 rfl (by decide) _ _ _ rfl HRW.out ⟨wr.heap.size, 0, none⟩ 1 1 [.int .i64 (-1)] rfl rfl HNW.out (by intro u hu; simp at hu; subst hu; rfl) hl9.out hl8.out HBS.out ?_; intro v4 y4 hown4 hgr4 _ _; obtain ⟨A4, c4, rfl⟩ := own_slice' hown4; have hbp := (HW.out.2.1.alloc (.cells #[.int .i64 (-1)] 3)).turns (.of_grown (S := fun i9 => (Value.slice A i c1).ownBlock = some i9) hgr4 (fun r e => e)) (fun e => own_ne_blk HRW.out e (HW.out.2.1.alloc _) (by decide) rfl); have pz := hbp.fz 1; have p9 := hbp.cell 1; simp only [List.getElem?_cons_zero, List.getElem?_cons_succ] at p9; have HBP := Lib.hid hbp; have HO4 := Lib.hid hown4; have HB4 : Hid (Below w2.heap.size w2 y4) := Lib.hid ((HW.out.1.alloc HW.out.1.size _).grown hgr4 HBS.out (fun r e => (row_lo HRW.out e).1)); clear hown4 hgr4 hbp)
      have hset := HBP.out.set 1 (.slice A4 (i + 1) c4)
      refine ⟨⟨i + 1, A4, c4, by go_num, by omega, Lib.hid ⟨HB4.out.setCell (p := ⟨w2.heap.size, 1, none⟩) (Nat.le_refl _) _, hset, ?_⟩⟩, by simp [intOf]; omega⟩
      have h4 := HO4.out
      have e4 : (List.replicate i (-1) : List Int).map intI ++ [.int .i64 (-1)] = (List.replicate (i + 1) (-1) : List Int).map intI := by
        rw [List.replicate_succ', List.map_append]
        rfl
      rw [e4] at h4
      exact own_turns h4 (.of_set (S := fun i => i = w2.heap.size) _ ⟨w2.heap.size, 1, none⟩ _ rfl) (fun g' hg' e => own_ne_blk h4 hg' HBP.out (by decide) e)
    · obtain rfl : i = n := by omega
      have hlt' : ¬ (i : Int) < (i : Int) := by omega
      obtain ⟨g, cg, eg, vb, hg1, hg2, hg3⟩ := own_at HW.out.2.2 (by omega)
      injection eg with eg1 _ eg3
      subst eg1 eg3
      have hBw : Below w.heap.size w wr := HB2.out.trans (HW.out.1.mono HB2.out.size)
      have hbz := HB2.out.size
      have hgb : w2.heap.size ≤ g := (row_lo (g := g) HW.out.2.2 rfl).1
      have hpg : w2.heap.size ≠ g := fun e => own_ne_blk HW.out.2.2 (g := g) rfl HW.out.2.1 (by decide) e.symm
      have hR : RSt wr w2.heap.size w2.heap.size (some ⟨b, o, none⟩) i c t g c1 ⟨0, List.replicate t.length (-1), none⟩ := by
        refine ⟨⟨0, 0, HW.out.2.1, rfl⟩, ?_, by simp [HN.out], HT.out.bel hBw, ?_, hpg, by simp⟩
        · rw [HN.out]; exact HW.out.2.2
        · intro b' o' e _
          injection e with e
          injection e with e _ _
          subst e
          omega
      have HR := Lib.hid hR
      have HBW := Lib.hid hBw
      have HKD := Lib.hid (kids_any wr (some ⟨b, o, none⟩) i c t (HT.out.bel hBw) (by omega) x k 0 HST.out HOK.out)
      clear hR hBw
      have hkl : 0 < k.cnt := by
        have hgd := HRT.out.1
        have hkc := HOK.out.1
        unfold goodB at hgd
        have e : formT 1 = some ⟨.own, 1, 2048, .params⟩ := rfl
        rw [H1.out, e] at hgd
        simp only [Bool.and_eq_true, Bool.not_eq_true', decide_eq_false_iff_not] at hgd
        have := hgd.1.1.1.2
        omega
      have hrk : k.rt (.of x.op 0 x.kids) := HRT.out.2.1
      have HRK := Lib.hid hrk
      have hkn : k.cnt ≤ 5000 := by have h8 := cnt_size k; have h9 := HST.out.1; simp only [Fo.size] at h9; omega
      have hks : 1 + k.size ≤ t.length := by have h9 := HST.out.1; simp only [Fo.size] at h9; omega
      have HKS := Lib.hid hks
      obtain ⟨i2, hi2, hy0, hy1, hy2⟩ := info_parts info_var
      clear hrk hks
      go_wp2_with (go_at_call 27; refine HKD.out.mono ?_; rintro e w3 ⟨A2, c2, rfl, hk3, hb3⟩; have HK3 := Lib.hid hk3; have HB3 := Lib.hid hb3; clear hk3 hb3)
      have hsz3 : wr.heap.size ≤ w3.heap.size := HB3.out.size
      have hpl := HR.out.lts
      go_loopw [10, 11] (fun sv iv wq => ∃ (j : Nat) (As : Option Addr) (cs : Nat) (ls : Vrs), sv = .slice As ls.length cs ∧ iv = .int .i64 (j : Int) ∧ j < k.cnt ∧ Hid (∃ f ai rs mm, Pk w3 wq w2.heap.size w2.heap.size (some ⟨b, o, none⟩) i c t g c1 k ⟨0, List.replicate t.length (-1), none⟩ j f ai rs mm As cs ls)) (fun _ iv _ => k.cnt - (intOf iv).toNat)
      case atStart => exact ⟨0, none, 0, [], rfl, rfl, hkl, Lib.hid ⟨k, 1, _, _, ⟨by omega, hkl, HST.out.kids, HOK.out.2.1, HRK.out, Nat.le_refl _, HR.out.bel HB3.out, Turns.refl _ _, rfl, ⟨[], rfl, rfl⟩, Nat.le_refl _, World.ownsRow_nil _ _ _ _, (fun q hq => by cases hq), by simp⟩⟩⟩
      case round =>
        obtain ⟨j, As, cs, ls, rfl, rfl, hj9, HE⟩ := hrel
        obtain ⟨f, ai, rs, mm, hE⟩ := HE.out
        clear HE
        have HE := Lib.hid hE
        have hEc := hE.cnt
        cases f with
        | nil => have := hE.pos; simp [Fo.cnt] at this
        | cons y k2 r =>
          have hsg := starts_get rfl hE.starts
          obtain ⟨gk, ck, ek, _, hgk, hk5, hk6⟩ := own_at HK3.out (by omega)
          injection ek with ek1 _ ek3
          subst ek1 ek3
          have hgkp : ¬ RSet w2.heap.size g gk := by have hz := (row_lo (g := gk) HK3.out rfl).1; rintro (q | q) <;> omega
          unfold maxLen at hk6
          have h9 := HK3.out.cellAt j (by omega)
          rw [List.getElem?_map, hsg] at h9
          have hck : ∀ W, Turns (RSet w2.heap.size g) w3 W → W.cell? ⟨gk, j, none⟩ = some (.int .i64 (ai : Int)) := fun W hW => (hW.cell (p := ⟨gk, j, none⟩) hgk hgkp).trans h9
          have HCK9 := Lib.hid hck
          have ckc := hck _ hE.tr
          obtain ⟨hylt, hyt⟩ := hE.st.head
          have hy : t[ai]? = some y := by rw [List.getElem?_eq_getElem hylt, hyt]
          have hai1 : (ai : Int) ≤ 5000 := by omega
          have hszk := hE.size
          have hmd := hE.made
          have hln9 := hE.ln
          simp only [Fo.size] at hszk hmd hln9
          have hml : ls.length + (1 + k2.size) ≤ 50000 := by have := HKS.out; omega
          have hmm : rs.made + (1 + k2.size) ≤ 50000 := by have := HKS.out; omega
          have HMR := Lib.hid hE.row
          have hmfar : ∀ i, VsB As ls.length i → ¬ RSet w2.heap.size g i := by
            rintro i ⟨_, xa, rfl, rfl⟩ hq
            have hz := (row_lo (g := xa.block) hE.row rfl).1
            rcases hq with hq | hq <;> omega
          have HMF := Lib.hid hmfar
          clear hsg hmfar hck h9
          cases r with
          | nil =>
            simp only [Fo.cnt] at hEc
            have hex : ¬ (j : Int) + 1 < (k.cnt : Int) := by omega
            have hidx : (k.cnt : Int) - 1 = (j : Int) := by omega
            have HW := Lib.hid (rw_any w2.heap.size w2.heap.size (some ⟨b, o, none⟩) i c t g c1 (by omega) (k2.size + 1) _ rs y k2 ai mm As cs ls (by omega) hE.rst hE.st hE.ok hE.rt (Vs.of hE.row hE.wf) HMF.out hml hmm)
            have hrun : dP k 1 [] ⟨0, List.replicate t.length (-1), none⟩ = dE (.cons y k2 .nil) ai ls rs := by rw [← hE.run]; simp only [dP]
            have HRUN := Lib.hid hrun
            clear hE hEc hrun
            cases hfl : (dE (.cons y k2 .nil) ai ls rs).fl with
            | none =>
              have HFL := Lib.hid hfl
              clear hfl
              go_wp2_with (go_at_call 29; refine HW.out.mono ?_; rintro e w5 ⟨rfl, hr5, ht5⟩; obtain ⟨atv, ev, hb5, hm5⟩ := hr5.blk; rw [HFL.out] at hm5; subst hm5; have e1 := hb5.cell 1; have e3 := hb5.cell 3; have e4 := hb5.cell 4; simp only [List.getElem?_cons_zero, List.getElem?_cons_succ] at e1 e3 e4; have HR5 := Lib.hid hr5; have HT5 := Lib.hid ht5; clear hr5 ht5 hb5)
              go_ret3
              have hb3w : Below w.heap.size w w3 := HBW.out.trans (HB3.out.mono HBW.out.size)
              refine ⟨hb3w.trans ((HE.out.tr.then HT5.out).below hb3w.size (fun i9 _ hs => by rcases hs with hs | hs <;> omega)), ?_⟩
              rw [HSL.out, HRUN.out, HFL.out]
              simp only
              refine ⟨_, rfl, ?_⟩
              have h8 := own_base HR5.out.row HB2.out.size
              rw [HR5.out.len]
              exact h8
            | some q =>
              obtain ⟨q, er⟩ := q
              have HFL := Lib.hid hfl
              clear hfl
              go_wp2_with (go_at_call 29; refine HW.out.mono ?_; rintro e w5 ⟨rfl, hr5, ht5⟩; obtain ⟨atv, ev, hb5, hm5⟩ := hr5.blk; rw [HFL.out] at hm5; obtain ⟨rfl, rfl, her⟩ := hm5; have herb : ((er : Int) != 0) = true := (by simpa using her); have HER := Lib.hid her; clear her; have e1 := hb5.cell 1; have e3 := hb5.cell 3; have e4 := hb5.cell 4; simp only [List.getElem?_cons_zero, List.getElem?_cons_succ] at e1 e3 e4; have HR5 := Lib.hid hr5; have HT5 := Lib.hid ht5; clear hr5 ht5 hb5)
              go_quiet (fail)
              go_wp2_with fail
              go_ret3
              have hb3w : Below w.heap.size w w3 := HBW.out.trans (HB3.out.mono HBW.out.size)
              refine ⟨below_drewN' (hb3w.trans ((HE.out.tr.then HT5.out).below hb3w.size (fun i9 _ hs => by rcases hs with hs | hs <;> omega))) _, ?_⟩
              rw [HSL.out, HRUN.out, HFL.out]
              simp only
              exact ⟨HER.out, rfl⟩
          | cons y3 ky r2 =>
            simp only [Fo.cnt] at hEc
            have hex : (j : Int) + 1 < (k.cnt : Int) := by omega
            have HMK := Lib.hid (make_any _ w2.heap.size w2.heap.size _ i c t g c1 rs hE.rst (by omega) (by omega) ai y hy As cs ls (Vs.of hE.row hE.wf) (by omega) HMF.out)
            have HYT := Lib.hid hy
            have hl7 : Hid (ls.length + 1 ≤ maxLen) := Lib.hid (by unfold maxLen; omega)
            have hl6 : Hid ((ls.length + 1) * 24 ≤ 140737488355328) := Lib.hid (by omega)
            clear hE hEc hy
            go_wp2_with (first | (go_at_call 28; refine HMK.out.mono ?_; rintro e w5 ⟨rfl, hr5, ht5⟩; have hv5 : ∀ o, ((w5.alloc (.cells #[.string y.text, .int .i64 (rs.made : Int)] 56)).alloc o).cell? ⟨w5.heap.size, 0, none⟩ = some (.string y.text) := (fun o => ((Blk.new w5 56 [.string y.text, .int .i64 (rs.made : Int)]).alloc o).cell 0); have hT5 := ht5.alloc (.cells #[.string y.text, .int .i64 (rs.made : Int)] 56); have HR5 := Lib.hid hr5; have HT5 := Lib.hid hT5; have HRW := Lib.hid ((own_turns HMR.out hT5 (fun g' hg' q => by have hz := (row_lo HMR.out hg').1; rcases q with q | q <;> omega)).alloc (.cells #[.string y.text, .int .i64 (rs.made : Int)] 56)); have HNW := Lib.hid (Blk.new (w5.alloc (.cells #[.string y.text, .int .i64 (rs.made : Int)] 56)) 56 [.string y.text, .int .i64 (rs.made : Int)]).news; have hs5 : w3.heap.size ≤ w5.heap.size := Nat.le_trans HE.out.tr.size ht5.size; have HBS6 : Hid (w3.heap.size ≤ ((w5.alloc (.cells #[.string y.text, .int .i64 (rs.made : Int)] 56)).alloc (.cells #[.string y.text, .int .i64 (rs.made : Int)] 56)).heap.size) := Lib.hid (by simp; omega); clear hr5 ht5 hT5) | (at_builtin; refine wpList_append_own_at _ rfl _ _ 54 rfl w3.heap.size 56 i2 _ 2 24 Try.underlying54 hi2 hy0 hy1 hy2 rfl (by decide) _ _ _ rfl HRW.out ⟨w5.heap.size + 1, 0, none⟩ 1 1 [.string y.text, .int .i64 (rs.made : Int)] rfl rfl (by simpa using HNW.out) (by intro u hu; simp at hu; rcases hu with rfl | rfl <;> rfl) hl7.out hl6.out HBS6.out ?_; intro v7 y7 hown7 hgr7 _ _; obtain ⟨A7, c7, rfl⟩ := own_slice' hown7; have HO7 := Lib.hid hown7; have HG7 := Lib.hid hgr7; clear hown7 hgr7))
            have T57 : Turns (fun i => w3.heap.size ≤ i) w5 y7 := (((Turns.refl _ w5).alloc _).alloc _).trans (.of_grown (S := fun i => (Value.slice As ls.length cs).ownBlock = some i) HG7.out (fun r e => e)) (fun i hi e => (row_lo HRW.out e).1)
            have TC : Turns (RSet w2.heap.size g) w3 y7 := ((HE.out.tr.then HT5.out).alloc _).trans (.of_grown (S := fun i => (Value.slice As ls.length cs).ownBlock = some i) HG7.out (fun r e => e)) (fun i hi e => by have hz := (row_lo HRW.out e).1; omega)
            have hr7 : RSt y7 w2.heap.size w2.heap.size (some ⟨b, o, none⟩) i c t g c1 (mkR y ai ls rs) := by
              have hq := HR5.out
              obtain ⟨atv, ev, hb9, hm9⟩ := hq.blk
              refine ⟨⟨atv, ev, hb9.turns T57 (by omega), hm9⟩, own_turns hq.row T57 (fun g' hg' q => ?_), hq.len, ?_, hq.far, hq.ne, hq.made⟩
              · simp only [Value.ownBlock, Option.some.injEq] at hg'
                have hg9 : g = g' := hg'
                omega
              · exact (HR.out.bel HB3.out).tree TC
            obtain ⟨pre, hp1, hp2⟩ := HE.out.starts
            have hm9 := HE.out.made
            have hs9 := HE.out.size
            have hl9 := HE.out.ln
            have hc9 := HE.out.cnt
            simp only [Fo.size] at hm9 hs9 hl9
            simp only [Fo.cnt] at hc9
            refine ⟨⟨j + 1, A7, c7, ls ++ [(y.text, (rs.made : Int))], by simp, by go_num, by omega, Lib.hid ⟨.cons y3 ky r2, ai + (1 + k2.size), mkR y ai ls rs, mm.next, ⟨by simp only [Fo.cnt]; omega, by simp [Fo.cnt], HE.out.st.rest, HE.out.ok.2.2, HE.out.rt.2.2, by simp only [Fo.size]; omega, hr7, TC, by rw [← HE.out.run]; simp only [dP], ⟨pre ++ [(ai : Int)], by simp [hp1], by rw [hp2]; simp [startsF]⟩, by rw [mkR_made]; simp only [Fo.size]; omega, ?_, ?_, by simp [Fo.size]; omega⟩⟩⟩, by simp [intOf]; omega⟩
            · simp only [List.flatMap_append, List.flatMap_cons, List.flatMap_nil, List.append_nil, List.length_append, List.length_cons, List.length_nil, vrC]
              exact HO7.out
            · intro q hq
              rcases List.mem_append.1 hq with hq | hq
              · exact HE.out.wf q hq
              · simp only [List.mem_singleton] at hq
                subst hq
                simp only
                omega
theorem rslots_any (w : World) (a : Option Addr) (n c : Nat) (t : List Tw) (h : TreeIn w a n c t) :
    Calls Try.prog 10 #[.slice a n c] w (SlotsY w t) := by
  by_cases hck : ckTree t = (0, 0)
  · obtain ⟨x, k, hf, hfl, hok, hrt, hl0, hl1, hx0⟩ := forest_of hck
    by_cases h1 : x.op = 1
    · exact rslots_main w a n c t h hck x k hf hfl hok hrt hl0 hl1 h1
    · obtain ⟨b, o, ea, hbl, t0, t1, t2, t3⟩ := tree_cell h (i := 0) (x := x) hx0
      subst ea
      have hsl : slots t = .error (0, 3) := by
        unfold slots
        rw [if_neg (by rw [hck]; simp), hf]
        simp only
        rw [if_pos h1]
      have HSL := Lib.hid hsl
      have HCK := Lib.hid (rcheck_any w _ n c t h)
      rw [hck] at HCK
      simp only at HCK
      have hnI : (0 : Int) < (n : Int) := by have := h.tw.len; omega
      have g0 : Hid (∀ W, Below w.heap.size w W → W.cell? ⟨b, o + 0 * 4, none⟩ = some (.int .u8 (x.op : Int))) := Lib.hid (fun W hW => (hW.cell hbl).trans t0)
      have q1 : ((x.op : Int) != 1) = true := by simp; omega
      clear h hck hf hfl hok hrt hx0 t0 t1 t2 t3 h1 hsl
      go_enter Try.func10, Try.ntmps10
      go_wp2_with (go_at_call 26; refine HCK.out.mono ?_; rintro e w2 ⟨rfl, hB2⟩; have HB2 := Lib.hid hB2; have cx := g0.out w2 hB2; simp only [Nat.zero_mul, Nat.add_zero] at cx; clear hB2)
      go_ret3
      refine ⟨HB2.out, ?_⟩
      rw [HSL.out]
      exact ⟨by decide, rfl⟩
  · obtain ⟨p, er, hpe⟩ : ∃ p er, ckTree t = (p, er) := ⟨_, _, rfl⟩
    have her : er ≠ 0 := by
      intro e
      subst e
      exact hck (ckTree_two t (by rw [hpe]))
    have hS : slots t = .error (p, er) := by rw [slots_ck hck, hpe]
    have HS := Lib.hid hS
    have HER := Lib.hid her
    have HCK := Lib.hid (rcheck_any w _ n c t h)
    rw [hpe] at HCK
    simp only at HCK
    have herI : ¬ (er : Int) = 0 := by omega
    have herb : ((er : Int) != 0) = true := by simpa using her
    clear hS her hck hpe h
    go_enter Try.func10, Try.ntmps10
    go_wp2_with (go_at_call 26; refine HCK.out.mono ?_; rintro e w2 ⟨rfl, hB2⟩; have HB2 := Lib.hid hB2; clear hB2)
    go_ret3
    refine ⟨HB2.out, ?_⟩
    rw [HS.out]
    exact ⟨HER.out, rfl⟩
end Go.Proofs.Ytmacmejpcpdnnaa
