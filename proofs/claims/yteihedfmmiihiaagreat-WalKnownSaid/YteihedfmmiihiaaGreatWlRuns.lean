/- wal: a range over a function, the body of which never leaves; runs: what it hands out. -/
import Derived.Test.YteihedfmmiihiaaGreatWlMay
import Derived.RangeFuncNested
import Derived.RangeFuncBound
import Derived.RangeFuncCalls
import Derived.RangeFuncLeaves
import Derived.RangeFuncBox
import Derived.Shelf.Abstract
import Derived.Shelf.RegionOpen
import Derived.WalkKit
import Derived.OwnWalkIn
import Derived.TacticsInMore
import Derived.LoopNIn
import Derived.LoopIn
namespace Go.Proofs.YteihedfmmiihiaaGreat
open Go.RowKit Go.Shelf
attribute [local go_sem] Oper.semAt_some

/-- the statement: the record and the block for the rounds' deferred calls are laid; the iterator returns with the record ready -/
theorem my_range {F : Fence} {n : Nat} {P : Program} {g : Operand} {ps : Array Tmp} {assign body : Code} {Q : Exit → Act → World → Prop} {a : Act} {w : World} (hro : F.round = none) (h1 : 1 ≤ n) {gf : Nat} {lb : Array Value}
    (hg : a.eval g = .func (.func gf) #[] lb) (hFg : F.fn gf) (eg : ∀ args w, (callFunc gf args).run P w = .ok (.enter gf args) w)
    (h : ∀ fn, F.fn fn → ∀ rec : Loop, rec = { state := .ready, pending := none, fn, tmps := a.tmps, params := ps, assign, body, defers := w.heap.size } →
      CallsIn F (n - 1) P gf (#[.func (.yield (w.heap.size + 1)) #[] #[]] ++ lb) ((w.alloc (.deferred (some []))).alloc (.loop rec)) fun e W' => (∃ v, e = .returned v) ∧ W'.heap[w.heap.size + 1]? = some (.loop rec) ∧
        Q .normal { a with defers := { target := .collected w.heap.size, args := #[] } :: a.defers } (W'.putObj (w.heap.size + 1) (.loop { rec with state := .exhausted }))) :
    (Code.rangeFunc g ps assign body).wpIn F n P Q a w := by
  refine wpIn_rangeFunc ?_
  intro fn hfn
  rw [hro]
  have key := h fn hfn _ rfl
  generalize hW1 : (w.alloc (.deferred (some []))).alloc (.loop { state := .ready, pending := none, fn, tmps := a.tmps, params := ps, assign, body, defers := w.heap.size }) = W1 at key
  refine ⟨w.heap.size + 1, [{ target := .collected w.heap.size, args := #[] }], W1, { target := .fn (.func gf) lb, args := #[.func (.yield (w.heap.size + 1)) #[] #[]] }, W1, gf,
    #[.func (.yield (w.heap.size + 1)) #[] #[]] ++ lb, W1, by rw [← hW1]; exact run_enterLoop_outer _ _ _ _ _, ?_, ?_, ?_, fun _ => h1, ?_⟩
  · simp only [resolve, hg]
    simp [go_sem]
  · intro f' hf'; simp [Target.leads] at hf'; subst hf'; exact hFg
  · simp [invoke, go_sem, eg]
  · refine key.mono ?_
    rintro e W' ⟨⟨v, rfl⟩, hl, hq⟩
    exact ⟨none, _, run_endLoop hl (by simp), hq⟩
/-- one round whose body ends normally -/
theorem my_yield {F : Fence} {m : Nat} {P : Program} {l : Nat} {r : Loop} {args : Array Value} {W : World} {R : Ending → World → Prop} (hl : W.heap[l]? = some (.loop r)) (hr : r.state = .ready) (hp : r.pending = none) (hs : args.size = r.params.size) (hF : F.fn r.fn)
    (h : r.assign.wpIn (F.inRound l) m P (Exit.then (fun a₁ w₁ => w₁.heap[l]? = some (.loop r) ∧ r.body.wpIn (F.inRound l) m P (fun e _ W3 => match e with
        | .normal => W3.heap[l]? = some (.loop { r with state := .busy }) ∧ R (.returned (.bool true)) (W3.putObj l (.loop r))
        | _ => False) a₁ (w₁.putObj l (.loop { r with state := .busy }))) (fun _ _ _ => False))
      { tmps := (r.params.zip args).foldl (fun tmps (t, a) => tmps.setIfInBounds t a) r.tmps, defers := [] } W) : YieldAt F m P l args W R := by
  refine ⟨_, _, _, _, run_yield hl hs, roundIn_of_wpIn hF (wpIn_mono h ?_)⟩
  rintro e a3 W3 hq
  cases e with
  | normal =>
    obtain ⟨hl3, hb⟩ := hq
    refine ⟨_, run_beginRound hl3 hr, wpIn_mono hb ?_⟩
    rintro e a4 W4 hq4
    cases e with
    | normal =>
      obtain ⟨hl4, hR⟩ := hq4
      refine ⟨_, _, run_endRound none hl4, ?_⟩
      have e : ({ ({ r with state := .busy } : Loop) with state := if (none : Option Code).isNone then .ready else .done, pending := none } : Loop) = r := by
        cases r; simp only at hr hp; subst hr hp; rfl
      rw [e]
      exact hR
    | ret => exact False.elim hq4
    | exit id => exact False.elim hq4
    | goto t => exact False.elim hq4
    | panic ch => exact False.elim hq4
    | outgrown => exact False.elim hq4
  | ret => exact hq
  | exit id => exact hq
  | goto t => exact hq
  | panic ch => exact hq
  | outgrown => exact hq
theorem append_b3 (w : World) (H : Nat) (A : Option Addr) (c0 : Nat) (l : List UInt8) (ho : OwnB w H A c0 l) (hH : H ≤ w.heap.size) (B : Option Addr) (m c : Nat) (lb : List UInt8) (hs : Bs w B m lb) (hL : l.length + lb.length ≤ 100000000000) (ty : TypeId) (r : List UInt8) (hr : r = l ++ lb) :
    ∃ A' c' w', (Builtin.append_ #[30, 30] ty #[.slice A l.length c0, .slice B m c]).run Tryz.prog w = .ok (.slice A' r.length c') w' ∧ OwnB w' H A' c' r ∧ Turns (fun g => H ≤ g ∧ IsU8 w g) w w' ∧ ∀ g, g < w.heap.size → (∀ a, A = some a → a.block ≠ g) → w'.heap[g]? = w.heap[g]? := by
  subst hr
  obtain ⟨A', c', w', h1, h2, h3, _⟩ := append_mine w H _ l ho hH B m c lb hs hL ty
  have hob : ∀ g, (Value.slice A l.length c0).ownBlock = some g → ∃ a, A = some a ∧ a.block = g := fun g hg => by
    cases A with
    | none => simp [Value.ownBlock] at hg
    | some a => exact ⟨a, rfl, by simpa [Value.ownBlock] using hg⟩
  refine ⟨A', c', w', h1, h2, .of_grown h3 (fun g hg => ⟨own_ge ho hg, ?_⟩), fun g hg hn => h3.block g hg (fun e => ?_)⟩
  · obtain ⟨a, ha, rfl⟩ := hob g hg
    exact ho.u8 a ha
  · obtain ⟨a, ha, hb⟩ := hob g e.symm
    exact hn a ha hb
theorem wpi_append_run {F : Fence} {n : Nat} {P : Program} {w : World} {ops : Array Oper} {rest : List Oper} {o : Oper} {a : Act} {Q : Exit → Act → World → Prop}
    (hg : o.guard = none) (s x : Operand) (t : TypeId) (hop : o.op = Op.call { callee := Callee.builtin Builtin.append, args := #[s, x], argTypes := #[t, t] }) (vs vx : Value) (hs : a.eval s = vs) (hx : a.eval x = vx)
    (v' : Value) (w' : World) (hrun : (Builtin.append_ #[t, t] o.type #[vs, vx]).run P w = .ok v' w') (hK : wpListIn F n P ops Q rest (a.put o.dst v') w') : wpListIn F n P ops Q (o :: rest) a w := by
  refine wpListIn_plain hg fun K' hK' => ?_
  unfold Oper.wpIn
  refine ⟨?_, ?_⟩
  · simp [Oper.about, hop, resolve, Target.leads, Sem.run_pure]
  · rw [Oper.semAt_plain F _ _ (by rw [hop]; intro c hc'; cases hc')]
    simp [execOp, hop, resolve, invoke, builtin, hs, hx, hrun, Result.andThen]
    exact hK' _ _ hK
theorem drop_step {ys : List (List UInt8 × Nat)} {y : Nat} {z : List UInt8 × Nat} {r : List (List UInt8 × Nat)} (h : z :: r = ys.drop y) : y < ys.length ∧ ys[y]? = some z ∧ r = ys.drop (y + 1) := by
  have hy : y < ys.length := by
    have := congrArg List.length h
    rw [List.length_cons, List.length_drop] at this
    omega
  have h2 := List.drop_eq_getElem_cons hy
  rw [h2] at h
  injection h with h3 h4
  exact ⟨hy, by rw [List.getElem?_eq_getElem hy, h3], h4⟩
theorem Rb.rest' {w : World} {A A2 : Option Addr} {c k : Nat} {l : List UInt8} (h : Rb w A c l) (hk : k ≤ l.length) (hA : (if c = k then A else Option.map (fun x => x.add k) A) = A2) : Rb w A2 (c - k) (l.drop k) ∧ (l.drop k).length = l.length - k := by
  refine h.rest hk (fun ad e => ?_) (fun e => ?_)
  · subst e; exact hA
  · subst e
    rw [← hA]
    split <;> rfl
/-- what the iterator asks of its caller's word -/
structure RunsJ (n₁ bx : Nat) (A : Option Addr) (c : Nat) (L : List UInt8) (J : Nat → World → Prop) : Prop where
  grow : ∀ y W W', J y W → Turns (fun g => n₁ ≤ g ∧ IsU8 W g) W W' → J y W'
  box : ∀ y W, J y W → W.cell? ⟨bx, 0, none⟩ = some (.slice A L.length c)
  row : ∀ y W, J y W → Rb W A c L
  size : ∀ y W, J y W → n₁ ≤ W.heap.size
set_option maxRecDepth 100000 in
set_option maxHeartbeats 4000000 in
theorem runs1_in (n : Nat) (hn : 1 ≤ n) (l bx : Nat) (A : Option Addr) (c : Nat) (L : List UInt8) (hLl : L.length ≤ 100000000) (fs : List (List UInt8)) (x : List UInt8) (hL : L = fs.flatMap frameB ++ x) (hx : Torn x) (hfs : FineF fs) (ys : List (List UInt8 × Nat)) (hys : yl 0 [] fs = ys) (J : Nat → World → Prop)
    (W : World) (hJ : RunsJ W.heap.size bx A c L J)
    (hY : ∀ y rec pos W' A2 c2, ys[y]? = some (rec, pos) → J y W' → Rb W' A2 c2 rec → YieldAt Fence.wide (n - 1) Tryz.prog l #[.slice A2 rec.length c2, .int .i64 (pos : Int)] W' fun e W'' => e = .returned (.bool true) ∧ J (y + 1) W'')
    (h0 : J 0 W) :
    CallsIn Fence.wide n Tryz.prog 79 #[.func (.yield l) #[] #[], .pointer (some ⟨bx, 0, none⟩)] W fun e W' => (∃ v, e = .returned v) ∧ J ys.length W' := by
  have HLl := Lib.hid hLl
  have HL := Lib.hid hL
  have HYS := Lib.hid hys
  clear hLl hL hys
  refine callsIn_of_wp Tryz.func79 rfl trivial ?_ rfl
  simp only [Tryz.ntmps79, List.size_toArray, List.length_cons, List.length_nil, Nat.reduceAdd, Nat.reduceSub, Array.replicate_succ, Array.replicate_zero, List.push_toArray, List.append_toArray, List.nil_append, List.cons_append]
  gi_wp2
  gi_loopw [3, 4] (fun rv av wr => ∃ (at_ y k3 : Nat) (A3 : Option Addr) (c3 : Nat) (acc : List UInt8) (fsr : List (List UInt8)), av = .int .i64 (at_ : Int) ∧ rv = .slice A3 k3 c3 ∧ Hid (k3 = acc.length) ∧ Hid (OwnB wr W.heap.size A3 c3 acc) ∧ Hid (L.drop at_ = fsr.flatMap frameB ++ x ∧ at_ ≤ L.length) ∧ Hid (yl at_ acc fsr = ys.drop y ∧ acc.length ≤ at_) ∧ Hid (FineF fsr) ∧ J y wr ∧ Hid (W.heap.size ≤ wr.heap.size ∧ y ≤ ys.length)) (fun _ av _ => L.length - (intOf av).toNat)
  case atStart => exact ⟨0, 0, 0, none, 0, [], fs, rfl, rfl, Lib.hid rfl, Lib.hid (.nil _ _), Lib.hid ⟨by rw [List.drop_zero]; exact HL.out, Nat.zero_le _⟩, Lib.hid ⟨by rw [List.drop_zero]; exact HYS.out, Nat.zero_le _⟩, Lib.hid hfs, h0, Lib.hid ⟨Nat.le_refl _, Nat.zero_le _⟩⟩
  case round =>
    obtain ⟨at_, y, k3, A3, c3, acc, fsr, rfl, rfl, hk3, hO, hD, hYl, hF, hJy, hS⟩ := hrel
    have cb := hJ.box y wr hJy
    have hR := hJ.row y wr hJy
    have hal := hD.out.2
    have hcap := hR.inn.cap_le
    obtain ⟨A2, hA2⟩ : ∃ A2, (if c = at_ then A else Option.map (fun x => x.add at_) A) = A2 := ⟨_, rfl⟩
    have q1 : (at_ : Int) ≤ (L.length : Int) := by omega
    have q2 : (L.length : Int) ≤ (c : Int) := by omega
    obtain ⟨hR2, hdl⟩ := hR.rest' hal hA2
    have HR2 := Lib.hid hR2
    have HDL := Lib.hid hdl
    have HJJ := Lib.hid hJ
    rcases fsr with _ | ⟨f, fsr'⟩
    · have ht : Torn (L.drop at_) := by have := hD.out.1; rw [List.flatMap_nil, List.nil_append] at this; rw [this]; exact hx
      have HC := read_torn wr A2 (c - at_) (L.drop at_) hR2.inn.bs hR2.inn.cap_le.1 ht
      rw [hdl] at HC
      have HC := Lib.hid HC
      have hyl : y = ys.length := by
        have := hYl.out.1
        have h2 := congrArg List.length this
        rw [List.length_drop] at h2
        simp [yl] at h2
        have := hS.out.2
        omega
      clear hR2 hdl ht hR
      gi_wp2_with fail
      refine ⟨trivial, (callsIn_wide.2 HC.out).mono ?_⟩
      rintro e W2 ⟨kk, rfl, hb⟩
      have HB := Lib.hid hb
      clear hb
      gi_wp2_with fail
      refine bodyPost_ret (results_none rfl _ _ _) rfl ?_
      rw [← hyl]
      exact ⟨⟨_, rfl⟩, HJJ.out.grow y wr W2 hJy (.of_below HB.out)⟩
    · obtain ⟨x0, ch, rfl, hchl, hx01⟩ := hF.out f List.mem_cons_self
      have hfa : FrameAt (L.drop at_) (x0 :: ch) := by rw [hD.out.1, List.flatMap_cons, List.append_assoc]; exact frame_at (by simp; omega)
      have HC := read_ok wr A2 (c - at_) (L.drop at_) (x0 :: ch) hR2.inn.bs hR2.inn.cap_le.1 hfa (by simp; omega)
      rw [hdl] at HC
      have HC := Lib.hid HC
      have hfl := hfa.len
      rw [hdl] at hfl
      have hdn : (L.drop at_).drop ((x0 :: ch).length + 12) = fsr'.flatMap frameB ++ x := by
        rw [hD.out.1, List.flatMap_cons, List.append_assoc, ← frameB_len, List.drop_left]
      obtain ⟨mf, hmf⟩ : ∃ m, (x0 :: ch).length = m := ⟨_, rfl⟩
      rw [hmf] at hfl hdn
      obtain ⟨f, hf⟩ : ∃ f, x0 :: ch = f := ⟨_, rfl⟩
      rw [hf] at HC hmf hfa
      obtain ⟨at2, hat2⟩ : ∃ a, at_ + (mf + 12) = a := ⟨_, rfl⟩
      have HM := Lib.hid hmf
      have HFX := Lib.hid hf
      have hml : mf = ch.length + 1 := by rw [← hmf, ← hf]; simp
      have HML := Lib.hid hml
      have HCL := Lib.hid hchl
      have HFL := Lib.hid hfl
      have HD2 : Hid (L.drop at2 = fsr'.flatMap frameB ++ x ∧ at2 ≤ L.length) := Lib.hid ⟨by rw [← hat2, ← List.drop_drop, hdn], by omega⟩
      have HF2 : Hid (FineF fsr') := Lib.hid (fun g hg => hF.out g (List.mem_cons_of_mem _ hg))
      have HAT := Lib.hid hat2
      have hatI : (at_ : Int) + ((mf : Int) + 12) = (at2 : Int) := by omega
      have q3 : (at2 : Int) ≤ 100000000 := by have := HD2.out.2; have := HLl.out; omega
      clear hR2 hdl hfa hR hfl hdn hf hml hchl hat2 hmf
      gi_wp2_with fail
      refine ⟨trivial, (callsIn_wide.2 HC.out).mono ?_⟩
      rintro e W2 ⟨A4, c4, rfl, ho4, hb4⟩
      rw [HM.out]
      have O4 := Lib.hid ho4
      have T4 := Lib.hid (Turns.of_below (S := fun g => W.heap.size ≤ g ∧ IsU8 wr g) hb4)
      have J2 := Lib.hid (HJJ.out.grow y wr W2 hJy T4.out)
      have HO2 := Lib.hid (hO.out.bel hb4)
      have HS2 : Hid (W.heap.size ≤ W2.heap.size) := Lib.hid (Nat.le_trans hS.out.1 hb4.size)
      obtain ⟨g4, cap4, e4, hb5, hg4, hn4, hm4⟩ := own_at ho4 (by rw [HM.out, HML.out]; omega)
      injection e4 with e4 _ e5
      subst e4 e5
      rw [HM.out] at hn4
      have d0 : W2.cell? ⟨g4, 0, none⟩ = some (.int .u8 (x0.toNat : Int)) := by
        have h1 := ho4.cellAt 0 (by rw [HM.out, HML.out]; omega)
        rw [h1, ← HFX.out]
        rfl
      obtain ⟨A5, m5, c5, hbc, hA5⟩ : ∃ A5 m5 c5, Bs W2 A5 m5 ch ∧ ((c4 = 1 ∧ A5 = some ⟨g4, 0, none⟩ ∧ m5 = 0 ∧ c5 = 0) ∨ (¬ c4 = 1 ∧ A5 = some ⟨g4, 1, none⟩ ∧ m5 = mf - 1 ∧ c5 = c4 - 1)) := by
        have hb1 := ho4.bs.tail 1 (by rw [HM.out, HML.out]; omega)
        rw [HM.out, ← HFX.out] at hb1
        by_cases hc1 : c4 = 1
        · refine ⟨some ⟨g4, 0, none⟩, 0, 0, ?_, .inl ⟨hc1, rfl, rfl, rfl⟩⟩
          have hz : ch = [] := List.eq_nil_of_length_eq_zero (by have := HML.out; omega)
          subst hz
          exact ⟨rfl, by simp, fun q hq => absurd hq (by simp)⟩
        · exact ⟨_, _, _, hb1, .inr ⟨hc1, rfl, rfl, rfl⟩⟩
      obtain ⟨r3, hr3⟩ : ∃ r, r = acc ++ ch := ⟨_, rfl⟩
      obtain ⟨A6, c6, W3, h1, h2, h3, h4⟩ := append_b3 W2 W.heap.size A3 c3 acc HO2.out HS2.out A5 m5 c5 ch hbc (by have := HCL.out; have := hYl.out.2; have := HLl.out; omega) 30 r3 hr3
      rw [← hk3.out] at h1
      have HR3 := Lib.hid h1
      have O6 := Lib.hid h2
      have J3 := Lib.hid (HJJ.out.grow y W2 W3 J2.out h3)
      have HS3 : Hid (W.heap.size ≤ W3.heap.size) := Lib.hid (Nat.le_trans HS2.out h3.size)
      have HR := Lib.hid hr3
      have hg4l : wr.heap.size ≤ g4 := own_ge ho4 (by rfl)
      have h5 := h4 g4 hg4 (fun a ha e => by obtain ⟨cur, hc⟩ := hO.out.u8 a ha; have := (Array.getElem?_eq_some_iff.1 hc).1; omega)
      have d3 : W3.cell? ⟨g4, 0, none⟩ = some (.int .u8 (x0.toNat : Int)) := by rw [← d0]; exact World.cell?_of_block h5
      clear hbc h1 h2 h3 h4 h5 hr3 hg4l
      have hm0 : ¬ (mf : Int) = 0 := by have := HML.out; omega
      have hm1 : (1 : Int) ≤ (mf : Int) := by have := HML.out; omega
      have hm2 : (mf : Int) ≤ (c4 : Int) := by omega
      clear ho4 hb4 cb hJy hb5
      rcases hx01 with rfl | rfl
      · have HNX : Hid (yl at2 r3 fsr' = ys.drop y ∧ r3.length ≤ at2) := Lib.hid ⟨by
          have h1 := hYl.out.1
          rw [yl, if_pos rfl] at h1
          rw [← h1, HR.out]
          congr 1
          have := HAT.out; have := HML.out; omega, by have := hYl.out.2; have := HAT.out; have := HML.out; rw [HR.out, List.length_append]; omega⟩
        have d3' : W3.cell? ⟨g4, 0, none⟩ = some (.int .u8 0) := d3
        clear d3 d0
        rcases hA5 with ⟨rfl, rfl, rfl, rfl⟩ | ⟨hc41, rfl, rfl, rfl⟩
        all_goals
          gi_wp2_with (gi_at_builtin; refine wpi_append_run rfl _ _ 30 rfl _ _ rfl rfl _ _ HR3.out ?_)
          refine ⟨⟨at2, y, _, A6, c6, r3, fsr', rfl, rfl, Lib.hid rfl, O6, HD2, HNX, HF2, J3.out, Lib.hid ⟨HS3.out, hS.out.2⟩⟩, ?_⟩
          have := HD2.out.2
          have := HAT.out
          simp [intOf]; omega
      · have hst := hYl.out.1
        rw [yl, if_neg (by decide), ← HR.out, show at_ + (ch.length + 13) = at2 from by have := HAT.out; have := HML.out; omega] at hst
        obtain ⟨hy1, hy2, hy3⟩ := drop_step hst
        have HY3 := Lib.hid hy3
        have HY1 := Lib.hid hy1
        obtain ⟨fn, tmps, assign, body, hy, hRd⟩ := hY y r3 at2 W3 A6 c6 hy2 J3.out (.of_own O6.out)
        have d3' : W3.cell? ⟨g4, 0, none⟩ = some (.int .u8 1) := d3
        clear d3 d0 hst hy1 hy2 hy3
        rcases hA5 with ⟨rfl, rfl, rfl, rfl⟩ | ⟨hc41, rfl, rfl, rfl⟩
        all_goals
          gi_wp2_with (gi_at_builtin; refine wpi_append_run rfl _ _ 30 rfl _ _ rfl rfl _ _ HR3.out ?_)
          refine hRd.mono ?_
          rintro e W4 ⟨rfl, hJ4⟩
          gi_wp2_with fail
          refine ⟨⟨at2, y + 1, 0, none, 0, [], fsr', rfl, rfl, Lib.hid rfl, Lib.hid (.nil _ _), HD2, Lib.hid ⟨HY3.out, Nat.zero_le _⟩, HF2, hJ4, Lib.hid ⟨HJJ.out.size _ _ hJ4, HY1.out⟩⟩, ?_⟩
          have := HD2.out.2
          have := HAT.out
          simp [intOf]; omega
set_option maxHeartbeats 1000000 in
theorem runs_in (F : Fence) (n : Nat) (h6 : F.fn 66) (hro : F.round = none) (a : Option Addr) (len cap : Nat) (w : World) :
    CallsIn F n Tryz.prog 66 #[.slice a len cap] w fun e w' => e = .returned (.func (.func 79) #[] #[.pointer (some ⟨w.heap.size, 0, none⟩)]) ∧ w' = w.alloc (.cells #[.slice a len cap] 30) := by
  refine callsIn_of_wp Tryz.func66 rfl h6 ?_ hro
  simp only [Tryz.ntmps66, List.size_toArray, List.length_cons, List.length_nil, Nat.reduceAdd, Nat.reduceSub, Array.replicate_succ, Array.replicate_zero, List.push_toArray, List.append_toArray, List.nil_append, List.cons_append]
  gi_wp2
  go_ret
  exact ⟨rfl, rfl⟩
end Go.Proofs.YteihedfmmiihiaaGreat
