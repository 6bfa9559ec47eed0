/- wal: load: what a file's bytes say. -/
import Derived.Test.YteihedfmmiihiaaGreatWlRuns
namespace Go.Proofs.YteihedfmmiihiaaGreat
open Go.RowKit Go.Shelf
attribute [local go_sem] Oper.semAt_some

/-- behind so many records -/
structure StY (ss : List Sv) (len y : Nat) (sv : Sv) (a : Nat) : Prop where
  rest : (ylS 0 none0 ss).drop y = ylS a sv (ss.drop y)
  last : sv = lastS none0 (ss.take y)
  ok : SvOk sv
  pos : a + (repB sv (ss.drop y)).length = len
theorem StY.zero (ss : List Sv) : StY ss (repB none0 ss).length 0 none0 0 := ⟨rfl, rfl, none0_ok, by simp⟩
theorem StY.next {ss : List Sv} {len y : Nat} {sv : Sv} {a : Nat} {rec : List UInt8} {pos : Nat} (h : StY ss len y sv a) (hs : ∀ x ∈ ss, SvOk x) (hy : (ylS 0 none0 ss)[y]? = some (rec, pos)) :
    ∃ x, rec = recB sv x ∧ SvOk x ∧ StY ss len (y + 1) x pos := by
  have hlt : y < (ylS 0 none0 ss).length := (List.getElem?_eq_some_iff.1 hy).1
  have hd := List.drop_eq_getElem_cons hlt
  rw [List.getElem?_eq_getElem hlt] at hy
  rw [Option.some.inj hy, h.rest] at hd
  cases hss : ss.drop y with
  | nil => rw [hss] at hd; cases hd
  | cons x rest =>
    rw [hss, ylS] at hd
    injection hd with h1 h2
    injection h1 with h3 h4
    have hmem : x ∈ ss := List.mem_of_mem_drop (by rw [hss]; exact List.mem_cons_self)
    have hd1 : ss.drop (y + 1) = rest := by
      have := congrArg List.tail hss
      rw [List.tail_drop] at this
      simpa using this
    have hyl : y < ss.length := by
      have := congrArg List.length hss
      rw [List.length_drop, List.length_cons] at this
      omega
    have hx : ss[y] = x := by
      have := List.drop_eq_getElem_cons hyl
      rw [hss] at this
      injection this with e _
      exact e.symm
    refine ⟨x, h3.symm, hs x hmem, ⟨?_, ?_, hs x hmem, ?_⟩⟩
    · rw [hd1, ← h4, h2]
    · rw [List.take_succ_eq_append_getElem hyl, hx, lastS_snoc]
    · have := h.pos
      rw [hss, repB_cons, List.length_append] at this
      rw [hd1]
      omega
theorem StY.end {ss : List Sv} {len : Nat} {sv : Sv} {a : Nat} (h : StY ss len (ylS 0 none0 ss).length sv a) : sv = lastS none0 ss ∧ a = len := by
  have h1 := h.rest
  rw [List.drop_length] at h1
  have h2 : ss.drop (ylS 0 none0 ss).length = [] := by
    cases hss : ss.drop (ylS 0 none0 ss).length with
    | nil => rfl
    | cons x r => rw [hss, ylS] at h1; cases h1
  have h3 := h.last
  have h4 := h.pos
  rw [h2] at h4
  rw [List.take_of_length_le (List.drop_eq_nil_iff.1 h2)] at h3
  exact ⟨h3, by simpa [repB, repF] using h4⟩
/-- the memory of load while it ranges -/
structure LdJ (w : World) (rec : Loop) (A : Option Addr) (c : Nat) (L : List UInt8) (ss : List Sv) (len y : Nat) (W : World) : Prop where
  b0 : Blk W w.heap.size 27 [.int .i64 0, .int .i64 0, .slice none 0 0]
  b1 : Blk W (w.heap.size + 1) 3 [.int .i64 0]
  b2 : Blk W (w.heap.size + 2) 4 [.bool false]
  st : ∃ (sv : Sv) (a : Nat) (A' : Option Addr) (c' : Nat), Blk W (w.heap.size + 3) 27 [.int .i64 sv.term, .int .i64 sv.vote, .slice A' sv.log.length c'] ∧ Lg W A' sv.log.length c' sv.log ∧ Blk W (w.heap.size + 4) 3 [.int .i64 (a : Int)] ∧ StY ss len y sv a
  bx : Blk W (w.heap.size + 5) 30 [.slice A L.length c]
  df : W.heap[w.heap.size + 6]? = some (.deferred (some []))
  lp : W.heap[w.heap.size + 7]? = some (.loop rec)
  bel : Below w.heap.size w W
theorem heap_turns {w w' : World} {S : Nat → Prop} {g : Nat} {o : Obj} (k : Turns S w w') (h : w.heap[g]? = some o) (hn : ¬ S g) : w'.heap[g]? = some o := (k.block g (Array.getElem?_eq_some_iff.1 h).1 hn).trans h
theorem LdJ.turns {w W W' : World} {rec : Loop} {A : Option Addr} {c len y : Nat} {L : List UInt8} {ss : List Sv} {S : Nat → Prop} (h : LdJ w rec A c L ss len y W) (k : Turns S W W') (hS : ∀ g, g < w.heap.size + 8 → ¬ S g) (hE : ∀ g, IsEn W g → ¬ S g) : LdJ w rec A c L ss len y W' := by
  obtain ⟨sv, a, A', c', h3, h4, h5, h6⟩ := h.st
  refine ⟨h.b0.turns k (hS _ (by omega)), h.b1.turns k (hS _ (by omega)), h.b2.turns k (hS _ (by omega)), ⟨sv, a, A', c', h3.turns k (hS _ (by omega)), h4.keep k (fun g cs hg _ => hE g ⟨cs, hg⟩), h5.turns k (hS _ (by omega)), h6⟩, h.bx.turns k (hS _ (by omega)), heap_turns k h.df (hS _ (by omega)), heap_turns k h.lp (hS _ (by omega)), ?_⟩
  exact h.bel.trans (k.below h.bel.size (fun i _ e => Nat.le_of_not_lt (fun hlt => hS i (by omega) e)))
theorem LdJ.runs {w : World} {rec : Loop} {A : Option Addr} {c len : Nat} {L : List UInt8} {ss : List Sv} (hR : Rb w A c L) : RunsJ (w.heap.size + 8) (w.heap.size + 5) A c L (LdJ w rec A c L ss len) where
  grow := fun y W W' h k => h.turns k (fun g hg e => by have := e.1; omega) (fun g hg e => hg.ne8 e.2 rfl)
  box := fun y W h => h.bx.cell 0
  row := fun y W h => hR.bel h.bel
  size := fun y W h => (Array.getElem?_eq_some_iff.1 h.lp).1
theorem Blk.newk {w : World} {g : Nat} (hg : w.heap.size = g) (t : TypeId) (cs : List Value) : Blk (w.alloc (.cells cs.toArray t)) g t cs := by subst hg; exact Blk.new w t cs
theorem heap_newk {w : World} {g : Nat} (hg : w.heap.size = g) (o : Obj) : (w.alloc o).heap[g]? = some o := by subst hg; exact heap_alloc_new w o
theorem heap_keepk {w : World} {g : Nat} {o o2 : Obj} (h : w.heap[g]? = some o) : (w.alloc o2).heap[g]? = some o := (Below.heap_alloc w o2 g (Array.getElem?_eq_some_iff.1 h).1).trans h
/-- the memory at the loop's begin -/
theorem LdJ.start (w : World) (rec : Loop) (A : Option Addr) (c : Nat) (L : List UInt8) (ss : List Sv) (W0 : World) (hW0 : W0 = ((((((w.alloc (.cells #[.int .i64 0, .int .i64 0, .slice none 0 0] 27)).alloc (.cells #[.int .i64 0] 3)).alloc (.cells #[.bool false] 4)).alloc (.cells #[.int .i64 0, .int .i64 (-1), .slice none 0 0] 27)).alloc (.cells #[.int .i64 0] 3)).alloc (.cells #[.slice A L.length c] 30))) :
    W0.heap.size = w.heap.size + 6 ∧ LdJ w rec A c L ss (repB none0 ss).length 0 ((W0.alloc (.deferred (some []))).alloc (.loop rec)) := by
  subst hW0
  refine ⟨by simp, ⟨?_, ?_, ?_, ⟨none0, 0, none, 0, ?_, Lg.none _, ?_, StY.zero ss⟩, ?_, ?_, ?_, ?_⟩⟩
  · exact (((((((Blk.newk rfl _ [.int .i64 0, .int .i64 0, .slice none 0 0]).alloc _).alloc _).alloc _).alloc _).alloc _).alloc _).alloc _
  · exact ((((((Blk.newk (by simp) _ [.int .i64 0]).alloc _).alloc _).alloc _).alloc _).alloc _).alloc _
  · exact (((((Blk.newk (by simp) _ [.bool false]).alloc _).alloc _).alloc _).alloc _).alloc _
  · exact ((((Blk.newk (by simp) _ [.int .i64 0, .int .i64 (-1), .slice none 0 0]).alloc _).alloc _).alloc _).alloc _
  · exact (((Blk.newk (by simp) _ [.int .i64 0]).alloc _).alloc _).alloc _
  · exact ((Blk.newk (by simp) _ [.slice A L.length c]).alloc _).alloc _
  · exact heap_keepk (heap_newk (by simp) _)
  · exact heap_newk (by simp) _
  · refine ((((((((Below.refl _ w).alloc (Nat.le_refl _) _).alloc ?_ _).alloc ?_ _).alloc ?_ _).alloc ?_ _).alloc ?_ _).alloc ?_ _).alloc ?_ _
    all_goals (simp; try omega)
theorem turns_putObj (W : World) (l : Nat) (o : Obj) : Turns (fun i => i = l) W (W.putObj l o) := .of_grown (grownBy_putObj' W l o) (fun r e => by injection e with e; exact e.symm)
theorem LdJ.round {w W' W2 W3 : World} {rec rec2 : Loop} {A A5 : Option Addr} {c c5 len y pos : Nat} {L : List UInt8} {ss : List Sv} {x : Sv} (hJ : LdJ w rec A c L ss len y W') (hst : StY ss len (y + 1) x pos)
    (hT : Turns (fun i => i = w.heap.size + 3) (W'.putObj (w.heap.size + 7) (.loop rec2)) W2) (hb : Blk W2 (w.heap.size + 3) 27 [.int .i64 x.term, .int .i64 x.vote, .slice A5 x.log.length c5]) (hl : Lg W2 A5 x.log.length c5 x.log)
    (hW3 : W3 = W2.setCell ⟨w.heap.size + 4, 0, none⟩ (.int .i64 (pos : Int))) : W3.heap[w.heap.size + 7]? = some (.loop rec2) ∧ LdJ w rec A c L ss len (y + 1) (W3.putObj (w.heap.size + 7) (.loop rec)) := by
  have T1 := turns_putObj W' (w.heap.size + 7) (.loop rec2)
  have hlt := (Array.getElem?_eq_some_iff.1 hJ.lp).1
  have hl1 : (W'.putObj (w.heap.size + 7) (.loop rec2)).heap[w.heap.size + 7]? = some (.loop rec2) := World.putObj_heap_same hlt
  have hl2 := heap_turns hT hl1 (by omega)
  obtain ⟨sv, a, A', c', h3, h4, h5, h6⟩ := hJ.st
  have k4 := (h5.turns T1 (by omega)).turns hT (by omega)
  have T3 : Turns (fun i => i = w.heap.size + 4) W2 W3 := by rw [hW3]; exact Turns.of_set (S := fun i => i = w.heap.size + 4) W2 ⟨w.heap.size + 4, 0, none⟩ _ rfl
  have hl3 := heap_turns T3 hl2 (by omega)
  have T4 := turns_putObj W3 (w.heap.size + 7) (.loop rec)
  refine ⟨hl3, ?_⟩
  have k5 : Blk W3 (w.heap.size + 4) 3 [.int .i64 (pos : Int)] := by rw [hW3]; exact k4.set 0 _
  have far : ∀ {g : Nat} {t : TypeId} {cs : List Value}, Blk W' g t cs → g ≠ w.heap.size + 7 → g ≠ w.heap.size + 3 → g ≠ w.heap.size + 4 → Blk (W3.putObj (w.heap.size + 7) (.loop rec)) g t cs := fun hb e1 e2 e3 => (((hb.turns T1 e1).turns hT e2).turns T3 e3).turns T4 e1
  have hlE : ∀ g cs, W3.heap[g]? = some (.cells cs 29 (0, 0)) → ¬ g = w.heap.size + 7 := fun g cs hg e => by rw [e, hl3] at hg; cases hg
  refine ⟨far hJ.b0 (by omega) (by omega) (by omega), far hJ.b1 (by omega) (by omega) (by omega), far hJ.b2 (by omega) (by omega) (by omega), ⟨x, pos, A5, c5, ((hb.turns T3 (by omega)).turns T4 (by omega)), ((hl.keep T3 (fun g cs hg _ e => IsEn.ne ⟨cs, hg⟩ k4 (by decide) e)).keep T4 (fun g cs hg _ => hlE g cs hg)), k5.turns T4 (by omega), hst⟩, far hJ.bx (by omega) (by omega) (by omega), ?_, ?_, ?_⟩
  · exact heap_turns T4 (heap_turns T3 (heap_turns hT (heap_turns T1 hJ.df (by omega)) (by omega)) (by omega)) (by omega)
  · exact World.putObj_heap_same (Array.getElem?_eq_some_iff.1 hl3).1
  · refine hJ.bel.trans ?_
    have TT : Turns (fun i => w.heap.size ≤ i) W' (W3.putObj (w.heap.size + 7) (.loop rec)) := (((T1.mono (fun i _ e => by omega)).then (hT.mono (fun i _ e => by omega))).then (T3.mono (fun i _ e => by omega))).then (T4.mono (fun i _ e => by omega))
    exact TT.below hJ.bel.size (fun i _ e => e)
def LoadY (w : World) (s : Sv) (len : Nat) (e : Ending) (w' : World) : Prop := ∃ A c, e = .returned (.tuple #[svV s.term s.vote A s.log.length c, .int .i64 (len : Int), .bool true]) ∧ Lg w' A s.log.length c s.log ∧ Below w.heap.size w w'
set_option maxRecDepth 100000 in
set_option maxHeartbeats 4000000 in
theorem load_any (w : World) (A : Option Addr) (c : Nat) (L l t : List UInt8) (s : Sv) (hR : Rb w A c L) (hLl : L.length ≤ 100000000) (hLt : L = l ++ t) (hF : FileIs l s) (hT : Rest t) :
    Calls Tryz.prog 39 #[.slice A L.length c] w (LoadY w s l.length) := by
  obtain ⟨ss, fs, x, e1, hx, hfs, hyl, hl, hlast, hok⟩ := file_frames hF hT
  rw [← hLt] at e1
  have HR := Lib.hid hR
  have HL := Lib.hid hLl
  have HE := Lib.hid e1
  have HOK := Lib.hid hok
  have HYL := Lib.hid hyl
  have HFS := Lib.hid hfs
  have HLL := Lib.hid hl
  have HLA := Lib.hid hlast
  have HX := Lib.hid hx
  clear hR hLl hLt hF hT e1 hok hyl hfs hl hlast hx
  refine (callsIn_wide (n := 8)).1 ?_
  refine callsIn_of_wp_marks Tryz.func39 rfl trivial ?_ rfl
  simp only [Tryz.ntmps39, List.size_toArray, List.length_cons, List.length_nil, Nat.reduceAdd, Nat.reduceSub, Array.replicate_succ, Array.replicate_zero, List.push_toArray, List.append_toArray, List.nil_append, List.cons_append]
  gi_wp2_with (refine ⟨trivial, ?_⟩; gi_at_call 66; refine (runs_in Fence.wide _ trivial rfl _ _ _ _).mono ?_; rintro e w' ⟨rfl, rfl⟩)
  obtain ⟨W0, hW0⟩ : ∃ W0, W0 = ((((((w.alloc (.cells #[.int .i64 0, .int .i64 0, .slice none 0 0] 27)).alloc (.cells #[.int .i64 0] 3)).alloc (.cells #[.bool false] 4)).alloc (.cells #[.int .i64 0, .int .i64 (-1), .slice none 0 0] 27)).alloc (.cells #[.int .i64 0] 3)).alloc (.cells #[.slice A L.length c] 30)) := ⟨_, rfl⟩
  have HST := fun rec => LdJ.start w rec A c L ss W0 hW0
  rw [← hW0]
  have hsz := (HST default).1
  clear hW0
  refine my_range rfl (by omega) (gf := 79) (lb := #[.pointer (some ⟨w.heap.size + 1 + 1 + 1 + 1 + 1, 0, none⟩)]) rfl trivial (enters_of Tryz.func79 (by kernel_rfl) rfl) ?_
  intro fn hfn rec hrec
  rw [hsz] at hrec ⊢
  have HJ0 := (HST rec).2
  rw [← HLL.out] at HJ0
  have hn1 : ((W0.alloc (.deferred (some []))).alloc (.loop rec)).heap.size = w.heap.size + 8 := by simp [hsz]
  refine (runs1_in 7 (by omega) (w.heap.size + 7) (w.heap.size + 5) A c L HL.out fs x HE.out HX.out HFS.out (ylS 0 none0 ss) HYL.out (LdJ w rec A c L ss l.length) _ (by rw [hn1]; exact LdJ.runs HR.out) ?_ HJ0).mono ?_
  · intro y rc pos W' A2 c2 hy hJ hrb
    obtain ⟨sv, a, A', c', k3, kl, k4, kst⟩ := hJ.st
    obtain ⟨x', hrc, hxok, hst⟩ := kst.next HOK.out hy
    refine my_yield hJ.lp (by rw [hrec]) (by rw [hrec]) (by rw [hrec]; rfl) (by rw [hrec]; exact hfn) ?_
    have HJ := Lib.hid hJ
    have HSTx := Lib.hid hst
    have HXO := Lib.hid hxok
    have HSO := Lib.hid kst.ok
    have hlp := hJ.lp
    obtain ⟨rec2, hrec2⟩ : ∃ r : Loop, { rec with state := .busy } = r := ⟨_, rfl⟩
    rw [hrec2]
    have T1 := turns_putObj W' (w.heap.size + 7) (.loop rec2)
    have M3 := Lib.hid (k3.turns T1 (by omega))
    have ML := Lib.hid (kl.keep T1 (fun g cs hg _ e => by rw [e, hJ.lp] at hg; cases hg))
    have MR := Lib.hid (hrb.keep T1 (fun g hg e => by obtain ⟨cur, hc⟩ := hg; rw [e, hJ.lp] at hc; cases hc))
    have M4 := Lib.hid (k4.turns T1 (by omega))
    have HRC := Lib.hid hrc
    clear T1 k3 kl k4 kst hst hxok hrb hrc hJ hrec2
    obtain ⟨W1, hW1⟩ : ∃ W1, W'.putObj (w.heap.size + 7) (.loop rec2) = W1 := ⟨_, rfl⟩
    have HW1 := Lib.hid hW1
    rw [hW1] at M3 ML MR M4
    subst hrec
    dsimp only
    have HAP := Lib.hid (apply_ok W1 (w.heap.size + 3) A' A2 c' c2 sv x' rc M3.out ML.out MR.out HRC.out HXO.out HSO.out.log)
    gi_wp2_with fail
    refine ⟨trivial, (CallsIn.inRound _ (callsIn_wide.2 HAP.out)).mono ?_⟩
    rintro e W2 ⟨rfl, hT2, A5, c5, hb5, hl5⟩
    have T2 := Lib.hid hT2
    have B5 := Lib.hid hb5
    have L5 := Lib.hid hl5
    have K4 := Lib.hid (M4.out.turns hT2 (by omega))
    clear hT2 hb5 hl5
    have z4 : W2.frozen? ⟨w.heap.size + 1 + 1 + 1 + 1, 0, none⟩ = false := K4.out.fz 0
    have d4 : W2.cell? ⟨w.heap.size + 1 + 1 + 1 + 1, 0, none⟩ = some (.int .i64 (a : Int)) := K4.out.cell 0
    gi_wp2_with fail
    obtain ⟨r1, r2⟩ := LdJ.round (rec2 := rec2) (W3 := W2.setCell ⟨w.heap.size + 1 + 1 + 1 + 1, 0, none⟩ (.int .i64 (pos : Int))) HJ.out HSTx.out (by rw [HW1.out]; exact T2.out) B5.out L5.out rfl
    exact ⟨r1, r2⟩
  · rintro e W' ⟨hv, hJ⟩
    refine ⟨hv, hJ.lp, ?_⟩
    obtain ⟨sv, a, A', c', k3, kl, k4, kst⟩ := hJ.st
    obtain ⟨e5, e6⟩ := kst.end
    rw [HLA.out] at e5
    rw [e5] at k3 kl
    rw [e6] at k4
    have T1 := turns_putObj W' (w.heap.size + 7) (.loop { rec with state := .exhausted })
    have M0 := Lib.hid (hJ.b0.turns T1 (by omega))
    have M1 := Lib.hid (hJ.b1.turns T1 (by omega))
    have M2 := Lib.hid (hJ.b2.turns T1 (by omega))
    have M3 := Lib.hid (k3.turns T1 (by omega))
    have M4 := Lib.hid (k4.turns T1 (by omega))
    have ML := Lib.hid (kl.keep T1 (fun g cs hg _ e => by rw [e, hJ.lp] at hg; cases hg))
    have MD := Lib.hid (heap_turns T1 hJ.df (by omega))
    have MB := Lib.hid (hJ.bel.trans (T1.below hJ.bel.size (fun i _ e => by omega)))
    clear T1 k3 kl k4 kst hJ e5 e6
    generalize W'.putObj (w.heap.size + 6 + 1) (.loop { rec with state := .exhausted }) = X at *
    have d0 : X.cell? ⟨w.heap.size, 0, none⟩ = some (.int .i64 0) := M0.out.cell 0
    have d1 : X.cell? ⟨w.heap.size, 1, none⟩ = some (.int .i64 0) := M0.out.cell 1
    have d2 : X.cell? ⟨w.heap.size, 2, none⟩ = some (.slice none 0 0) := M0.out.cell 2
    have z0 := M0.out.fz 0
    have z1 := M0.out.fz 1
    have z2 := M0.out.fz 2
    have e1 : X.cell? ⟨w.heap.size + 1, 0, none⟩ = some (.int .i64 0) := M1.out.cell 0
    have ez := M1.out.fz 0
    have f1 : X.cell? ⟨w.heap.size + 1 + 1, 0, none⟩ = some (.bool false) := M2.out.cell 0
    have fz : X.frozen? ⟨w.heap.size + 1 + 1, 0, none⟩ = false := M2.out.fz 0
    have g0 : X.cell? ⟨w.heap.size + 1 + 1 + 1, 0, none⟩ = some (.int .i64 s.term) := M3.out.cell 0
    have g1 : X.cell? ⟨w.heap.size + 1 + 1 + 1, 1, none⟩ = some (.int .i64 s.vote) := M3.out.cell 1
    have g2 : X.cell? ⟨w.heap.size + 1 + 1 + 1, 2, none⟩ = some (.slice A' s.log.length c') := M3.out.cell 2
    have g3 : X.cell? ⟨w.heap.size + 1 + 1 + 1 + 1, 0, none⟩ = some (.int .i64 (l.length : Int)) := M4.out.cell 0
    have hmx : Tryz.prog.follows .mixedOrders = true := by kernel_rfl
    gi_wp2_with fail
    have hdr := below_drewN' (Below.refl X.heap.size X) 1
    have hSO : mayB s = true := (mayB_iff s).2 (by have := lastS_ok ss none0 none0_ok HOK.out; rwa [HLA.out] at this)
    have HMY := may_any X.drew A' s.log.length c' s (ML.out.bel hdr)
    rw [hSO] at HMY
    have HMY := Lib.hid HMY
    have HDR := Lib.hid hdr
    clear hdr hSO
    gi_region_with_o (go_simp; refine ⟨trivial, ?_⟩; gi_at_call 28; refine (callsIn_wide.2 HMY.out).mono ?_; rintro e X2 ⟨rfl, hb2⟩; have HB2 := Lib.hid (below_trans' HDR.out hb2); have N0 := Lib.hid (M0.out.bel HB2.out); have N1 := Lib.hid (M1.out.bel HB2.out); have N2 := Lib.hid (M2.out.bel HB2.out); have N3 := Lib.hid (M3.out.bel HB2.out); have N4 := Lib.hid (M4.out.bel HB2.out); have nd0 : X2.cell? ⟨w.heap.size, 0, none⟩ = some (.int .i64 0) := N0.out.cell 0; have nd1 : X2.cell? ⟨w.heap.size, 1, none⟩ = some (.int .i64 0) := N0.out.cell 1; have nd2 : X2.cell? ⟨w.heap.size, 2, none⟩ = some (.slice none 0 0) := N0.out.cell 2; have nz0 := N0.out.fz 0; have nz1 := N0.out.fz 1; have nz2 := N0.out.fz 2; have ne1 : X2.cell? ⟨w.heap.size + 1, 0, none⟩ = some (.int .i64 0) := N1.out.cell 0; have nez := N1.out.fz 0; have nf1 : X2.cell? ⟨w.heap.size + 1 + 1, 0, none⟩ = some (.bool false) := N2.out.cell 0; have nfz : X2.frozen? ⟨w.heap.size + 1 + 1, 0, none⟩ = false := N2.out.fz 0; have ng0 : X2.cell? ⟨w.heap.size + 1 + 1 + 1, 0, none⟩ = some (.int .i64 s.term) := N3.out.cell 0; have ng1 : X2.cell? ⟨w.heap.size + 1 + 1 + 1, 1, none⟩ = some (.int .i64 s.vote) := N3.out.cell 1; have ng2 : X2.cell? ⟨w.heap.size + 1 + 1 + 1, 2, none⟩ = some (.slice A' s.log.length c') := N3.out.cell 2; have ng3 : X2.cell? ⟨w.heap.size + 1 + 1 + 1 + 1, 0, none⟩ = some (.int .i64 (l.length : Int)) := N4.out.cell 0; clear hb2)
    all_goals
      have P0 := ((((N0.out.set 0 (.int .i64 s.term)).set 1 (.int .i64 s.vote)).set 2 (.slice A' s.log.length c')).far (p := ⟨w.heap.size + 1, 0, none⟩) (by simp only; omega) (.int .i64 (l.length : Int))).far (p := ⟨w.heap.size + 1 + 1, 0, none⟩) (by simp only; omega) (.bool true)
      have P1 := (((((N1.out.far (p := ⟨w.heap.size, 0, none⟩) (by simp only; omega) (.int .i64 s.term)).far (p := ⟨w.heap.size, 1, none⟩) (by simp only; omega) (.int .i64 s.vote)).far (p := ⟨w.heap.size, 2, none⟩) (by simp only; omega) (.slice A' s.log.length c')).set 0 (.int .i64 (l.length : Int))).far (p := ⟨w.heap.size + 1 + 1, 0, none⟩) (by simp only; omega) (.bool true))
      have P2 := ((((N2.out.far (p := ⟨w.heap.size, 0, none⟩) (by simp only; omega) (.int .i64 s.term)).far (p := ⟨w.heap.size, 1, none⟩) (by simp only; omega) (.int .i64 s.vote)).far (p := ⟨w.heap.size, 2, none⟩) (by simp only; omega) (.slice A' s.log.length c')).far (p := ⟨w.heap.size + 1, 0, none⟩) (by simp only; omega) (.int .i64 (l.length : Int))).set 0 (.bool true)
      have TT : Turns (fun i => i = w.heap.size ∨ i = w.heap.size + 1 ∨ i = w.heap.size + 2) X (((((X2.setCell ⟨w.heap.size, 0, none⟩ (.int .i64 s.term)).setCell ⟨w.heap.size, 1, none⟩ (.int .i64 s.vote)).setCell ⟨w.heap.size, 2, none⟩ (.slice A' s.log.length c')).setCell ⟨w.heap.size + 1, 0, none⟩ (.int .i64 (l.length : Int))).setCell ⟨w.heap.size + 1 + 1, 0, none⟩ (.bool true)) := by
        exact (((((Turns.of_below HB2.out).set _ _ (fun _ => .inl rfl)).set _ _ (fun _ => .inl rfl)).set _ _ (fun _ => .inl rfl)).set _ _ (fun _ => .inr (.inl rfl))).set _ _ (fun _ => .inr (.inr rfl))
      have HP0 := Lib.hid P0
      have HP1 := Lib.hid P1
      have HP2 := Lib.hid P2
      have HTT := Lib.hid TT
      clear P0 P1 P2 TT nd0 nd1 nd2 nz0 nz1 nz2 ne1 nez nf1 nfz ng0 ng1 ng2 ng3
      generalize (((((X2.setCell ⟨w.heap.size, 0, none⟩ (.int .i64 s.term)).setCell ⟨w.heap.size, 1, none⟩ (.int .i64 s.vote)).setCell ⟨w.heap.size, 2, none⟩ (.slice A' s.log.length c')).setCell ⟨w.heap.size + 1, 0, none⟩ (.int .i64 (l.length : Int))).setCell ⟨w.heap.size + 1 + 1, 0, none⟩ (.bool true)) = Y at *
      gi_wp2_with fail
      have hK := heap_turns HTT.out MD.out (by omega)
      refine ⟨by simp, .inl ⟨_, _, rfl, run_takeDeferred hK, ?_⟩⟩
      have TD := turns_putObj Y (w.heap.size + 6) (.deferred none)
      have R0 := HP0.out.turns TD (by omega)
      have R1 := HP1.out.turns TD (by omega)
      have R2 := HP2.out.turns TD (by omega)
      have L1 := (ML.out.keep HTT.out (fun g cs hg _ e => by
        rcases e with e | e | e
        · exact IsEn.ne ⟨cs, hg⟩ M0.out (by decide) e
        · exact IsEn.ne ⟨cs, hg⟩ M1.out (by decide) e
        · exact IsEn.ne ⟨cs, hg⟩ M2.out (by decide) e)).keep TD (fun g cs hg _ e => by rw [e, hK] at hg; cases hg)
      have BB : Below w.heap.size w (Y.putObj (w.heap.size + 6) (.deferred none)) := (MB.out.trans (HTT.out.below MB.out.size (fun i _ e => by omega))).trans (TD.below (by have := (Array.getElem?_eq_some_iff.1 hK).1; omega) (fun i _ e => by omega))
      refine ⟨_, ?_, A', c', rfl, L1, BB⟩
      generalize Y.putObj (w.heap.size + 6) (.deferred none) = Z at *
      have t0 : Z.cell? ⟨w.heap.size, 0, none⟩ = some (.int .i64 s.term) := R0.cell 0
      have t1 : Z.cell? ⟨w.heap.size, 1, none⟩ = some (.int .i64 s.vote) := R0.cell 1
      have t2 : Z.cell? ⟨w.heap.size, 2, none⟩ = some (.slice A' s.log.length c') := R0.cell 2
      have t3 : Z.cell? ⟨w.heap.size + 1, 0, none⟩ = some (.int .i64 (l.length : Int)) := R1.cell 0
      have t4 : Z.cell? ⟨w.heap.size + 1 + 1, 0, none⟩ = some (.bool true) := R2.cell 0
      simp [results, Tryz.f39, go_sem, t0, t1, t2, t3, t4, svV]
      done
end Go.Proofs.YteihedfmmiihiaaGreat
