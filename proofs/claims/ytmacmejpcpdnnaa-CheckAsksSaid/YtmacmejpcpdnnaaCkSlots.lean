/- check: check.Slots, whole. -/
import Derived.Test.YtmacmejpcpdnnaaCkChk
import Derived.Test.YtmacmejpcpdnnaaCkSlWalk
import Derived.BigQuiet
namespace Go.Proofs.Ytmacmejpcpdnnaa
open Go.RowKit
attribute [local go_sem] run_store_fn' run_store_nf'

theorem run_make0 (n : Nat) (hn : n ≤ 100000) (w : World) : (Instr.makeSlice 25 (.int .i64 0) (.int .i64 (n : Int))).run Try.prog w = .ok (.slice (some ⟨w.heap.size, 0, none⟩) 0 n) (w.alloc (.cells (madeCells #[.int .i64 0] n) 3)) := by
  obtain ⟨i0, hi, hz0, hz1, hz2⟩ := info_parts info_int
  have h := run_make (P := Try.prog) w 25 3 i0 (.int .i64 0) Try.underlying25 hi hz0 .i64 .i64 0 (n : Int) (by omega) (by omega) (by rw [hz2]; omega) (by omega)
  rw [h, hz1]
  simp [Value.cells]
theorem ckTree_two (t : List Tw) : (ckTree t).2 = 0 → ckTree t = (0, 0) := by
  unfold ckTree
  split
  · simp
  · cases ckK t (t.length + 2) 0 1 .any 1 none with
    | error p => simp
    | ok q =>
      obtain ⟨g, a, d⟩ := q
      simp only
      split
      · simp
      · cases d <;> simp
theorem ckTree_cases (t : List Tw) : (ckTree t).2 = 0 ∨ (ckTree t).2 = 2 ∨ (ckTree t).2 = 3 := by
  unfold ckTree
  split
  · simp
  · cases ckK t (t.length + 2) 0 1 .any 1 none with
    | error p => simp
    | ok q =>
      obtain ⟨g, a, d⟩ := q
      simp only
      split
      · simp
      · cases d <;> simp
theorem Blk.newAt' {W : World} {n : Nat} (h : W.heap.size = n) (t : TypeId) (cs : List Value) : Blk (W.alloc (.cells cs.toArray t)) n t cs := h ▸ Blk.new W t cs
/-- where check.Slots's shared variables lie -/
def slAt (w w2 : World) (a : Option Addr) (n c : Nat) : SK := ⟨w.heap.size, a, n, c, w.heap.size, w2.heap.size + 1 + 1 + 1 + 1 + 1, w2.heap.size + 1 + 1, w2.heap.size + 1 + 1 + 1 + 1 + 1 + 1 + 1, w2.heap.size + 1, w2.heap.size + 1 + 1 + 1 + 1 + 1 + 1, w2.heap.size + 1 + 1 + 1 + 1, w2.heap.size + 1 + 1 + 1 + 1 + 1 + 1 + 1 + 1, w2.heap.size⟩
def slWorld (w2 : World) (K : SK) : World :=
  (((((((((w2.alloc (.map #[] 0)).alloc (.cells #[.map (some w2.heap.size)] 45)).alloc (.cells #[.int .i64 0] 3)).alloc (.cells (madeCells #[.int .i64 0] K.n) 3)).alloc
    (.cells #[.slice (some ⟨w2.heap.size + 1 + 1 + 1, 0, none⟩) 0 K.n] 25)).alloc (.cells #[.int .i64 0] 3)).alloc (.cells #[.int .i64 0] 26)).alloc
    (.cells #[.func (.func 24) #[] K.ecaps] 47)).alloc (.cells #[.func (.func 25) #[] K.wcaps] 48))
def sl0 : Sl := ⟨0, 0, fun _ => none, []⟩
theorem senv_start {w w2 : World} {a : Option Addr} {n c : Nat} {t : List Tw} (hT : Tws w w.heap.size a n t) (hc : n ≤ c ∧ c ≤ maxLen) (hl : n ≤ 2048) (hB : Below (w.alloc (.cells #[.slice a n c] 23)).heap.size (w.alloc (.cells #[.slice a n c] 23)) w2) :
    SEnv (slWorld w2 (slAt w w2 a n c)) (slAt w w2 a n c) t (.slice (some ⟨w2.heap.size + 1 + 1 + 1, 0, none⟩) 0 n) sl0 0 ∧ Below w.heap.size w (slWorld w2 (slAt w w2 a n c)) := by
  have hsz := hB.size
  simp only [World.size_alloc] at hsz
  have b9 : Below w2.heap.size w2 (slWorld w2 (slAt w w2 a n c)) := by
    unfold slWorld
    exact (((((((((Below.new w2 _).alloc (by simp) _).alloc (by simp; omega) _).alloc (by simp; omega) _).alloc (by simp; omega) _).alloc (by simp; omega) _).alloc (by simp; omega) _).alloc (by simp; omega) _).alloc (by simp; omega) _)
  have hb0 : Blk (w.alloc (.cells #[.slice a n c] 23)) w.heap.size 23 [.slice a n c] := Blk.new w _ [_]
  have hBw : Below w.heap.size w (slWorld w2 (slAt w w2 a n c)) := ((Below.new w _).trans (hB.mono (by simp))).trans (b9.mono (by omega))
  have hr0 := World.ownsRow_made (base := w.heap.size) (e := 3) (size := 1) (((w2.alloc (.map #[] 0)).alloc (.cells #[.map (some w2.heap.size)] 45)).alloc (.cells #[.int .i64 0] 3)) (madeCells #[.int .i64 0] n) n (by simp; omega) (by omega) (by rw [size_madeCells]; omega)
  simp only [World.size_alloc] at hr0
  refine ⟨⟨(hb0.bel hB).bel b9, ?_, ?_, ?_, ?_, ?_, ?_, ?_, ?_, ?_, hT.turns (.of_below (S := fun _ => False) hBw) (fun _ q => q.elim), ?_, ?_, ?_, hc, hl⟩, hBw⟩
  · exact (((Blk.newAt' (by simp [slAt]) 3 [.int .i64 0]).alloc _).alloc _).alloc _
  · exact ((((((Blk.newAt' (by simp [slAt]) 3 [.int .i64 0]).alloc _).alloc _).alloc _).alloc _).alloc _).alloc _
  · exact (Blk.newAt' (by simp [slAt]) 47 [.func (.func 24) #[] (slAt w w2 a n c).ecaps]).alloc _
  · exact (((((((Blk.newAt' (by simp [slAt]) 45 [.map (some w2.heap.size)]).alloc _).alloc _).alloc _).alloc _).alloc _).alloc _).alloc _
  · exact ((Blk.newAt' (by simp [slAt]) 26 [.int .i64 0]).alloc _).alloc _
  · exact ((((Blk.newAt' (by simp [slAt]) 25 [.slice (some ⟨w2.heap.size + 1 + 1 + 1, 0, none⟩) 0 n]).alloc _).alloc _).alloc _).alloc _
  · exact Blk.newAt' (by simp [slAt]) 48 [.func (.func 25) #[] (slAt w w2 a n c).wcaps]
  · exact ((((hr0.alloc _).alloc _).alloc _).alloc _).alloc _
  · exact ⟨0, (((((((((MapIs.empty kStr w2).alloc _).alloc _).alloc _).alloc _).alloc _).alloc _).alloc _).alloc _)⟩
  · simp only [slAt]; omega
  · intro g hg
    simp only [Value.ownBlock, Option.some.injEq] at hg
    simp only [slAt]
    omega
  · simp only [slAt]; omega
/-- what check.Slots's call says -/
def SlotsY (w : World) (t : List Tw) (e : Ending) (w' : World) : Prop :=
  Below w.heap.size w w' ∧ match slots t with
    | .ok l => ∃ v, e = .returned (.tuple #[v, .int .i64 0, .int .i64 0]) ∧ w'.ownsRow w.heap.size 3 1 v l.length (l.map intI)
    | .error (p, er) => er ≠ 0 ∧ e = .returned (.tuple #[.slice none 0 0, .int .i64 (p : Int), .int .i64 (er : Int)])
set_option maxRecDepth 20000 in
set_option maxHeartbeats 6400000 in
theorem slots_any (w : World) (a : Option Addr) (n c : Nat) (t : List Tw) (hc : n ≤ c ∧ c ≤ maxLen) (h : Tws w w.heap.size a n t) :
    Calls Try.prog 9 #[.slice a n c] w (SlotsY w t) := by
  have hn := h.len
  have HN := Lib.hid hn
  have HC := Lib.hid hc
  have HT := Lib.hid h
  have HCK := Lib.hid (check_any (w.alloc (.cells #[.slice a n c] 23)) a n c t hc ⟨h.len, fun i hi => by obtain ⟨b, o, e, hb, hl, c0, c1, c2, c3⟩ := h.cell i hi; exact ⟨b, o, e, by simp; omega, by simp; omega, (World.cell?_alloc_lt w _ _ hl).trans c0, (World.cell?_alloc_lt w _ _ hl).trans c1, (World.cell?_alloc_lt w _ _ hl).trans c2, (World.cell?_alloc_lt w _ _ hl).trans c3⟩, h.wf⟩)
  have hb0 : Blk (w.alloc (.cells #[.slice a n c] 23)) w.heap.size 23 [.slice a n c] := Blk.new w _ [_]
  have HB0 := Lib.hid hb0
  clear hn hc h hb0
  obtain ⟨p, er, hck⟩ : ∃ p er, ckTree t = (p, er) := ⟨_, _, rfl⟩
  rw [hck] at HCK
  simp only at HCK
  by_cases her : er = 0
  · subst her
    obtain rfl : p = 0 := by have := ckTree_two t (by rw [hck]); rw [this] at hck; injection hck with h1 _; exact h1.symm
    obtain ⟨x, k, hf, hfl, hok, hrt, hl0, hl1, hx0⟩ := forest_of hck
    obtain ⟨b, o, ea, hbB, hbl, c0, c1, c2, c3⟩ := HT.out.cell 0 hl0
    have hxt : t[0] = x := by rw [List.getElem?_eq_getElem hl0] at hx0; injection hx0
    rw [hxt] at c0
    have hw0 := HT.out.wf 0 hl0
    rw [hxt] at hw0
    have hop := hw0.2.2.1
    by_cases h1 : x.op = 1
    · have hnI : (0 : Int) < (n : Int) := by have := HN.out; omega
      have g0 : Hid (∀ w9, Below w.heap.size w w9 → w9.cell? ⟨b, o + 0 * 4, none⟩ = some (.int .u8 (x.op : Int))) := Lib.hid (fun w9 hb9 => (hb9.cell hbl).trans c0)
      have q1 : ((x.op : Int) != 1) = false := by simp; omega
      have hmm := @run_makeMap Try.prog
      have hmk := run_make0 n (by have := HN.out; omega)
      have HF := Lib.hid (And.intro hf (And.intro hfl (And.intro hok hrt)))
      have HCK0 := Lib.hid hck
      have HX := Lib.hid hxt
      have HOP := Lib.hid h1
      subst ea
      clear hf hfl hok hrt hx0 c0 c1 c2 c3 hck hxt hw0 h1
      go_enter Try.func9, Try.ntmps9
      go_wp2_with (go_at_call 23; refine HCK.out.mono ?_; rintro e w2 ⟨rfl, hB2⟩; have HB2 := Lib.hid hB2; have cb := (HB0.out.bel hB2).cell 0; have gb := fun o1 o2 o3 => ((((HB0.out.bel hB2).alloc o1).alloc o2).alloc o3).cell 0; have cx := g0.out w2 ((Below.new w _).trans (hB2.mono (by simp))); simp only [List.getElem?_cons_zero, Nat.zero_mul, Nat.add_zero] at cb cx gb; clear hB2)
      have HS := Lib.hid (senv_start HT.out HC.out (by have := HN.out; omega) HB2.out)
      obtain ⟨hf, hfl, hok, hrt⟩ := HF.out
      rw [hf] at hfl hok hrt
      have hst : Stands t 0 (.cons x k .nil) := ⟨by rw [Nat.zero_add, ← Fo.flat_len, hfl]; omega, fun i hi => by rw [Nat.zero_add, hfl]⟩
      have hcall := slw_any (slAt w w2 (some ⟨b, o, none⟩) n c) t (k.size + 1) _ _ x k sl0 (by omega) HS.out.1 hst hok (Fo.named_of _ _ hrt) ⟨rfl, by simp [sl0]⟩
      have hsl : slots t = match go1 x k sl0 with | .error e => .error e | .ok s3 => .ok s3.out := by
        unfold slots
        rw [if_neg (by rw [HCK0.out]; simp), hf]
        simp only
        rw [if_neg (by have := HOP.out; simp [this])]
        show (match goF (.cons x k .nil) sl0 with | .error e => Except.error e | .ok (s, _) => Except.ok s.out) = _
        rw [goF_cons]
        cases hq : go1 x k sl0 with
        | error e => rfl
        | ok s3 =>
          have hmk0 : mkB x = false := by have := HOP.out; simp [mkB, this]
          simp only [goF, bindS, bindN, hmk0]
          rfl
      have HSL := Lib.hid hsl
      clear hf hfl hok hrt hst hsl
      cases hq : go1 x k sl0 with
      | error pe =>
        obtain ⟨p, er⟩ := pe
        rw [hq] at hcall
        have HCALL := Lib.hid hcall
        have HQ := Lib.hid hq
        clear hcall hq
        refine HCALL.out.mono ?_
        rintro e w3 ⟨v3, hT3, hN3, nm, sl, s3, rfl, her, hat, hE3⟩
        have HT3 := Lib.hid hT3
        have HER := Lib.hid her
        have pf3 := hE3.bf.cell 0
        have pn3 := hE3.bn.cell 0
        have herb : ((er : Int) != 0) = true := by simpa using her
        have herI : ¬ (er : Int) = 0 := by omega
        simp only [List.getElem?_cons_zero] at pf3 pn3
        rw [hat] at pn3
        unfold slAt at pf3 pn3
        simp only at pf3 pn3
        clear hT3 hN3 her hat hE3
        go_wp2_with fail
        go_quiet (fail)
        go_wp2_with fail
        go_ret3
        refine ⟨?_, ?_⟩
        · exact below_drewN' (HS.out.2.trans (HT3.out.below HS.out.2.size (fun i _ hs => (HS.out.1.los i hs).1))) _
        · rw [HSL.out, HQ.out]
          exact ⟨HER.out, rfl⟩
      | ok s3 =>
        rw [hq] at hcall
        have HCALL := Lib.hid hcall
        have HQ := Lib.hid hq
        clear hcall hq
        refine HCALL.out.mono ?_
        rintro e w3 ⟨v3, hT3, hN3, rfl, hE3⟩
        have HT3 := Lib.hid hT3
        have HE3 := Lib.hid hE3
        have pf3 := hE3.bf.cell 0
        have po3 := hE3.bo.cell 0
        obtain ⟨A3, c3, rfl⟩ := own_slice' hE3.row
        simp only [List.getElem?_cons_zero] at pf3 po3
        unfold slAt at pf3 po3
        simp only at pf3 po3
        clear hT3 hN3 hE3
        go_wp2_with fail
        go_ret3
        refine ⟨HS.out.2.trans (HT3.out.below HS.out.2.size (fun i _ hs => (HS.out.1.los i hs).1)), ?_⟩
        rw [HSL.out, HQ.out]
        exact ⟨_, rfl, HE3.out.row⟩
    · have q1 : ((x.op : Int) != 1) = true := by simp; omega
      have q1' : ¬ ((x.op : Int) = 1) := by omega
      have hsl : slots t = .error (0, 3) := by
        unfold slots
        rw [if_neg (by rw [hck]; simp), hf]
        simp only
        rw [if_pos h1]
      have hnI : (0 : Int) < (n : Int) := by have := HN.out; omega
      have g0 : Hid (∀ w9, Below w.heap.size w w9 → w9.cell? ⟨b, o + 0 * 4, none⟩ = some (.int .u8 (x.op : Int))) := Lib.hid (fun w9 hb9 => (hb9.cell hbl).trans c0)
      have HSL := Lib.hid hsl
      subst ea
      clear hf hfl hok hrt hx0 c0 c1 c2 c3 hck hxt hw0 h1 hsl
      go_enter Try.func9, Try.ntmps9
      go_wp2_with (go_at_call 23; refine HCK.out.mono ?_; rintro e w2 ⟨rfl, hB2⟩; have HB2 := Lib.hid hB2; have cb := (HB0.out.bel hB2).cell 0; have cx := g0.out w2 ((Below.new w _).trans (hB2.mono (by simp))); simp only [List.getElem?_cons_zero, Nat.zero_mul, Nat.add_zero] at cb cx; clear hB2)
      go_ret3
      refine ⟨(Below.new w _).trans (HB2.out.mono (by simp)), ?_⟩
      rw [HSL.out]
      exact ⟨by decide, rfl⟩
  · have hS : slots t = .error (p, er) := by unfold slots; rw [if_pos (by rw [hck]; simp [her]), hck]
    have HS := Lib.hid hS
    have HER := Lib.hid her
    have herI : ¬ (er : Int) = 0 := by omega
    have herb : ((er : Int) != 0) = true := by simpa using her
    clear hS her hck
    go_enter Try.func9, Try.ntmps9
    go_wp2_with (go_at_call 23; refine HCK.out.mono ?_; rintro e w2 ⟨rfl, hB2⟩; have HB2 := Lib.hid hB2; clear hB2)
    go_ret3
    refine ⟨(Below.new w _).trans (HB2.out.mono (by simp)), ?_⟩
    rw [HS.out]
    exact ⟨HER.out, rfl⟩
end Go.Proofs.Ytmacmejpcpdnnaa
