/- check: tree.Check, whole. -/
import Derived.Test.YtmacmejpcpdnnaaCkWalk
namespace Go.Proofs.Ytmacmejpcpdnnaa
open Go.RowKit
attribute [local go_sem] run_store_fn' run_store_nf'


theorem Blk.new4 (w : World) (o o2 o3 : Obj) (t : TypeId) (cs : List Value) : Blk ((((w.alloc o).alloc o2).alloc o3).alloc (.cells cs.toArray t)) (w.heap.size + 1 + 1 + 1) t cs := by
  have := Blk.new (((w.alloc o).alloc o2).alloc o3) t cs
  simpa only [World.size_alloc] using this
/-- where tree.Check's shared variables lie -/
def ckAt (w wf : World) (a : Option Addr) (n c M : Nat) : Ck := ⟨w.heap.size, a, n, c, w.heap.size, wf.heap.size + 1, wf.heap.size, wf.heap.size + 1 + 1, wf.heap.size + 1 + 1 + 1, M⟩
def ckWorld (wf : World) (K : Ck) : World :=
  (((wf.alloc (.cells #[.map (some K.M)] 62)).alloc (.cells #[.int .i64 (-1)] 3)).alloc (.cells #[.int .i64 (-1)] 3)).alloc (.cells #[.func (.func 33) #[] K.caps] 64)
theorem env_start {w wf : World} {a : Option Addr} {n c M : Nat} {t : List Tw} (hT : Tws w w.heap.size a n t) (hc : n ≤ c ∧ c ≤ maxLen) (hl : n ≤ 2048)
    (hM : Tab wf M (fun op => (formT op).map formV)) (hMs : (w.alloc (.cells #[.slice a n c] 23)).heap.size ≤ M) (hB : Below (w.alloc (.cells #[.slice a n c] 23)).heap.size (w.alloc (.cells #[.slice a n c] 23)) wf) :
    Env (ckWorld wf (ckAt w wf a n c M)) (ckAt w wf a n c M) t (-1) (dI none) ∧ Below w.heap.size w (ckWorld wf (ckAt w wf a n c M)) := by
  have hsz := hB.size
  simp only [World.size_alloc] at hsz hMs
  have hM1 : M < wf.heap.size := by obtain ⟨k, hk⟩ := hM; exact hk.lt
  have b4 : Below wf.heap.size wf (ckWorld wf (ckAt w wf a n c M)) := by
    unfold ckWorld
    exact ((((Below.new wf _).alloc (by simp) _).alloc (by simp; omega) _).alloc (by simp; omega) _)
  have hb0 : Blk (w.alloc (.cells #[.slice a n c] 23)) w.heap.size 23 [.slice a n c] := Blk.new w _ [_]
  have hBw : Below w.heap.size w (ckWorld wf (ckAt w wf a n c M)) := ((Below.new w _).trans (hB.mono (by simp))).trans (b4.mono (by omega))
  refine ⟨⟨(hb0.bel hB).bel b4, ?_, ?_, ?_, ?_, ?_, hT.turns (.of_below (S := fun _ => False) hBw) (fun _ q => q.elim), ?_, ?_, ?_, ?_, ?_, ?_, hc, hl⟩, hBw⟩
  · exact ((Blk.new2 wf _ 3 [.int .i64 (-1)]).alloc _).alloc _
  · exact ((((Blk.new wf 62 [.map (some M)]).alloc _).alloc _).alloc _)
  · exact (Blk.new3 wf _ _ 3 [.int .i64 (-1)]).alloc _
  · exact Blk.new4 wf _ _ _ 64 [.func (.func 33) #[] (ckAt w wf a n c M).caps]
  · obtain ⟨k, hk⟩ := hM; exact ⟨k, hk.below b4⟩
  · intro i hi; unfold Ck.S ckAt at *; simp only at *; omega
  · unfold Ck.S ckAt; simp only; omega
  · unfold Ck.S ckAt; simp only; omega
  · unfold Ck.S ckAt; simp only; omega
  · unfold Ck.S ckAt; simp only; omega
  · unfold ckAt; simp only; omega
theorem check_short (w : World) (a : Option Addr) (n c : Nat) (t : List Tw) (hn : t.length = n) (hl : ¬ 2048 < t.length) (hc : n ≤ c ∧ c ≤ maxLen) (h : Tws w w.heap.size a n t) (p q : Int)
    (hE : ∀ (v wr dp : Int) , (match ckr t 0 1 .any 1 none with | .ok (a, d) => v = (a : Int) ∧ wr = -1 ∧ dp = dI d | .error p => wr = (p : Int)) → (0 ≤ wr → p = wr ∧ q = 3) ∧ (wr < 0 → v < (n : Int) → p = v ∧ q = 3) ∧ (wr < 0 → (n : Int) ≤ v → 0 ≤ dp → p = dp ∧ q = 2) ∧ (wr < 0 → (n : Int) ≤ v → dp < 0 → p = 0 ∧ q = 0)) :
    Calls Try.prog 23 #[.slice a n c] w fun e w' => e = .returned (.tuple #[.int .i64 p, .int .i64 q]) ∧ Below w.heap.size w w' := by
  have hl' : ¬ (2048 : Int) < (n : Int) := by omega
  have HT := Lib.hid h
  have HC := Lib.hid hc
  have HN := Lib.hid hn
  have HL := Lib.hid hl
  have HE := Lib.hid hE
  clear h hn hl hc hE
  go_enter Try.func23, Try.ntmps23
  go_wp2_with (first | (go_at_call 32; refine (forms_any _).mono ?_; rintro e wf ⟨M, rfl, HM, HMs, HB⟩; have HS := Lib.hid (env_start HT.out HC.out (by have := HL.out; have := HN.out; omega) HM HMs HB); clear HM HMs HB) | (go_at_call 33; refine (walk_any (ckAt w wf a n c M) t t.length _ 0 1 _ _ .any none (by omega) (by omega) (by omega) HS.out.1 (MayF.any _ _)).mono ?_; rintro e w2 ⟨HTu, HY⟩; have HTu := Lib.hid HTu; obtain ⟨v, wr, dp, HY1, rfl, HY2⟩ : ∃ v wr dp : Int, (match ckr t 0 1 .any 1 none with | .ok (a, d) => v = (a : Int) ∧ wr = -1 ∧ dp = dI d | .error p => wr = (p : Int)) ∧ e = .returned (.int .i64 v) ∧ Env w2 (ckAt w wf a n c M) t wr dp := (by cases hR : ckr t 0 1 .any 1 none with | error p => (rw [hR] at HY; obtain ⟨v, dp, h1, h2⟩ := HY; exact ⟨v, p, dp, rfl, h1, h2⟩) | ok q => (rw [hR] at HY; exact ⟨q.1, -1, dI q.2, ⟨rfl, rfl, rfl⟩, HY.1, HY.2⟩)); have HQ := Lib.hid (HE.out v wr dp HY1); clear HY HY1; have cw := HY2.bw.cell 0; have cd := HY2.bd.cell 0; have ct := HY2.bt.cell 0; simp only [List.getElem?_cons_zero] at cw cd ct; unfold ckAt at cw cd ct; simp only at cw cd ct; have HY2 := Lib.hid HY2))
  all_goals go_ret2
  all_goals have hb : Below w.heap.size w w2 := HS.out.2.trans (HTu.out.below HS.out.2.size (fun i _ hs => HS.out.1.lo i hs))
  all_goals first
    | (obtain ⟨rfl, rfl⟩ := HQ.out.1 (by omega); exact ⟨rfl, hb⟩)
    | (obtain ⟨rfl, rfl⟩ := HQ.out.2.1 (by omega) (by omega); exact ⟨rfl, hb⟩)
    | (obtain ⟨rfl, rfl⟩ := HQ.out.2.2.1 (by omega) (by omega) (by omega); exact ⟨rfl, hb⟩)
    | (obtain ⟨rfl, rfl⟩ := HQ.out.2.2.2 (by omega) (by omega) (by omega); exact ⟨rfl, hb⟩)
theorem check_any (w : World) (a : Option Addr) (n c : Nat) (t : List Tw) (hc : n ≤ c ∧ c ≤ maxLen) (h : Tws w w.heap.size a n t) :
    Calls Try.prog 23 #[.slice a n c] w fun e w' => e = .returned (.tuple #[.int .i64 ((ckTree t).1 : Int), .int .i64 ((ckTree t).2 : Int)]) ∧ Below w.heap.size w w' := by
  have hn := h.len
  by_cases hl : 2048 < t.length
  · have E : ckTree t = (0, 2) := by unfold ckTree; rw [if_pos hl]
    have hl' : (2048 : Int) < (n : Int) := by omega
    rw [E]
    clear h hn hl E
    go_enter Try.func23, Try.ntmps23
    go_wp2_with fail
    go_ret2
    exact ⟨rfl, Below.new _ _⟩
  · refine check_short w a n c t hn hl hc h _ _ ?_
    intro v wr dp hY
    rw [ckTree_ckr, if_neg hl]
    cases hR : ckr t 0 1 .any 1 none with
    | error p =>
      rw [hR] at hY
      simp only at hY
      subst hY
      simp only
      refine ⟨fun _ => by first | exact ⟨rfl, rfl⟩ | trivial, fun h => by omega, fun h => by omega, fun h => by omega⟩
    | ok q =>
      obtain ⟨e, d⟩ := q
      rw [hR] at hY
      simp only at hY
      obtain ⟨rfl, rfl, rfl⟩ := hY
      simp only
      refine ⟨fun h => by omega, fun _ h => ?_, fun _ h h2 => ?_, fun _ h h2 => ?_⟩
      · rw [if_pos (by omega)]; exact ⟨rfl, rfl⟩
      · rw [if_neg (by omega)]
        cases d with
        | none => simp [dI] at h2
        | some p => exact ⟨rfl, rfl⟩
      · rw [if_neg (by omega)]
        cases d with
        | none => exact ⟨rfl, rfl⟩
        | some p => simp only [dI] at h2; omega
end Go.Proofs.Ytmacmejpcpdnnaa
