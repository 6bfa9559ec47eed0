/- QueueOnce: the law's memory; what a refused call leaves. -/
import Derived.Test.YtpbheicfplpemaaQuOnceP
import Derived.Test.YtpbheicfplpemaaQuNone
namespace Go.Proofs.Ytpbheicfplpemaa
open Go.RowKit

structure OM (w wr : World) (q : Nat) (most grace next : Int) (wv : Value) (ts : List Tk) (O T : Nat) (om : Int → Option Ot) (tm : ByteArray → Option Int) (K nk : Nat) (kf : ByteArray → Option Int) (hv : Value) (zs : List Ot) : Prop where
  a : OA w wr q most grace next wv ts O T om tm
  keys : MapIs kStr wr K (sV kf) nk
  hold : wr.ownsRow w.heap.size 53 2 hv zs.length ((zs.map hdo).flatMap hdC)
  far : ∀ g, hv.ownBlock = some g → ¬ QSet q wv O T g
  kfar : ¬ QSet q wv O T K
  klo : w.heap.size ≤ K
section
variable {w wr w' : World} {q : Nat} {most grace next next' : Int} {wv wv' : Value} {ts ts' : List Tk} {O T : Nat} {om om' : Int → Option Ot} {tm tm' : ByteArray → Option Int} {K nk nk' : Nat} {kf kf' : ByteArray → Option Int} {hv hv' : Value} {zs zs' : List Ot}
theorem NextR.far {g : Nat} (nx : NextR wr wv wv') (hg : g < wr.heap.size) (h : ¬ QSet q wv O T g) : ¬ QSet q wv' O T g := by
  rintro (e | e | e | e)
  · exact h (.inl e)
  · exact h (.inr (.inl e))
  · exact h (.inr (.inr (.inl e)))
  · rcases nx g e with e | e
    · exact h (.inr (.inr (.inr e)))
    · omega
theorem OM.move (h : OM w wr q most grace next wv ts O T om tm K nk kf hv zs) (s : QS w' q most grace next' wv' ts' O T om' tm') (nx : NextR wr wv wv') (t : Turns (QSet q wv O T) wr w') : OM w w' q most grace next' wv' ts' O T om' tm' K nk kf hv zs where
  a := h.a.move s nx t
  keys := h.keys.turns t h.kfar
  hold := own_turns h.hold t h.far
  far g hg := nx.far (own_lt h.hold hg).2 (h.far g hg)
  kfar := nx.far h.keys.lt h.kfar
  klo := h.klo
theorem OM.bel (h : OM w wr q most grace next wv ts O T om tm K nk kf hv zs) (hb : Below wr.heap.size wr w') : OM w w' q most grace next wv ts O T om tm K nk kf hv zs :=
  ⟨⟨h.a.st.bel hb, h.a.lo, h.a.bel.trans (hb.mono h.a.bel.size)⟩, h.keys.below hb, own_turns h.hold (.of_below (S := fun _ => False) hb) (fun _ _ => id), h.far, h.kfar, h.klo⟩
theorem OM.upd (h : OM w wr q most grace next wv ts O T om tm K nk kf hv zs) (hm : MapIs kStr w' K (sV kf') nk') (ht : MapTurn wr w' K) : OM w w' q most grace next wv ts O T om tm K nk' kf' hv zs where
  a := ⟨h.a.st.keep (.of_map (S := fun i => i = K) ht rfl) (fun i hi e => h.kfar (by have e2 : i = K := e; rw [← e2]; exact hi)), h.a.lo, h.a.bel.trans ((Turns.of_map (S := fun i => i = K) ht rfl).below h.a.bel.size fun i _ e => by have e2 : i = K := e; have := h.klo; omega)⟩
  keys := hm
  hold := own_turns h.hold (.of_map (S := fun i => i = K) ht rfl) (fun g hg e => own_ne_map h.hold hg h.keys e)
  far := h.far
  kfar := h.kfar
  klo := h.klo
theorem OM.held (h : OM w wr q most grace next wv ts O T om tm K nk kf hv zs) (k : Turns (fun i => hv.ownBlock = some i) wr w') (hown : w'.ownsRow w.heap.size 53 2 hv' zs'.length ((zs'.map hdo).flatMap hdC)) (hat : ∀ g, hv'.ownBlock = some g → hv.ownBlock = some g ∨ wr.heap.size ≤ g) : OM w w' q most grace next wv ts O T om tm K nk kf hv' zs' where
  a := ⟨h.a.st.keep k (fun i hi e => h.far i e hi), h.a.lo, h.a.bel.trans (k.below h.a.bel.size fun i _ e => (own_lt h.hold e).1)⟩
  keys := h.keys.turns k (fun e => own_ne_map h.hold e h.keys rfl)
  hold := hown
  far g hg := by
    rcases hat g hg with e | e
    · exact h.far g e
    · intro hq; have := h.a.st.lts g hq; omega
  kfar := h.kfar
  klo := h.klo
theorem OM.stand (h : OM w wr q most grace next wv ts O T om tm K nk kf hv zs) {i : Nat} (hz : OutsS om zs) (ho : ∀ x ∈ zs, OtOk x) (hon : ON i ts zs tm kf) (hi : i ≤ 80) :
    Calls Try.prog 22 #[.pointer (some ⟨q, 0, none⟩), .map (some K), hv] wr fun e w' => e = .returned (.bool true) ∧ Below wr.heap.size wr w' :=
  stand_any wr q most grace next wv ts O T om tm h.a.st zs hz ho K nk w.heap.size kf h.keys hv h.hold i hon hi
theorem OM.upd' {key : ByteArray} {x : Int} (h : OM w wr q most grace next wv ts O T om tm K nk kf hv zs) (hm : MapIs kStr w' K (fun k' => if k' = key then some (Value.int .i64 x) else sV kf k') nk') (ht : MapTurn wr w' K) : OM w w' q most grace next wv ts O T om tm K nk' (updS kf key x) hv zs := by
  rw [sV_upd] at hm
  exact h.upd hm ht
end
set_option maxRecDepth 20000 in
theorem newB (w : World) (most grace : Int) (h : most < 1 ∨ ¬ most < 1 ∧ 4096 < most ∨ (¬ most < 1 ∧ ¬ 4096 < most) ∧ grace < 0) : Calls Try.prog 9 #[.int .i64 most, .int .i64 grace] w fun e w' => e = .returned (.tuple #[.pointer none, .int .i64 1]) ∧ w' = w := by
  rcases h with h1 | ⟨h1, h2⟩ | ⟨⟨h1, h2⟩, h3⟩
  all_goals
    go_enter Try.func9, Try.ntmps9
    go_wp2_with fail
    go_ret2
    exact ⟨rfl, rfl⟩
set_option maxRecDepth 20000 in
set_option maxHeartbeats 4000000 in
theorem putF (w : World) (q : Nat) (most grace next : Int) (wv : Value) (ts : List Tk) (O T : Nat) (om : Int → Option Ot) (tm : ByteArray → Option Int) (h : QS w q most grace next wv ts O T om tm) (key sticky : ByteArray) (ready : Int) (hn : tm key = none) (hm : ¬ (ts.length : Int) < most) :
    Calls Try.prog 10 #[.pointer (some ⟨q, 0, none⟩), .string key, .string sticky, .int .i64 ready] w fun e w' => e = .returned (.int .i64 7) ∧ Below w.heap.size w w' := by
  obtain ⟨A0, c0, rfl⟩ := own_slice' h.row
  obtain ⟨q0, _, q2, q3, _, q5⟩ := h.cells
  have HM := Lib.hid (made1 w q next h.pos q2)
  obtain ⟨nT, hT⟩ := h.there
  have hlk : (Instr.lookup 47 (.map (some T)) (.string key) true).run Try.prog w = .ok (.tuple #[.int .i64 0, .bool false]) w := by
    have := MapIs.lookup (t := 47) (e := 3) hT (str_keys Try.underlying9) Try.underlying47 (zeroIntE _) key true
    unfold sV at this
    rw [hn] at this
    exact this
  have hge : decide (most ≤ (ts.length : Int)) = true := decide_eq_true (by omega)
  clear h hT hn
  go_enter Try.func10, Try.ntmps10
  go_wp2_with (go_at_call 28; refine HM.out.mono ?_; rintro e w' ⟨rfl, rfl⟩)
  go_quiet (fail)
  have hB := below_drewN' (Below.refl w'.heap.size w') nq
  go_wp2_with fail
  go_ret
  exact ⟨rfl, hB⟩
set_option maxRecDepth 20000 in
theorem pollA (w : World) (q : Nat) (most grace next : Int) (wv : Value) (ts : List Tk) (O T : Nat) (om : Int → Option Ot) (tm : ByteArray → Option Int) (h : QS w q most grace next wv ts O T om tm) (who : ByteArray) (now lease : Int) (hl : lease < 1) :
    Calls Try.prog 12 #[.pointer (some ⟨q, 0, none⟩), .string who, .int .i64 now, .int .i64 lease] w fun e w' => e = .returned (.tuple #[.string ⟨#[]⟩, .int .i64 0, .int .i64 0, .int .i64 1]) ∧ Below w.heap.size w w' := by
  obtain ⟨_, _, c2, _, _, _⟩ := h.cells
  have hb := Below.new3 w (.cells #[.pointer (some ⟨q, 0, none⟩)] 24) (.cells #[.string who] 9) (.cells #[.int .i64 now] 2)
  obtain ⟨_, _, c2, _, _, _⟩ := (h.bel hb).cells
  have hM := Lib.hid (made1 _ q next h.pos c2)
  have HB := Lib.hid hb
  have hq1 : decide (lease < 1) = true := decide_eq_true hl
  clear h hb
  go_enter Try.func12, Try.ntmps12
  go_wp2_with (go_at_call 28; refine hM.out.mono ?_; rintro e w' ⟨rfl, rfl⟩)
  refine bodyPost_ret (results_tmp4 rfl _ _ _) rfl ?_
  exact ⟨rfl, HB.out⟩
end Go.Proofs.Ytpbheicfplpemaa
