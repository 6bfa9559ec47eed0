/- check: the variables that the walk of check.Slots shares. -/
import Derived.Test.YtmacmejpcpdnnaaCkEnv
import Derived.Test.YtmacmejpcpdnnaaCkGo
import Derived.Maps.AppendAt
namespace Go.Proofs.Ytmacmejpcpdnnaa
open Go.RowKit

theorem Blk.ne {w : World} {g r : Nat} {t t' : TypeId} {cs cs' : List Value} (h : Blk w g t cs) (k : Blk w r t' cs') (hne : t ≠ t') : g ≠ r := by
  rintro rfl
  unfold Blk at h k
  rw [h] at k
  injection k with k
  injection k with _ k _
  exact hne k
/-- the slice is the same block's, or a new one's -/
def Next (w : World) (v v' : Value) : Prop := v'.ownBlock = v.ownBlock ∨ ∃ g, v'.ownBlock = some g ∧ w.heap.size ≤ g
theorem Next.refl (w : World) (v : Value) : Next w v v := .inl rfl
theorem Next.trans {w w' : World} {v v' v'' : Value} (h : Next w v v') (k : Next w' v' v'') (hw : w.heap.size ≤ w'.heap.size) : Next w v v'' := by
  rcases k with k | ⟨g, k, hg⟩
  · rcases h with h | ⟨g, h, hg⟩
    · exact .inl (k.trans h)
    · exact .inr ⟨g, k.trans h, hg⟩
  · exact .inr ⟨g, k, by omega⟩
def intI (i : Int) : Value := .int .i64 i
/-- where the shared variables lie -/
structure SK where
  B : Nat
  a : Option Addr
  n : Nat
  c : Nat
  Bt : Nat
  Bn : Nat
  Bm : Nat
  Be : Nat
  Bs : Nat
  Bf : Nat
  Bo : Nat
  Bw : Nat
  M : Nat
/-- what may change -/
def SK.S (K : SK) (v : Value) (i : Nat) : Prop := i = K.Bn ∨ i = K.Bm ∨ i = K.Bf ∨ i = K.Bo ∨ i = K.M ∨ v.ownBlock = some i
def SK.ecaps (K : SK) : Array Value := #[.pointer (some ⟨K.Bs, 0, none⟩), .pointer (some ⟨K.Bf, 0, none⟩), .pointer (some ⟨K.Bm, 0, none⟩), .pointer (some ⟨K.Bo, 0, none⟩)]
def SK.wcaps (K : SK) : Array Value := #[.pointer (some ⟨K.Bt, 0, none⟩), .pointer (some ⟨K.Bn, 0, none⟩), .pointer (some ⟨K.Bm, 0, none⟩), .pointer (some ⟨K.Be, 0, none⟩), .pointer (some ⟨K.Bs, 0, none⟩), .pointer (some ⟨K.Bf, 0, none⟩), .pointer (some ⟨K.Bo, 0, none⟩), .pointer (some ⟨K.Bw, 0, none⟩)]
theorem SK.next {w : World} {K : SK} {v v' : Value} (h : Next w v v') {i : Nat} (hi : i < w.heap.size) (hs : K.S v' i) : K.S v i := by
  rcases hs with hs | hs | hs | hs | hs | hs
  · exact .inl hs
  · exact .inr (.inl hs)
  · exact .inr (.inr (.inl hs))
  · exact .inr (.inr (.inr (.inl hs)))
  · exact .inr (.inr (.inr (.inr (.inl hs))))
  · rcases h with h | ⟨g, h, hg⟩
    · exact .inr (.inr (.inr (.inr (.inr (h ▸ hs)))))
    · rw [h] at hs; injection hs with hs; omega
structure SEnv (w : World) (K : SK) (t : List Tw) (v : Value) (s : Sl) (fl : Nat) : Prop where
  bt : Blk w K.Bt 23 [.slice K.a K.n K.c]
  bn : Blk w K.Bn 3 [.int .i64 (s.at_ : Int)]
  bm : Blk w K.Bm 3 [.int .i64 (s.made : Int)]
  be : Blk w K.Be 47 [.func (.func 24) #[] K.ecaps]
  bs : Blk w K.Bs 45 [.map (some K.M)]
  bf : Blk w K.Bf 26 [.int .i64 (fl : Int)]
  bo : Blk w K.Bo 25 [v]
  bw : Blk w K.Bw 48 [.func (.func 25) #[] K.wcaps]
  row : w.ownsRow K.B 3 1 v s.out.length (s.out.map intI)
  map : ∃ k, MapIs kStr w K.M (fun k => (s.seen k).map intI) k
  tw : Tws w K.B K.a K.n t
  nm : K.Bn ≠ K.Bm
  nr : ∀ g, v.ownBlock = some g → g ≠ K.Bn ∧ g ≠ K.Bm
  lo : K.B ≤ K.Bn ∧ K.B ≤ K.Bm ∧ K.B ≤ K.Bf ∧ K.B ≤ K.Bo ∧ K.B ≤ K.M
  cap : K.n ≤ K.c ∧ K.c ≤ maxLen
  most : K.n ≤ 2048
theorem row_lo {w : World} {base n : Nat} {e : TypeId} {size g : Nat} {v : Value} {xs : List Value} (h : w.ownsRow base e size v n xs) (hv : v.ownBlock = some g) : base ≤ g ∧ g < w.heap.size := by
  rcases h.2 with ⟨rfl, _⟩ | ⟨g', cap, cur, rfl, hb, h4, _⟩
  · simp [Value.ownBlock] at hv
  · simp [Value.ownBlock] at hv
    subst hv
    exact ⟨hb, (Array.getElem?_eq_some_iff.1 h4).1⟩
theorem SEnv.los {w : World} {K : SK} {t : List Tw} {v : Value} {s : Sl} {fl : Nat} (h : SEnv w K t v s fl) : ∀ i, K.S v i → K.B ≤ i ∧ i < w.heap.size := by
  obtain ⟨l1, l2, l3, l4, l5⟩ := h.lo
  obtain ⟨k, hk⟩ := h.map
  rintro i (rfl | rfl | rfl | rfl | rfl | hs)
  · exact ⟨l1, h.bn.lt⟩
  · exact ⟨l2, h.bm.lt⟩
  · exact ⟨l3, h.bf.lt⟩
  · exact ⟨l4, h.bo.lt⟩
  · exact ⟨l5, hk.lt⟩
  · exact row_lo h.row hs
/-- a block of another type is none of those that change -/
theorem SEnv.far {w : World} {K : SK} {t : List Tw} {v : Value} {s : Sl} {fl : Nat} (h : SEnv w K t v s fl) {g : Nat} {ty : TypeId} {cs : List Value} (hb : Blk w g ty cs) (h1 : ty ≠ 3) (h2 : ty ≠ 26) (h3 : ty ≠ 25) : ¬ K.S v g := by
  obtain ⟨k, hk⟩ := h.map
  rintro (e | e | e | e | e | e)
  · exact hb.ne h.bn h1 e
  · exact hb.ne h.bm h1 e
  · exact hb.ne h.bf h2 e
  · exact hb.ne h.bo h3 e
  · exact hk.ne_cells hb e.symm
  · exact own_ne_blk h.row e hb (Ne.symm h1) rfl
/-- whatever changed of those that may -/
theorem SEnv.turn {w w' : World} {K : SK} {t : List Tw} {v v' : Value} {s s' : Sl} {fl fl' : Nat} (h : SEnv w K t v s fl) (k : Turns (K.S v) w w')
    (bn : Blk w' K.Bn 3 [.int .i64 (s'.at_ : Int)]) (bm : Blk w' K.Bm 3 [.int .i64 (s'.made : Int)]) (bf : Blk w' K.Bf 26 [.int .i64 (fl' : Int)]) (bo : Blk w' K.Bo 25 [v'])
    (row : w'.ownsRow K.B 3 1 v' s'.out.length (s'.out.map intI)) (map : ∃ k, MapIs kStr w' K.M (fun k => (s'.seen k).map intI) k) (nr : ∀ g, v'.ownBlock = some g → g ≠ K.Bn ∧ g ≠ K.Bm) : SEnv w' K t v' s' fl' :=
  ⟨h.bt.turns k (h.far h.bt (by decide) (by decide) (by decide)), bn, bm, h.be.turns k (h.far h.be (by decide) (by decide) (by decide)), h.bs.turns k (h.far h.bs (by decide) (by decide) (by decide)), bf, bo,
    h.bw.turns k (h.far h.bw (by decide) (by decide) (by decide)), row, map, h.tw.turns k (fun i hi => (h.los i hi).1), h.nm, nr, h.lo, h.cap, h.most⟩
/-- nothing of it changed -/
theorem SEnv.keep {S : Nat → Prop} {w w' : World} {K : SK} {t : List Tw} {v : Value} {s : Sl} {fl : Nat} (h : SEnv w K t v s fl) (k : Turns S w w') (hs : ∀ i, i < w.heap.size → ¬ S i) : SEnv w' K t v s fl := by
  have k' : Turns (K.S v) w w' := k.mono (fun i hi q => (hs i hi q).elim)
  obtain ⟨n, hm⟩ := h.map
  exact h.turn k' (h.bn.turns k (hs _ h.bn.lt)) (h.bm.turns k (hs _ h.bm.lt)) (h.bf.turns k (hs _ h.bf.lt)) (h.bo.turns k (hs _ h.bo.lt))
    (own_turns h.row k (fun g hg => hs g (row_lo h.row hg).2)) ⟨n, hm.turns k (hs _ hm.lt)⟩ h.nr
theorem SEnv.past {w w' : World} {K : SK} {t : List Tw} {v : Value} {s : Sl} {fl : Nat} (h : SEnv w K t v s fl) (hb : Below w.heap.size w w') : SEnv w' K t v s fl :=
  h.keep (S := fun _ => False) (.of_below hb) (fun _ _ q => q)
/-- the box of the next place -/
theorem SEnv.setNext {w : World} {K : SK} {t : List Tw} {v : Value} {s : Sl} {fl : Nat} (h : SEnv w K t v s fl) (p : Nat) : SEnv (w.setCell ⟨K.Bn, 0, none⟩ (.int .i64 (p : Int))) K t v ⟨p, s.made, s.seen, s.out⟩ fl := by
  have k : Turns (fun i => i = K.Bn) w (w.setCell ⟨K.Bn, 0, none⟩ (.int .i64 (p : Int))) := .of_set w _ _ rfl
  obtain ⟨n, hm⟩ := h.map
  exact h.turn (k.mono fun _ _ e => .inl e) (h.bn.set 0 _) (h.bm.far (Ne.symm h.nm) _) (h.bf.turns k (fun e => h.bn.ne h.bf (by decide) e.symm)) (h.bo.turns k (fun e => h.bn.ne h.bo (by decide) e.symm))
    (own_turns h.row k (fun g hg => (h.nr g hg).1)) ⟨n, hm.turns k (hm.ne_cells h.bn)⟩ h.nr
theorem SEnv.setFault {w : World} {K : SK} {t : List Tw} {v : Value} {s : Sl} {fl : Nat} (h : SEnv w K t v s fl) (p : Nat) : SEnv (w.setCell ⟨K.Bf, 0, none⟩ (.int .i64 (p : Int))) K t v s p := by
  have k : Turns (fun i => i = K.Bf) w (w.setCell ⟨K.Bf, 0, none⟩ (.int .i64 (p : Int))) := .of_set w _ _ rfl
  obtain ⟨n, hm⟩ := h.map
  exact h.turn (k.mono fun _ _ e => .inr (.inr (.inl e))) (h.bn.turns k (fun e => h.bn.ne h.bf (by decide) e)) (h.bm.turns k (fun e => h.bm.ne h.bf (by decide) e)) (h.bf.set 0 _) (h.bo.turns k (fun e => h.bf.ne h.bo (by decide) e.symm))
    (own_turns h.row k (fun g hg => own_ne_blk h.row hg h.bf (by decide))) ⟨n, hm.turns k (hm.ne_cells h.bf)⟩ h.nr
theorem SEnv.setMade {w : World} {K : SK} {t : List Tw} {v : Value} {s : Sl} {fl : Nat} (h : SEnv w K t v s fl) (p : Nat) : SEnv (w.setCell ⟨K.Bm, 0, none⟩ (.int .i64 (p : Int))) K t v ⟨s.at_, p, s.seen, s.out⟩ fl := by
  have k : Turns (fun i => i = K.Bm) w (w.setCell ⟨K.Bm, 0, none⟩ (.int .i64 (p : Int))) := .of_set w _ _ rfl
  obtain ⟨n, hm⟩ := h.map
  exact h.turn (k.mono fun _ _ e => .inr (.inl e)) (h.bn.far h.nm _) (h.bm.set 0 _) (h.bf.turns k (fun e => h.bm.ne h.bf (by decide) e.symm)) (h.bo.turns k (fun e => h.bm.ne h.bo (by decide) e.symm))
    (own_turns h.row k (fun g hg => (h.nr g hg).2)) ⟨n, hm.turns k (hm.ne_cells h.bm)⟩ h.nr
/-- one more slot was told -/
theorem SEnv.told {w w1 : World} {K : SK} {t : List Tw} {v v1 : Value} {s : Sl} {fl : Nat} (h : SEnv w K t v s fl) (z : Int) (hown : w1.ownsRow K.B 3 1 v1 (s.out.length + 1) (s.out.map intI ++ [.int .i64 z])) (hg : w.grownBy w1 v.ownBlock) (hat : v1.ownBlock = v.ownBlock ∨ v1.ownBlock = some w.heap.size) :
    SEnv (w1.setCell ⟨K.Bo, 0, none⟩ v1) K t v1 ⟨s.at_, s.made, s.seen, s.out ++ [z]⟩ fl ∧ Turns (K.S v) w (w1.setCell ⟨K.Bo, 0, none⟩ v1) ∧ Next w v v1 := by
  have k0 : Turns (fun i => v.ownBlock = some i) w w1 := .of_grown hg (fun r e => e)
  have hx : Next w v v1 := by
    rcases hat with e | e
    · exact .inl e
    · exact .inr ⟨_, e, Nat.le_refl _⟩
  obtain ⟨n, hm⟩ := h.map
  have bo1 := h.bo.turns k0 (fun e => own_ne_blk h.row e h.bo (by decide) rfl)
  have k1 : Turns (fun i => i = K.Bo) w1 (w1.setCell ⟨K.Bo, 0, none⟩ v1) := .of_set w1 _ _ rfl
  have hm1 := hm.turns k0 (fun e => own_ne_map h.row e hm rfl)
  have bn1 := h.bn.turns k0 (fun e => (h.nr _ e).1 rfl)
  have bm1 := h.bm.turns k0 (fun e => (h.nr _ e).2 rfl)
  have bf1 := h.bf.turns k0 (fun e => own_ne_blk h.row e h.bf (by decide) rfl)
  have k2 : Turns (K.S v) w (w1.setCell ⟨K.Bo, 0, none⟩ v1) := (k0.mono (fun i _ e => .inr (.inr (.inr (.inr (.inr e)))))).trans k1 (fun i _ e => .inr (.inr (.inr (.inl e))))
  have nr1 : ∀ g, v1.ownBlock = some g → g ≠ K.Bn ∧ g ≠ K.Bm := by
    intro g hg
    rcases hat with e | e
    · exact h.nr g (e ▸ hg)
    · rw [e] at hg; injection hg with hg; have := h.bn.lt; have := h.bm.lt; omega
  refine ⟨h.turn k2 (bn1.turns k1 (fun e => bn1.ne bo1 (by decide) e)) (bm1.turns k1 (fun e => bm1.ne bo1 (by decide) e)) (bf1.turns k1 (fun e => bf1.ne bo1 (by decide) e)) (bo1.set 0 _) ?_ ⟨n, hm1.turns k1 (hm1.ne_cells bo1)⟩ nr1, k2, hx⟩
  have := own_turns hown k1 (fun g hg => own_ne_blk hown hg bo1 (by decide))
  simpa [intI] using this
/-- the map changed -/
theorem SEnv.mapped {w w1 : World} {K : SK} {t : List Tw} {v : Value} {s : Sl} {fl : Nat} (h : SEnv w K t v s fl) (m : Seen) {n : Nat} (hm : MapIs kStr w1 K.M (fun k => (m k).map intI) n) (k : MapTurn w w1 K.M) :
    SEnv w1 K t v ⟨s.at_, s.made, m, s.out⟩ fl ∧ Turns (K.S v) w w1 := by
  have k0 : Turns (fun i => i = K.M) w w1 := .of_map k rfl
  obtain ⟨n', hm'⟩ := h.map
  have k2 : Turns (K.S v) w w1 := k0.mono (fun i _ e => .inr (.inr (.inr (.inr (.inl e)))))
  exact ⟨h.turn k2 (h.bn.turns k0 (fun e => hm'.ne_cells h.bn e.symm)) (h.bm.turns k0 (fun e => hm'.ne_cells h.bm e.symm)) (h.bf.turns k0 (fun e => hm'.ne_cells h.bf e.symm)) (h.bo.turns k0 (fun e => hm'.ne_cells h.bo e.symm))
    (own_turns h.row k0 (fun g hg => own_ne_map h.row hg hm')) ⟨n, hm⟩ h.nr, k2⟩
end Go.Proofs.Ytmacmejpcpdnnaa
