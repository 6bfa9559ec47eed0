/- check: the variables that tree.Check's walk shares. -/
import Derived.Test.YtmacmejpcpdnnaaCkForms
import Derived.Test.YtmacmejpcpdnnaaCkMay
import Derived.Test.YtmacmejpcpdnnaaCkFuel
namespace Go.Proofs.Ytmacmejpcpdnnaa
open Go.RowKit

/-- a tree that came in -/
structure Tws (w : World) (B : Nat) (a : Option Addr) (n : Nat) (t : List Tw) : Prop where
  len : t.length = n
  cell : ∀ i (h : i < t.length), ∃ b o, a = some ⟨b, o, none⟩ ∧ b < B ∧ b < w.heap.size ∧ w.cell? ⟨b, o + i * 4, none⟩ = some (.int .u8 t[i].op) ∧ w.cell? ⟨b, o + i * 4 + 1, none⟩ = some (.int .i64 t[i].kids) ∧ w.cell? ⟨b, o + i * 4 + 2, none⟩ = some (.int .i64 t[i].int) ∧ w.cell? ⟨b, o + i * 4 + 3, none⟩ = some (.string t[i].text)
  wf : ∀ i (h : i < t.length), (-9223372036854775808 ≤ t[i].kids ∧ t[i].kids ≤ 9223372036854775807) ∧ (-9223372036854775808 ≤ t[i].int ∧ t[i].int ≤ 9223372036854775807) ∧ t[i].op ≤ 255 ∧ t[i].text.size ≤ maxLen
theorem Tws.turns {S : Nat → Prop} {w w' : World} {B n : Nat} {a : Option Addr} {t : List Tw} (h : Tws w B a n t) (k : Turns S w w') (hs : ∀ i, S i → B ≤ i) : Tws w' B a n t :=
  ⟨h.len, fun i hi => by
    obtain ⟨b, o, e, hb, hl, c0, c1, c2, c3⟩ := h.cell i hi
    have hn : ¬ S b := fun q => by have := hs b q; omega
    exact ⟨b, o, e, hb, Nat.lt_of_lt_of_le hl k.size, (k.cell (p := ⟨b, _, none⟩) hl hn).trans c0, (k.cell (p := ⟨b, _, none⟩) hl hn).trans c1, (k.cell (p := ⟨b, _, none⟩) hl hn).trans c2, (k.cell (p := ⟨b, _, none⟩) hl hn).trans c3⟩, h.wf⟩
/-- where the shared variables lie -/
structure Ck where
  B : Nat
  a : Option Addr
  n : Nat
  c : Nat
  Bt : Nat
  Bw : Nat
  Bm : Nat
  Bd : Nat
  Bk : Nat
  M : Nat
def Ck.S (K : Ck) (i : Nat) : Prop := i = K.Bw ∨ i = K.Bd
def Ck.caps (K : Ck) : Array Value := #[.pointer (some ⟨K.Bt, 0, none⟩), .pointer (some ⟨K.Bw, 0, none⟩), .pointer (some ⟨K.Bm, 0, none⟩), .pointer (some ⟨K.Bd, 0, none⟩), .pointer (some ⟨K.Bk, 0, none⟩)]
structure Env (w : World) (K : Ck) (t : List Tw) (wr dp : Int) : Prop where
  bt : Blk w K.Bt 23 [.slice K.a K.n K.c]
  bw : Blk w K.Bw 3 [.int .i64 wr]
  bm : Blk w K.Bm 62 [.map (some K.M)]
  bd : Blk w K.Bd 3 [.int .i64 dp]
  bk : Blk w K.Bk 64 [.func (.func 33) #[] K.caps]
  tab : Tab w K.M (fun op => (formT op).map formV)
  tw : Tws w K.B K.a K.n t
  lo : ∀ i, K.S i → K.B ≤ i
  nt : ¬ K.S K.Bt
  nm : ¬ K.S K.Bm
  nk : ¬ K.S K.Bk
  nM : ¬ K.S K.M
  nd : K.Bw ≠ K.Bd
  cap : K.n ≤ K.c ∧ K.c ≤ maxLen
  most : K.n ≤ 2048
/-- whatever turned but wrong and deep -/
theorem Env.past {w w' : World} {K : Ck} {t : List Tw} {wr dp : Int} (h : Env w K t wr dp) (hb : Below w.heap.size w w') : Env w' K t wr dp :=
  have k : Turns (fun _ => False) w w' := .of_below hb
  ⟨h.bt.bel hb, h.bw.bel hb, h.bm.bel hb, h.bd.bel hb, h.bk.bel hb, by obtain ⟨n, hn⟩ := h.tab; exact ⟨n, hn.turns k (fun q => q)⟩, h.tw.turns k (fun _ q => q.elim), h.lo, h.nt, h.nm, h.nk, h.nM, h.nd, h.cap, h.most⟩
theorem Env.wrong {w : World} {K : Ck} {t : List Tw} {wr dp : Int} (h : Env w K t wr dp) (v : Int) : Env (w.setCell ⟨K.Bw, 0, none⟩ (.int .i64 v)) K t v dp :=
  have k : Turns K.S w (w.setCell ⟨K.Bw, 0, none⟩ (.int .i64 v)) := .of_set w _ _ (.inl rfl)
  ⟨h.bt.turns k h.nt, h.bw.set 0 _, h.bm.turns k h.nm, h.bd.far (Ne.symm h.nd) _, h.bk.turns k h.nk, by obtain ⟨n, hn⟩ := h.tab; exact ⟨n, hn.turns k h.nM⟩, h.tw.turns k h.lo, h.lo, h.nt, h.nm, h.nk, h.nM, h.nd, h.cap, h.most⟩
theorem Env.deep {w : World} {K : Ck} {t : List Tw} {wr dp : Int} (h : Env w K t wr dp) (v : Int) : Env (w.setCell ⟨K.Bd, 0, none⟩ (.int .i64 v)) K t wr v :=
  have k : Turns K.S w (w.setCell ⟨K.Bd, 0, none⟩ (.int .i64 v)) := .of_set w _ _ (.inr rfl)
  ⟨h.bt.turns k h.nt, h.bw.far h.nd _, h.bm.turns k h.nm, h.bd.set 0 _, h.bk.turns k h.nk, by obtain ⟨n, hn⟩ := h.tab; exact ⟨n, hn.turns k h.nM⟩, h.tw.turns k h.lo, h.lo, h.nt, h.nm, h.nk, h.nM, h.nd, h.cap, h.most⟩
def dI : Option Nat → Int
  | none => -1
  | some p => (p : Int)
/-- what the walk's call for one tree says -/
def WalkY (w : World) (K : Ck) (t : List Tw) (r : Except Nat (Nat × Option Nat)) (e : Ending) (w' : World) : Prop :=
  Turns K.S w w' ∧ match r with
    | .ok (a, d) => e = .returned (.int .i64 (a : Int)) ∧ Env w' K t (-1) (dI d)
    | .error p => ∃ v dp : Int, e = .returned (.int .i64 v) ∧ Env w' K t (p : Int) dp
/-- the tree is over -/
theorem walk_out (w : World) (K : Ck) (t : List Tw) (dp : Int) (at_ level : Nat) (mv : Value) (h : Env w K t (-1) dp) (ho : ¬ at_ < t.length) (hl : at_ ≤ t.length) :
    Calls Try.prog 33 (#[.int .i64 (at_ : Int), .int .i64 (level : Int), mv] ++ K.caps) w (WalkY w K t (.error t.length)) := by
  have hn := h.tw.len
  have hm := h.most
  have cT := h.bt.cell 0
  have cW := h.bw.cell 0
  have fW := h.bw.fz 0
  have HE := Lib.hid h
  clear h
  obtain ⟨B, a, n, c, Bt, Bw, Bm, Bd, Bk, M⟩ := K
  unfold Ck.caps
  simp only [List.getElem?_cons_zero] at cT cW hn hm
  simp only [List.push_toArray, Array.append_singleton, List.append_toArray] at *
  subst hn
  have h1 : (t.length : Int) ≤ (at_ : Int) := by omega
  go_enter Try.func33, Try.ntmps33
  go_wp2_with fail
  go_ret
  exact ⟨.of_set w _ _ (.inl rfl), _, dp, rfl, HE.out.wrong _⟩
end Go.Proofs.Ytmacmejpcpdnnaa
