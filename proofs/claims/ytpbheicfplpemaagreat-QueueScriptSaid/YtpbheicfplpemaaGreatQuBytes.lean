/- queue: Bytes. -/
import Derived.Test.YtpbheicfplpemaaGreatQuBuf
import Derived.Test.YtpbheicfplpemaaGreatQuSorted
import Derived.Deep.OwnRows
import Derived.Deep.LoopGhost
namespace Go.Proofs.YtpbheicfplpemaaGreat
open Go.RowKit

def tkB (t : Tk) : List UInt8 := Cd.textB t.key.data.toList ++ Cd.textB t.sticky.data.toList ++ Cd.uB (Cd.zig t.ready) ++ Cd.uB t.att.toNat
def otB (x : Ot) : List UInt8 := Cd.textB x.tk.key.data.toList ++ Cd.uB x.token.toNat ++ Cd.textB x.worker.data.toList ++ Cd.uB (Cd.zig x.until_) ++ Cd.uB x.tk.att.toNat
def qB (most grace next : Int) (ts : List Tk) (zs : List Ot) : List UInt8 :=
  Cd.uB most.toNat ++ Cd.uB (Cd.zig grace) ++ Cd.uB next.toNat ++ Cd.uB ts.length ++ ts.flatMap tkB ++ Cd.uB zs.length ++ zs.flatMap otB
/-- what fits into bytes -/
structure TkF (t : Tk) : Prop where
  key : t.key.size ≤ 20000
  st : t.sticky.size ≤ 20000
  rd : tkRdy t
  at_ : 0 ≤ t.att ∧ t.att ≤ 4611686018427387904
structure OtF (x : Ot) : Prop where
  key : x.tk.key.size ≤ 20000
  tok : OtOk x
  who : x.worker.size ≤ 20000
  un : -9223372036854775808 ≤ x.until_ ∧ x.until_ ≤ 9223372036854775807
  at_ : 0 ≤ x.tk.att ∧ x.tk.att ≤ 4611686018427387904
theorem uB_int {n : Int} (h : 0 ≤ n ∧ n ≤ 4611686018427387904) : (Cd.uB n.toNat).length ≤ 10 := Cd.uB_len10 (by omega)
theorem zig_len {n : Int} (h : -9223372036854775808 ≤ n ∧ n ≤ 9223372036854775807) : (Cd.uB (Cd.zig n)).length ≤ 10 := Cd.uB_len10 (zig_lt n h.1 h.2)
theorem textB_20 (n : ByteArray) (hn : n.size ≤ 20000) : (Cd.textB n.data.toList).length ≤ 20010 := by
  unfold Cd.textB
  have e : n.data.toList.length = n.size := rfl
  rw [List.length_append, e]
  have := Cd.uB_len10 (n := n.size) (by omega)
  omega
theorem tkB_len {t : Tk} (h : TkF t) : (tkB t).length ≤ 50000 := by
  unfold tkB
  simp only [List.length_append]
  have := textB_20 _ h.key
  have := textB_20 _ h.st
  have := zig_len h.rd
  have := uB_int h.at_
  omega
theorem otB_len {x : Ot} (h : OtF x) : (otB x).length ≤ 50000 := by
  unfold otB
  simp only [List.length_append]
  have := textB_20 _ h.key
  have := textB_20 _ h.who
  have := zig_len h.un
  have := uB_int h.at_
  have := uB_int (n := x.token) (by have := h.tok; unfold OtOk at this; omega)
  omega
theorem flat_le {α : Type} (f : α → List UInt8) (c : Nat) : ∀ xs : List α, (∀ x ∈ xs, (f x).length ≤ c) → (xs.flatMap f).length ≤ xs.length * c
  | [], _ => by simp
  | x :: xs, h => by
    have h1 := flat_le f c xs (fun y hy => h y (List.mem_cons_of_mem _ hy))
    have h2 := h x List.mem_cons_self
    rw [List.flatMap_cons, List.length_append, List.length_cons, Nat.add_mul]
    omega
/-- what is no bytes has not turned -/
def Oth (W W' : World) : Prop := ∀ (g : Nat) (cs : Array Value) (t : TypeId) (fr : Nat × Nat), W.heap[g]? = some (.cells cs t fr) → t ≠ 5 → t ≠ 22 → W'.heap[g]? = W.heap[g]?
theorem Oth.row {W W' : World} (h : Oth W W') {base n : Nat} {e : TypeId} {size : Nat} {v : Value} {xs : List Value} (hr : W.ownsRow base e size v n xs) (h1 : e ≠ 5) (h2 : e ≠ 22) : W'.ownsRow base e size v n xs := by
  refine ⟨hr.1, ?_⟩
  rcases hr.2 with hn | ⟨g, cap, cur, hv, hbg, hb, rest⟩
  · exact .inl hn
  · exact .inr ⟨g, cap, cur, hv, hbg, (h g cur e _ hb h1 h2).trans hb, rest⟩
theorem Oth.blk {W W' : World} (h : Oth W W') {g : Nat} {t : TypeId} {cs : List Value} (hb : Blk W g t cs) (h1 : t ≠ 5) (h2 : t ≠ 22) : Blk W' g t cs := (h g _ t _ hb h1 h2).trans hb
theorem oth_of {W W' : World} {base b : Nat} {v : Value} {l : List UInt8} (hB : Buf base W b v l) (k : Turns (BufSet b v) W W') : Oth W W' := fun g cs t fr hg h1 h2 => by
  refine k.block g (Array.getElem?_eq_some_iff.1 hg).1 ?_
  rintro (e | e)
  · subst e
    have := hB.blk
    unfold Blk at this
    rw [hg] at this
    injection this with this
    injection this with _ e _
    exact h2 e
  · rcases hB.row.2 with ⟨rfl, _⟩ | ⟨g', cap, cur, rfl, _, h4, _⟩
    · simp [Value.ownBlock] at e
    · simp [Value.ownBlock] at e
      subst e
      rw [hg] at h4
      injection h4 with h4
      injection h4 with _ e _
      exact h1 e
/-- under way: the bytes so far -/
structure BS (w W : World) (l : List UInt8) : Prop where
  bel : Below w.heap.size w W
  buf : ∃ v, Buf w.heap.size W w.heap.size v l
theorem BS.belw {w W W' : World} {l : List UInt8} (h : BS w W l) (hb : Below W.heap.size W W') : BS w W' l := by
  obtain ⟨v, hv⟩ := h.buf
  exact ⟨h.bel.trans (hb.mono h.bel.size), v, hv.bel hb⟩
theorem BS.of {w W W' : World} {v v' : Value} {l l' : List UInt8} (h : BS w W l) (hv : Buf w.heap.size W w.heap.size v l) (h' : Buf w.heap.size W' w.heap.size v' l') (t : Turns (BufSet w.heap.size v) W W') : BS w W' l' :=
  ⟨h.bel.trans (t.below h.bel.size fun i _ e => by
    rcases e with e | e
    · exact Nat.le_of_eq e.symm
    · exact (own_lt hv.row e).1), v', h'⟩
theorem bnum (w W : World) (l : List UInt8) (h : BS w W l) (n : Nat) (hn : n < 9223372036854775808) (hl : l.length ≤ 100000000000) :
    Calls Tryz.prog 73 #[.int .i64 (n : Int), .pointer (some ⟨w.heap.size, 0, none⟩)] W fun e W' => e = .returned (.tuple #[]) ∧ BS w W' (l ++ Cd.uB n) ∧ Oth W W' := by
  obtain ⟨v, hv⟩ := h.buf
  refine (num1 w.heap.size W w.heap.size v l hv n hn hl).mono ?_
  rintro e W' ⟨rfl, v', h', t, _⟩
  exact ⟨rfl, h.of hv h' t, oth_of hv t⟩
theorem bwhen (w W : World) (l : List UInt8) (h : BS w W l) (n : Int) (hn : -9223372036854775808 ≤ n ∧ n ≤ 9223372036854775807) (hl : l.length ≤ 100000000000) :
    Calls Tryz.prog 75 #[.int .i64 n, .pointer (some ⟨w.heap.size, 0, none⟩)] W fun e W' => e = .returned (.tuple #[]) ∧ BS w W' (l ++ Cd.uB (Cd.zig n)) ∧ Oth W W' := by
  obtain ⟨v, hv⟩ := h.buf
  refine (when1 w.heap.size W w.heap.size v l hv n hn.1 hn.2 hl).mono ?_
  rintro e W' ⟨rfl, v', h', t, _⟩
  exact ⟨rfl, h.of hv h' t, oth_of hv t⟩
theorem btext (w W : World) (l : List UInt8) (h : BS w W l) (n : ByteArray) (hn : n.size ≤ 20000) (hl : l.length ≤ 100000000000) :
    Calls Tryz.prog 77 #[.string n, .pointer (some ⟨w.heap.size, 0, none⟩)] W fun e W' => e = .returned (.tuple #[]) ∧ BS w W' (l ++ Cd.textB n.data.toList) ∧ Oth W W' := by
  obtain ⟨v, hv⟩ := h.buf
  refine (text1 w.heap.size W w.heap.size v l hv n (by omega) hl).mono ?_
  rintro e W' ⟨rfl, v', h', t, _⟩
  exact ⟨rfl, h.of hv h' t, oth_of hv t⟩
theorem map_eq {om : Int → Option Ot} {zs : List Ot} {w : World} {O N : Nat} (hm : MapIs kInt w O (oV om) N) (h : OutsS om zs) : N = zs.length := by
  refine Nat.le_antisymm (map_len hm h) ?_
  obtain ⟨es, clock, hb, S, hn, hk, hm⟩ := hm
  have hnd : (zs.map (·.token)).Nodup := List.Pairwise.map _ (fun a b (hab : a.token < b.token) => by omega) h.ris
  have := nodup_sub_len (zs.map (·.token)) (es.toList.map fun x => match x.key with | .int _ i => i | _ => 0) hnd (fun t ht => by
    obtain ⟨x, hx, rfl⟩ := List.mem_map.1 ht
    obtain ⟨i, y, hy, hyk, _⟩ := (hm x.token (otV x)).1 (by unfold oV; rw [(h.mem x.token x).2 ⟨hx, rfl⟩]; rfl)
    refine List.mem_map.2 ⟨y, Array.mem_toList_iff.2 (Array.mem_of_getElem? hy), ?_⟩
    rw [hyk]
    rfl)
  simp only [List.length_map, Array.length_toList] at this
  omega
end Go.Proofs.YtpbheicfplpemaaGreat
