/- Words for memory: a slice that reads as a list of bytes. -/
import Derived.Test.YteihedfmmiihiaaGreatRows
import Derived.Test.YteihedfmmiihiaaGreatCodeSpec
import Derived.WalkKit
import Derived.Maps.AppendAt
import Derived.Deep.Draws
import Derived.Lib.Hide
namespace Go.Proofs.YteihedfmmiihiaaGreat
open Go.RowKit

/-- The slice value '.slice A len cap' reads as the bytes l. -/
structure Bs (w : World) (A : Option Addr) (len : Nat) (l : List UInt8) : Prop where
  len : len = l.length
  le : l.length ≤ maxLen
  cell : ∀ (i : Nat) (h : i < l.length), ∃ ad, A = some ad ∧ ad.block < w.heap.size ∧ w.cell? (ad.add i) = some (.int .u8 (l[i].toNat : Int))

theorem add_block (a : Addr) (n : Nat) : (a.add n).block = a.block := by unfold Addr.add; split <;> rfl

theorem Bs.nil (w : World) : Bs w none 0 [] := ⟨rfl, by simp, fun i h => absurd h (by simp)⟩

theorem Bs.kept {w w' : World} {A : Option Addr} {len : Nat} {l : List UInt8} (h : Bs w A len l) (hs : w.heap.size ≤ w'.heap.size)
    (hb : ∀ ad, A = some ad → 0 < l.length → w'.heap[ad.block]? = w.heap[ad.block]?) : Bs w' A len l :=
  ⟨h.len, h.le, fun i hi => by
    obtain ⟨ad, e, hlt, hc⟩ := h.cell i hi
    refine ⟨ad, e, by omega, ?_⟩
    rw [World.cell?_of_block (w := w) (by rw [add_block]; exact hb ad e (by omega))]
    exact hc⟩
theorem Bs.below {w w' : World} {A : Option Addr} {len : Nat} {l : List UInt8} (h : Bs w A len l) (hb : Below w.heap.size w w') : Bs w' A len l :=
  h.kept hb.size fun ad e hl => by
    obtain ⟨ad', e', hlt, _⟩ := h.cell 0 hl
    obtain rfl : ad' = ad := Option.some.inj (e'.symm.trans e)
    exact hb.block _ hlt
theorem Bs.of_own {w : World} {base : Nat} {A : Option Addr} {n cap : Nat} {l : List UInt8} (h : w.ownsRow base 5 1 (.slice A n cap) n (Cd.bytesV l)) (hn : n = l.length) : Bs w A n l := by
  rcases h.2 with ⟨hv, h0⟩ | ⟨g, cap', cur, hv, hb, hg, hnc, hcm, hcs, ht⟩
  · have hl : l = [] := List.eq_nil_of_length_eq_zero (by omega)
    subst hl
    injection hv with h1 h2 h3
    subst h1 h2
    exact ⟨rfl, by simp, fun i hi => absurd hi (by simp)⟩
  · injection hv with h1 h2 h3
    subst h1 h3
    refine ⟨hn, by omega, fun i hi => ⟨⟨g, 0, none⟩, rfl, (Array.getElem?_eq_some_iff.1 hg).1, ?_⟩⟩
    have := h.cells (g := g) rfl i (.int .u8 (l[i].toNat : Int)) (by simp [Cd.bytesV, Cd.byteV, hi])
    exact this

/-- bytes as a string's value -/
def strV (l : List UInt8) : Value := .string ⟨l.toArray⟩

theorem foldl_bytes : ∀ (l : List UInt8) (s : ByteArray), (l.map fun c => (c.toNat : Int)).foldl (fun r n => r.push (UInt8.ofNat n.toNat)) s = ⟨s.data ++ l.toArray⟩ := by
  intro l
  induction l with
  | nil => intro s; cases s; simp
  | cons c l ih =>
    intro s
    simp only [List.map_cons, List.foldl_cons, ih]
    cases s
    simp [ByteArray.push]

/-- string(b): the very bytes -/
theorem run_conv_bs {P : Program} {w : World} {A : Option Addr} {n : Nat} {l : List UInt8} (h : Bs w A n l) (src dst e : TypeId) (hs : P.underlying src = some (.slice e)) (he : P.underlying e = some (.int .u8)) (hd : P.underlying dst = some .string) (cap : Nat) :
    (convert src dst (.slice A n cap)).run P w = .ok (strV l) w := by
  cases A with
  | none =>
    have hl : l = [] := by
      cases l with
      | nil => rfl
      | cons c t => obtain ⟨ad, e, _⟩ := h.cell 0 (by simp); cases e
    subst hl
    exact run_convert_bytes_nil w src e hs he _ _ dst hd
  | some a =>
    have hcell : ∀ j v, ((l.map fun c => (c.toNat : Int)).map (Value.int .u8))[j]? = some v → w.cell? (a.add j) = some v := by
      intro j v hj
      by_cases hlt : j < l.length
      · obtain ⟨ad, e, _, hc⟩ := h.cell j hlt
        obtain rfl : a = ad := Option.some.inj e
        rw [hc]
        simp [List.getElem?_eq_getElem hlt] at hj
        rw [← hj]
      · rw [List.getElem?_eq_none (by simpa using hlt)] at hj; cases hj
    have hl := run_loadCells_list (P := P) w a ((l.map fun c => (c.toNat : Int)).map (Value.int .u8)) hcell
    have hlen : ((l.map fun c => (c.toNat : Int)).map (Value.int .u8)).length = n := by simp [h.len]
    rw [hlen] at hl
    rw [run_convert_bytes_string w src dst e _ n cap hs he hd, run_bytesToString w _ n cap _ hl, foldl_bytes]
    have e0 : ByteArray.empty.data ++ l.toArray = l.toArray := by
      show (#[] : Array UInt8) ++ l.toArray = l.toArray
      simp
    rw [e0]
    rfl

/-- a cut of a slice -/
theorem Bs.cut {w : World} {A A' : Option Addr} {n : Nat} {l : List UInt8} (h : Bs w A n l) (lo hi : Nat) (hlo : lo ≤ hi) (hhi : hi ≤ l.length)
    (hA : ∀ ad, lo < l.length → A = some ad → A' = some (ad.add lo)) : Bs w A' (hi - lo) ((l.drop lo).take (hi - lo)) := by
  refine ⟨by simp; omega, by have := h.le; simp; omega, fun i hi' => ?_⟩
  have hi2 : i < hi - lo ∧ lo + i < l.length := by simp at hi'; omega
  obtain ⟨ad, e, hlt, hc⟩ := h.cell (lo + i) hi2.2
  refine ⟨ad.add lo, hA ad (by omega) e, by rw [add_block]; exact hlt, ?_⟩
  have e2 : (ad.add lo).add i = ad.add (lo + i) := by
    unfold Addr.add
    by_cases h1 : lo = 0 <;> by_cases h2 : i = 0 <;> simp [h1, h2, Nat.add_assoc]
  rw [e2, hc]
  simp
theorem info_u8 : (Tryz.prog.info? 5).map (fun i => (i.zero, i.size, i.bytes)) = some (some (.int .u8 0), 1, 1) := by kernel_rfl
end Go.Proofs.YteihedfmmiihiaaGreat
