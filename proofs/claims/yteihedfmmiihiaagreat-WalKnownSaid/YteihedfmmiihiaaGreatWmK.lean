/- WmK: texts of wal, merged (a claim may hold few texts) -/
import Derived.Test.YteihedfmmiihiaaGreatRows
import Derived.Deep.Slices
import Derived.Deep.Fields
import Derived.ChangeSame
import Derived.Test.YteihedfmmiihiaaGreatWmC
import Derived.Test.YteihedfmmiihiaaGreatWmI
import Derived.OpenShut
namespace Go.Proofs.YteihedfmmiihiaaGreat
open Go.ChangeShapes Go.WideShapes Go.Deep

section
variable {H : Type} {enc : TypeId × Value → H} {P : Program} {w : World} {base : Nat} {spare : Nat → Bool} {held : Bool}
theorem open_rows {t e : TypeId} {fs : Array Field} {fuel : Nat} {cs : List Value} {x : DataW H × List MemPlace} (ht : P.underlying t = some (.slice e)) (he : P.underlying e = some (.struct fs))
    (hone : oneCellFields P fs = true) (hC : P.cellsOf e = fs.size) (h : DataW.trod enc P w base spare held fuel t cs = some x) :
    cs = [.slice none 0 0] ∨
    ∃ (a : Addr) (len cap : Nat), cs = [.slice (some a) len cap] ∧ len ≤ cap ∧ cap ≤ maxLen ∧
      ∀ i, i < len → ∀ (j : Nat) (f : Field), fs[j]? = some f → ∃ (v : Value) (y : DataW H × List MemPlace) (n : Nat), w.cell? (a.add (i * fs.size + j)) = some v ∧ DataW.trod enc P w base spare held n f.type [v] = some y := by
  rcases open_slice ht h with h0 | ⟨a, len, cap, m, n, D, Pl, hcs, hb, hl, hm, hmm, hx, hi⟩
  · exact .inl h0.1
  · refine .inr ⟨a, len, cap, hcs, hl, hm, fun i hil => ?_⟩
    have him : i < m := by rw [hmm]; split <;> omega
    obtain ⟨cs', hc, ht'⟩ := hi i him
    rw [hC] at hc
    obtain ⟨ys, n', hn', hy, hlen, hyl, hf⟩ := DataW.trod_struct he ht'
    obtain ⟨_, hcl, hat⟩ := World.cells?_some hc
    intro j f hj
    obtain ⟨ho, hk⟩ := hone_of hone j f hj
    have hjl : j < fs.size := (Array.getElem?_eq_some_iff.1 hj).1
    have hcell := hat j hjl
    have hv : cs'[j]? = some (cs'[j]'(by omega)) := List.getElem?_eq_getElem (by omega)
    have h1 := hf j f hj
    rw [ho, hk] at h1
    have hone' : (cs'.drop j).take 1 = [cs'[j]'(by omega)] := by
      rw [List.drop_eq_getElem_cons (by omega)]
      rfl
    rw [hone'] at h1
    have hys : ys[j]? = some (ys[j]'(by omega)) := List.getElem?_eq_getElem (by omega)
    refine ⟨_, _, n', ?_, h1.trans hys⟩
    rw [← Go.Deep.add_add, hcell, hv]
end
theorem spot_none {w : World} {a : Addr} {v : Value} (h : w.cell? (a.add 0) = some v) : a.spot = none := by
  have e : a.add 0 = a := by simp [Addr.add]
  rw [e] at h
  unfold World.cell? at h
  split at h
  · split at h
    · cases h
    · rename_i hs
      cases hsp : a.spot with
      | none => rfl
      | some s => rw [hsp] at hs; simp at hs
  · cases h
theorem add_at {a : Addr} (h : a.spot = none) (n : Nat) : a.add n = ⟨a.block, a.off + n, none⟩ := by
  obtain ⟨b, o, s⟩ := a
  subst h
  unfold Addr.add
  split
  · subst_vars; rfl
  · rfl
end Go.Proofs.YteihedfmmiihiaaGreat

namespace Go.Proofs.YteihedfmmiihiaaGreat
open Go.RowKit Go.Maps Go.Sort Go.Shelf

/-- a deed -/
structure Dee where
  d : Int
  term : Int
  data : ByteArray
  num : Int
  kA : Option Addr
  kn : Nat
  kc : Nat
  z : Nat → Int
instance dee_inhabited : Inhabited Dee := ⟨⟨0, 0, ⟨#[]⟩, 0, none, 0, 0, fun _ => 0⟩⟩
def Dee.dd (s : Dee) : Dd := ⟨s.d.toNat, s.term, s.data, s.num⟩
def Dee.v (s : Dee) : Value := .agg #[.int .u8 s.d, .int .i64 s.term, .string s.data, .int .i64 s.num, .slice s.kA s.kn s.kc]
structure Dee.Ok (s : Dee) : Prop where
  d : 0 ≤ s.d ∧ s.d ≤ 255
  term : -9223372036854775808 ≤ s.term ∧ s.term ≤ 9223372036854775807
  num : -9223372036854775808 ≤ s.num ∧ s.num ≤ 9223372036854775807
/-- the numbers that a crash keeps, in memory -/
def KeepIn (w : World) (H : Nat) (A : Option Addr) (n c : Nat) (z : Nat → Int) : Prop := KeepR w A n z ∧ n ≤ c ∧ c ≤ maxLen ∧ ∀ b o, A = some (⟨b, o, none⟩ : Addr) → 0 < n → b < H
/-- the deeds that came in -/
structure Dees (w : World) (H : Nat) (a : Option Addr) (n : Nat) (S : Nat → Dee) : Prop where
  cell : ∀ i, i < n → ∃ b o, a = some (⟨b, o, none⟩ : Addr) ∧ b < H ∧ b < w.heap.size ∧ w.cell? ⟨b, o + i * 5, none⟩ = some (.int .u8 (S i).d) ∧ w.cell? ⟨b, o + i * 5 + 1, none⟩ = some (.int .i64 (S i).term) ∧ w.cell? ⟨b, o + i * 5 + 2, none⟩ = some (.string (S i).data) ∧ w.cell? ⟨b, o + i * 5 + 3, none⟩ = some (.int .i64 (S i).num) ∧ w.cell? ⟨b, o + i * 5 + 4, none⟩ = some (.slice (S i).kA (S i).kn (S i).kc)
  keep : ∀ i, i < n → KeepIn w H (S i).kA (S i).kn (S i).kc (S i).z
  num : ∀ i, i < n → (S i).Ok
  len : n ≤ maxLen
theorem KeepIn.keep {w w' : World} {H : Nat} {A : Option Addr} {n c : Nat} {z : Nat → Int} {T : Nat → Prop} (h : KeepIn w H A n c z) (k : Turns T w w') (hT : ∀ g, T g → H ≤ g) : KeepIn w' H A n c z :=
  ⟨h.1.turns k (fun b o e h0 t => by have h1 := h.2.2.2 b o e h0; have h2 := hT b t; omega), h.2⟩
theorem Dees.keep' {w w' : World} {H : Nat} {a : Option Addr} {n : Nat} {S : Nat → Dee} {T : Nat → Prop} (h : Dees w H a n S) (k : Turns T w w') (hT : ∀ g, T g → H ≤ g) : Dees w' H a n S :=
  ⟨fun i hi => by
    obtain ⟨b, o, e, hb, hw, c0, c1, c2, c3, c4⟩ := h.cell i hi
    have hc : ∀ j, w'.cell? ⟨b, j, none⟩ = w.cell? ⟨b, j, none⟩ := fun j => k.cell (p := ⟨b, j, none⟩) hw (fun t => by have h2 := hT b t; omega)
    exact ⟨b, o, e, hb, Nat.lt_of_lt_of_le hw k.size, (hc _).trans c0, (hc _).trans c1, (hc _).trans c2, (hc _).trans c3, (hc _).trans c4⟩,
   fun i hi => (h.keep i hi).keep k hT, h.num, h.len⟩
def LongY (w : World) (n : Nat) (S : Nat → Dee) (e : Ending) (w' : World) : Prop :=
  ∃ b : Bool, e = .returned (.bool b) ∧ (b = false → n ≤ 60 ∧ ∀ i, i < n → (S i).data.size ≤ 3000) ∧ w' = w
set_option maxRecDepth 20000 in
set_option maxHeartbeats 1600000 in
theorem long_any (w : World) (H : Nat) (a : Option Addr) (n c : Nat) (S : Nat → Dee) (h : Dees w H a n S) : Calls Tryz.prog 21 #[.slice a n c] w (LongY w n S) := by
  have HS := Lib.hid h
  have hnl := h.len
  unfold maxLen at hnl
  clear h
  go_enter Tryz.func21, Tryz.ntmps21
  go_wp2_with fail
  go_loopw [3] (fun iv wr => ∃ (k : Nat), k ≤ n ∧ k ≤ 60 ∧ iv = .int .i64 (k : Int) ∧ wr = w ∧ Hid (∀ i, i < k → (S i).data.size ≤ 3000)) (fun iv _ => n - (intOf iv).toNat)
  case atStart => exact ⟨0, by omega, by omega, rfl, rfl, Lib.hid (fun i hi => absurd hi (Nat.not_lt_zero _))⟩
  case round =>
    obtain ⟨k, hk, hk2, rfl, rfl, hA⟩ := hrel
    by_cases hlt : k < n
    · have hlt1 : (k : Int) < (n : Int) := by omega
      by_cases hlt2 : k < 60
      · have hlt3 : (k : Int) < 60 := by omega
        obtain ⟨b, o, rfl, _, hl, c0, c1, c2, c3, c4⟩ := HS.out.cell k hlt
        by_cases h1 : 3000 < (S k).data.size
        · have h1' : (3000 : Int) < ((S k).data.size : Int) := by omega
          go_wp2_with fail
          go_ret
          exact ⟨true, rfl, fun h => (by cases h), rfl⟩
        · have h1' : ¬ (3000 : Int) < ((S k).data.size : Int) := by omega
          have hA2 : Hid (∀ i, i < k + 1 → (S i).data.size ≤ 3000) := Lib.hid (fun i hi => by
            by_cases e : i = k
            · subst e; omega
            · exact hA.out i (by omega))
          go_wp2_with fail
          go_roundw
          case measure => simp only [intOf]; omega
          case rel => exact ⟨k + 1, by omega, by omega, by go_num, trivial, hA2⟩
      · have hlt3 : ¬ (k : Int) < 60 := by omega
        by_cases h60 : 60 < n
        · have hn3 : decide (60 < (n : Int)) = true := decide_eq_true (by omega)
          go_wp2_with fail
          go_ret
          exact ⟨true, rfl, fun h => (by cases h), rfl⟩
        · have hn3 : decide (60 < (n : Int)) = false := decide_eq_false (by omega)
          go_wp2_with fail
          go_ret
          exact ⟨false, rfl, fun _ => ⟨by omega, fun i hi => hA.out i (by omega)⟩, rfl⟩
    · have hlt1 : ¬ (k : Int) < (n : Int) := by omega
      obtain rfl : k = n := by omega
      have hn3 : decide (60 < (k : Int)) = false := decide_eq_false (by omega)
      go_wp2_with fail
      go_ret
      exact ⟨false, rfl, fun _ => ⟨by omega, fun i hi => hA.out i (by omega)⟩, rfl⟩
end Go.Proofs.YteihedfmmiihiaaGreat
