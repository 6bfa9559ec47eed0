/- disk: the steps that came in; long, begins, change. -/
import Derived.Test.YtoljnklceghcdaaDkTwinD
import Derived.Test.YtoljnklceghcdaaOpenRows
import Derived.OpenShut
namespace Go.Proofs.Ytoljnklceghcdaa
open Go.RowKit Go.Maps Go.Sort Go.Shelf
variable {Xs : Nat → Prop}

/-- a step -/
structure Stp where
  d : Int
  name : ByteArray
  to_ : ByteArray
  dA : Option Addr
  dn : Nat
  dc : Nat
  data : List UInt8
  num : Int
  kA : Option Addr
  kn : Nat
  kc : Nat
  z : Nat → Int
instance stp_inhabited : Inhabited Stp := ⟨⟨0, ⟨#[]⟩, ⟨#[]⟩, none, 0, 0, [], 0, none, 0, 0, fun _ => 0⟩⟩
/-- the steps that came in -/
structure Stps (w : World) (a : Option Addr) (n : Nat) (S : Nat → Stp) : Prop where
  cell : ∀ i, i < n → ∃ b o, a = some (⟨b, o, none⟩ : Addr) ∧ b < w.heap.size ∧ w.cell? ⟨b, o + i * 6, none⟩ = some (.int .u8 (S i).d) ∧ w.cell? ⟨b, o + i * 6 + 1, none⟩ = some (.string (S i).name) ∧ w.cell? ⟨b, o + i * 6 + 2, none⟩ = some (.string (S i).to_) ∧ w.cell? ⟨b, o + i * 6 + 3, none⟩ = some (.slice (S i).dA (S i).dn (S i).dc) ∧ w.cell? ⟨b, o + i * 6 + 4, none⟩ = some (.int .i64 (S i).num) ∧ w.cell? ⟨b, o + i * 6 + 5, none⟩ = some (.slice (S i).kA (S i).kn (S i).kc)
  data : ∀ i, i < n → Bs w (S i).dA (S i).dn (S i).data ∧ (S i).dn ≤ (S i).dc ∧ (S i).dc ≤ maxLen
  keep : ∀ i, i < n → KeepR w (S i).kA (S i).kn (S i).z ∧ (S i).kn ≤ (S i).kc ∧ (S i).kc ≤ maxLen
  num : ∀ i, i < n → (0 ≤ (S i).d ∧ (S i).d ≤ 255) ∧ (-9223372036854775808 ≤ (S i).num ∧ (S i).num ≤ 9223372036854775807)
  len : n ≤ maxLen
theorem Stps.bel {w w' : World} {a : Option Addr} {n : Nat} {S : Nat → Stp} (h : Stps w a n S) (k : Below w.heap.size w w') : Stps w' a n S :=
  ⟨fun i hi => by
    obtain ⟨b, o, e, hb, c0, c1, c2, c3, c4, c5⟩ := h.cell i hi
    have hc : ∀ j, w'.cell? ⟨b, j, none⟩ = w.cell? ⟨b, j, none⟩ := fun j => k.cell (p := ⟨b, j, none⟩) hb
    exact ⟨b, o, e, Nat.lt_of_lt_of_le hb k.size, (hc _).trans c0, (hc _).trans c1, (hc _).trans c2, (hc _).trans c3, (hc _).trans c4, (hc _).trans c5⟩,
   fun i hi => ⟨(h.data i hi).1.below k, (h.data i hi).2⟩, fun i hi => ⟨(h.keep i hi).1.turns (.of_below (S := fun _ => False) k) (fun _ _ _ _ => id), (h.keep i hi).2⟩, h.num, h.len⟩
def LongY (w : World) (n : Nat) (S : Nat → Stp) (e : Ending) (w' : World) : Prop :=
  ∃ b : Bool, e = .returned (.bool b) ∧ (b = false → n ≤ 80 ∧ ∀ i, i < n → (S i).data.length ≤ 5000 ∧ (S i).name.size ≤ 100 ∧ (S i).to_.size ≤ 100) ∧ w' = w
set_option maxRecDepth 20000 in
set_option maxHeartbeats 1600000 in
theorem long_any (w : World) (a : Option Addr) (n c : Nat) (S : Nat → Stp) (h : Stps w a n S) : Calls Try.prog 8 #[.slice a n c] w (LongY w n S) := by
  have HS := Lib.hid h
  have hnl := h.len
  unfold maxLen at hnl
  clear h
  go_enter Try.func8, Try.ntmps8
  go_wp2_with fail
  go_loopw [3, 4] (fun lv iv wr => ∃ (k m : Nat), k ≤ n ∧ k ≤ 80 ∧ m ≤ 5000 ∧ lv = .int .i64 (m : Int) ∧ iv = .int .i64 (k : Int) ∧ wr = w ∧ Hid (∀ i, i < k → (S i).data.length ≤ 5000 ∧ (S i).name.size ≤ 100 ∧ (S i).to_.size ≤ 100)) (fun _ iv _ => n - (intOf iv).toNat)
  case atStart => exact ⟨0, 5000, by omega, by omega, by omega, rfl, rfl, rfl, Lib.hid (fun i hi => absurd hi (Nat.not_lt_zero _))⟩
  case round =>
    obtain ⟨k, m, hk, hk2, hm, rfl, rfl, rfl, hA⟩ := hrel
    by_cases hlt : k < n
    · have hlt1 : (k : Int) < (n : Int) := by omega
      by_cases hlt2 : k < 80
      · have hlt3 : (k : Int) < 80 := by omega
        obtain ⟨b, o, rfl, hl, c0, c1, c2, c3, c4, c5⟩ := HS.out.cell k hlt
        have hd1 : (S k).dn ≤ (S k).data.length := Nat.le_of_eq (HS.out.data k hlt).1.len
        have hd2 : (S k).data.length ≤ (S k).dn := Nat.le_of_eq (HS.out.data k hlt).1.len.symm
        by_cases h0 : m < (S k).dn
        · have h0' : (m : Int) < ((S k).dn : Int) := by omega
          go_wp2_with fail
          go_ret
          exact ⟨true, rfl, fun h => (by cases h), rfl⟩
        · have h0' : ¬ (m : Int) < ((S k).dn : Int) := by omega
          by_cases h1 : 100 < (S k).name.size
          · have h1' : (100 : Int) < ((S k).name.size : Int) := by omega
            go_wp2_with fail
            go_ret
            exact ⟨true, rfl, fun h => (by cases h), rfl⟩
          · have h1' : ¬ (100 : Int) < ((S k).name.size : Int) := by omega
            by_cases h2 : 100 < (S k).to_.size
            · have h2' : (100 : Int) < ((S k).to_.size : Int) := by omega
              go_wp2_with fail
              go_ret
              exact ⟨true, rfl, fun h => (by cases h), rfl⟩
            · have h2' : ¬ (100 : Int) < ((S k).to_.size : Int) := by omega
              have hsub : (m : Int) - ((S k).dn : Int) = ((m - (S k).dn : Nat) : Int) := by omega
              have hA2 : Hid (∀ i, i < k + 1 → (S i).data.length ≤ 5000 ∧ (S i).name.size ≤ 100 ∧ (S i).to_.size ≤ 100) := Lib.hid (fun i hi => by
                by_cases e : i = k
                · subst e; exact ⟨by omega, by omega, by omega⟩
                · exact hA.out i (by omega))
              go_wp2_with fail
              go_roundw
              case measure => simp only [intOf]; omega
              case rel => exact ⟨k + 1, m - (S k).dn, by omega, by omega, by omega, rfl, by go_num, by first | rfl | trivial, hA2⟩
      · have hlt3 : ¬ (k : Int) < 80 := by omega
        have hn3 : decide (80 < (n : Int)) = true := decide_eq_true (by omega)
        go_wp2_with fail
        go_ret
        exact ⟨true, rfl, fun h => (by cases h), rfl⟩
    · obtain rfl : k = n := by omega
      have hlt1 : ¬ (k : Int) < (k : Int) := by omega
      have hn3 : decide (80 < (k : Int)) = false := decide_eq_false (by omega)
      go_wp2_with fail
      go_ret
      exact ⟨false, rfl, fun _ => ⟨hk2, hA.out⟩, rfl⟩
/-- begins: bytes begin with others -/
theorem begins_yes (w : World) (A : Option Addr) (n c : Nat) (l : List UInt8) (hl : Bs w A n l) (hc : n ≤ c) (hcm : c ≤ maxLen) (B : Option Addr) (m c2 : Nat) (l2 : List UInt8) (hl2 : Bs w B m l2) (hp : l2.length ≤ l.length ∧ l.take l2.length = l2) (hA : ∀ ad, A = some ad → 0 < l.length → True) :
    Calls Try.prog 14 #[.slice A n c, .slice B m c2] w fun e w' => e = .returned (.bool true) ∧ Below w.heap.size w w' := by
  have hn := hl.len
  have hm := hl2.len
  have hle := hl.le
  unfold maxLen at hcm hle
  have hcut := Bs.cut (A' := A) hl 0 m (Nat.zero_le _) (by omega) (fun ad h0 e => by rw [e]; simp [Addr.add])
  simp only [Nat.sub_zero, List.drop_zero] at hcut
  have e1 : l.take m = l2 := by rw [hm]; exact hp.2
  rw [e1] at hcut
  have q1 := fun nn => run_conv_bs (P := Try.prog) (w := w.drewN nn) (hcut.below (below_drewN' (Below.refl _ _) nn)) 29 9 5 Try.underlying29 Try.underlying5 Try.underlying9 c
  have q2 := fun nn => run_conv_bs (P := Try.prog) (w := w.drewN nn) (hl2.below (below_drewN' (Below.refl _ _) nn)) 29 9 5 Try.underlying29 Try.underlying5 Try.underlying9 c2
  unfold strV at q1 q2
  have h1 : (m : Int) ≤ (n : Int) := by omega
  have h2 : (m : Int) ≤ (c : Int) := by omega
  have h3 : decide ((m : Int) ≤ (n : Int)) = true := decide_eq_true h1
  have h4 : decide (m ≤ n) = true := decide_eq_true (by omega)
  clear hcut e1 hl hl2 hp hn hm
  go_enter Try.func14, Try.ntmps14
  go_upto_region 1 with (fail)
  go_quiet (fail)
  go_wp2_with fail
  go_ret
  exact ⟨rfl, below_drewN' (Below.refl _ _) _⟩
end Go.Proofs.Ytoljnklceghcdaa
