/- DiskLasts: what was synced is there behind each crash. -/
import Derived.Test.YtoljnklceghcdaaDkConv
namespace Go.Proofs.Ytoljnklceghcdaa
open Go.RowKit Go.Maps Go.Sort Go.Shelf
variable {Xs : Nat → Prop}

def kF : ByteArray := ⟨#[102]⟩
/-- the one file -/
def pF (l : List UInt8) (n : Nat) : Fs := upd (fun _ => none) kF (l, n)
theorem pF_upd (l l2 : List UInt8) (n n2 : Nat) : upd (pF l n) kF (l2, n2) = pF l2 n2 := by
  funext k
  unfold pF upd
  split <;> rfl
theorem pF_pl (l : List UInt8) (n : Nat) : pl (pF l n) kF = (l, n) := by simp [pl, pF, upd]
theorem pF_is (l : List UInt8) (n : Nat) : (pF l n kF) = some (l, n) := by simp [pF, upd]
theorem pF_keys (l : List UInt8) (n : Nat) : KeysOf (pF l n) [[102]] := keys_one (by rw [show keyB [102] = kF from rfl, pF_is]; simp) (fun k hk => by
  have : ¬ k = kF := hk
  simp [pF, upd, this])
def stF (l : List UInt8) (n : Nat) : Dk := ⟨false, -1, pF l n⟩
theorem stF_short (l : List UInt8) (n M : Nat) (h : l.length ≤ M) : Short (stF l n).p M := fun k => by
  unfold stF pF
  simp only [pl_upd]
  split
  · exact h
  · simp [pl]
theorem ap_F (l lb : List UInt8) (n : Nat) : apS (stF l n) kF lb = stF (l ++ lb) n := by
  have := pF_pl l n
  simp [apS, stF, lessF, this, pF_upd]
theorem apC_F (l : List UInt8) (n : Nat) : apC (stF l n) = 0 := by simp [apC, stF]
theorem sy_F (l : List UInt8) (n : Nat) : syS (stF l n) kF = stF l l.length := by
  have := pF_pl l n
  have h2 := pF_is l n
  simp [syS, chS, stF, lessF, this, h2, pF_upd]
theorem chC_F (l : List UInt8) (n : Nat) : chC (stF l n) kF = 0 := by
  have h2 := pF_is l n
  simp [chC, stF, h2]
theorem crash_F (l : List UInt8) (n : Nat) (hn : n ≤ l.length) (kn : Nat) (z : Nat → Int) : crashF kn z [[102]] 0 (pF l n) = pF (l.take (n + more kn z 0 (l.length - n))) (n + more kn z 0 (l.length - n)) := by
  have e : keyB [102] = kF := rfl
  have h := pF_pl l n
  unfold crashF
  rw [e, h]
  simp only
  by_cases h0 : n = l.length
  · rw [if_pos h0]
    have h1 := more_le kn z 0 (l.length - n)
    have h2 : more kn z 0 (l.length - n) = 0 := by omega
    rw [h2, Nat.add_zero, h0, List.take_length, crashF]
  · rw [if_neg h0, crashF, pF_upd]
theorem own_caps {w : World} {base e size n c : Nat} {A : Option Addr} {xs : List Value} (h : w.ownsRow base e size (.slice A n c) n xs) : n ≤ c ∧ c ≤ maxLen := by
  rcases h.2 with ⟨e, e2⟩ | ⟨g, cap', cur, e, _, _, h5, h6, _⟩
  · injection e with _ _ e3
    subst e2 e3
    exact ⟨Nat.le_refl _, Nat.zero_le _⟩
  · injection e with _ _ e3
    subst e3
    exact ⟨h5, h6⟩
/-- 'sure' -/
structure SureR (H d F : Nat) (av : Value) (w : World) (A : Option Addr) (n c : Nat) (l : List UInt8) : Prop where
  bs : Bs w A n l
  cap : n ≤ c ∧ c ≤ maxLen
  apart : ∀ ad, A = some ad → 0 < l.length → ad.block ≠ d ∧ ad.block ≠ F ∧ av.ownBlock ≠ some ad.block
theorem SureR.turns {H d F : Nat} {av : Value} {w w' : World} {A : Option Addr} {n c : Nat} {l : List UInt8} {S : Nat → Prop} (h : SureR H d F av w A n c l) (t : Turns S w w') (hs : ∀ g, S g → g = d ∨ g = F ∨ av.ownBlock = some g) : SureR H d F av w' A n c l :=
  ⟨h.bs.kept t.size (fun ad e h0 => t.block _ (by
    obtain ⟨ad', e', hlt, _⟩ := h.bs.cell 0 h0
    obtain rfl : ad' = ad := Option.some.inj (e'.symm.trans e)
    exact hlt) (fun hS => by
    have := h.apart ad e h0
    rcases hs _ hS with e1 | e1 | e1
    · exact this.1 e1
    · exact this.2.1 e1
    · exact this.2.2 e1)), h.cap, h.apart⟩
/-- the loop's state -/
structure LaS (H d F : Nat) (w : World) (i : Nat) (av : Value) (all : List UInt8) (sA : Option Addr) (sl sc : Nat) : Prop where
  ds : DS (fun g => av.ownBlock = some g) w d F false (-1) (pF all sl) (i + 1)
  row : w.ownsRow H 5 1 av all.length (Cd.bytesV all)
  sure : SureR H d F av w sA sl sc (all.take sl)
  le : sl ≤ all.length
  few : all.length ≤ 5000 * i
  lo : H ≤ d ∧ H ≤ F
section
variable {H d F i sl sc : Nat} {w w1 : World} {av : Value} {all : List UInt8} {sA : Option Addr}
theorem LaS.bel (h : LaS H d F w i av all sA sl sc) (t : Below w.heap.size w w1) : LaS H d F w1 i av all sA sl sc :=
  ⟨h.ds.bel t, own_turns h.row (.of_below (S := fun _ => False) t) (fun _ _ => id), h.sure.turns (.of_below (S := fun _ => False) t) (fun _ e => e.elim), h.le, h.few, h.lo⟩
theorem LaS.wide (h : LaS H d F w i av all sA sl sc) : LaS H d F w (i + 1) av all sA sl sc := ⟨h.ds.wide (by omega), h.row, h.sure, h.le, by have := h.few; omega, h.lo⟩
theorem LaS.lt (h : LaS H d F w i av all sA sl sc) : ∀ g, av.ownBlock = some g → g < w.heap.size := fun g hg => by
  rcases h.row.2 with ⟨rfl, _⟩ | ⟨g', cap, cur, rfl, h3, h4, _⟩
  · simp [Value.ownBlock] at hg
  · simp [Value.ownBlock] at hg
    subst hg
    exact (Array.getElem?_eq_some_iff.1 h4).1
theorem row_dF {N n : Nat} {Ys : Nat → Prop} {off : Bool} {fuse : Int} {p : Fs} {xs : List Value} (h : DS Ys w d F off fuse p N) (r : w.ownsRow H 5 1 av n xs) (t : Turns (DSet d F) w w1) : w1.ownsRow H 5 1 av n xs := by
  obtain ⟨mv, m, _, hm, _⟩ := h.files
  exact own_turns r t (fun g hg e => e.elim (fun e => own_ne_blk r hg h.blk (by decide) e) (fun e => own_ne_map r hg hm e))
/-- bytes are put behind: the disk's are, then 'all' -/
theorem lasA (h : LaS H d F w i av all sA sl sc) (hi : i ≤ 50) (B : Option Addr) (m c : Nat) (lb : List UInt8) (hs : Bs w B m lb) (hB : ∀ ad, B = some ad → 0 < lb.length → ad.block < H) (hl : lb.length ≤ 5000)
    (hd : DS (fun g => av.ownBlock = some g) w1 d F false (-1) (pF (all ++ lb) sl) (i + 1 + 1)) (t : Turns (DSet d F) w w1) (ty : TypeId) :
    ∃ A' c' w2, (Builtin.append_ #[29, 29] ty #[av, .slice B m c]).run Try.prog w1 = .ok (.slice A' (all ++ lb).length c') w2 ∧ LaS H d F w2 (i + 1) (.slice A' (all ++ lb).length c') (all ++ lb) sA sl sc ∧ Turns (fun g => av.ownBlock = some g) w1 w2 := by
  have hr1 := row_dF h.ds h.row t
  have hs1 : Bs w1 B m lb := hs.kept t.size (fun ad e h0 => t.block _ (by
    obtain ⟨ad', e', hlt, _⟩ := hs.cell 0 h0
    obtain rfl : ad' = ad := Option.some.inj (e'.symm.trans e)
    exact hlt) (fun hS => by
    have := hB ad e h0
    have := h.lo
    rcases hS with e1 | e1 <;> omega))
  have hH : H ≤ w1.heap.size := by have := h.lo; have := hd.lts; omega
  have hf := h.few
  obtain ⟨A', c', w2, hrun, ho2, hg2, hat⟩ := append_mine w1 H av all hr1 hH B m c lb hs1 (by omega) ty
  have t2 : Turns (fun g => av.ownBlock = some g) w1 w2 := .of_grown hg2 (fun r e => e)
  obtain ⟨mv, n1, _, hm, _⟩ := hd.files
  have hvd : ¬ av.ownBlock = some d := fun e => own_ne_blk hr1 e hd.blk (by decide) rfl
  have hvF : ¬ av.ownBlock = some F := fun e => own_ne_map hr1 e hm rfl
  have hsz := hd.lts
  refine ⟨A', c', w2, hrun, ⟨?_, ho2, ?_, ?_, ?_, h.lo⟩, t2⟩
  · have hd2 : DS (fun g => (Value.slice A' (all ++ lb).length c').ownBlock = some g) w1 d F false (-1) (pF (all ++ lb) sl) (i + 1 + 1) := hd.avoid (fun j hj e => by
      rcases hat with e2 | e2
      · exact e2.symm.trans e
      · have e3 := Option.some.inj (e2.symm.trans e); omega)
    have hd3 : DS (fun g => (Value.slice A' (all ++ lb).length c').ownBlock = some g ∨ av.ownBlock = some g) w1 d F false (-1) (pF (all ++ lb) sl) (i + 1 + 1) := hd.avoid (fun j hj e => by
      rcases e with e | e
      · rcases hat with e2 | e2
        · exact e2.symm.trans e
        · have e3 := Option.some.inj (e2.symm.trans e); omega
      · exact e)
    exact (hd3.keep t2 hvd hvF (fun g cur _ hn e => hn (.inr e))).avoid (fun _ _ e => .inl e)
  · have hsr := (h.sure.turns t (fun g e => by rcases e with e | e; exact .inl e; exact .inr (.inl e))).turns t2 (fun g e => .inr (.inr e))
    rw [List.take_append_of_le_length h.le]
    exact ⟨hsr.bs, hsr.cap, fun ad e h0 => by
      have h3 := hsr.apart ad e h0
      refine ⟨h3.1, h3.2.1, fun e4 => ?_⟩
      rcases hat with e2 | e2
      · rw [e2] at e4; exact h3.2.2 e4
      · rw [e2] at e4
        injection e4 with e4
        obtain ⟨ad', e', hlt, _⟩ := h.sure.bs.cell 0 h0
        obtain rfl : ad' = ad := Option.some.inj (e'.symm.trans e)
        have := t.size
        omega⟩
  · rw [List.length_append]; have := h.le; omega
  · rw [List.length_append]; omega
/-- 'sure' becomes all -/
theorem lasS (hd : DS (fun g => av.ownBlock = some g) w d F false (-1) (pF all all.length) (i + 1)) (row : w.ownsRow H 5 1 av all.length (Cd.bytesV all)) (lo : H ≤ d ∧ H ≤ F) (hf : all.length ≤ 5000 * i) (hi : i ≤ 50) :
    ∃ c w2, (convert 9 29 (strV all)).run Try.prog w = .ok (.slice (some ⟨w.heap.size, 0, none⟩) all.length c) w2 ∧ LaS H d F w2 i av all (some ⟨w.heap.size, 0, none⟩) all.length c ∧ Below w.heap.size w w2 := by
  obtain ⟨c, w2, hrun, hb, hbl, _, h1, h2, _⟩ := conv_bytes w all (by omega)
  have hs := hd.lts
  refine ⟨c, w2, hrun, ⟨hd.bel hbl, own_turns row (.of_below (S := fun _ => False) hbl) (fun _ _ => id), ⟨by rw [List.take_length]; exact hb, ⟨h1, h2⟩, fun ad e h0 => ?_⟩, Nat.le_refl _, hf, lo⟩, hbl⟩
  injection e with e
  subst e
  refine ⟨by simp only; omega, by simp only; omega, fun e => ?_⟩
  rcases row.2 with ⟨rfl, _⟩ | ⟨g', cap, cur, rfl, h3, h4, _⟩
  · simp [Value.ownBlock] at e
  · simp [Value.ownBlock] at e
    have := (Array.getElem?_eq_some_iff.1 h4).1
    omega
theorem own_cut {base n m cap : Nat} {A : Option Addr} {l : List UInt8} (h : w.ownsRow base 5 1 (.slice A n cap) n (Cd.bytesV l)) (hm : m ≤ n) : w.ownsRow base 5 1 (.slice A m cap) m (Cd.bytesV (l.take m)) := by
  have e : Cd.bytesV (l.take m) = (Cd.bytesV l).take (m * 1) := by simp [Cd.bytesV, List.map_take]
  rw [e]
  cases A with
  | none =>
    rcases h.2 with ⟨h1, h2⟩ | ⟨g', cap', cur, h1, _⟩
    · injection h1 with _ h1 h3
      subst h1 h3
      obtain rfl : m = 0 := by omega
      exact ⟨by simp, .inl ⟨rfl, rfl⟩⟩
    · cases h1
  | some a =>
    have h' := h
    rcases h.2 with ⟨h1, h2⟩ | ⟨g', cap', cur, h1, _⟩
    · cases h1
    · injection h1 with h1 _ _
      injection h1 with h1
      subst h1
      exact own_take h' hm
end
end Go.Proofs.Ytoljnklceghcdaa
