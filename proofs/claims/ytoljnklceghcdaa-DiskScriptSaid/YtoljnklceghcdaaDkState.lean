/- disk: files in memory; a disk; New, made, goes, there, Off, Fuse, Waits. -/
import Derived.Test.YtoljnklceghcdaaBlk
import Derived.Test.YtoljnklceghcdaaBytes
import Derived.Test.YtoljnklceghcdaaProg
namespace Go.Proofs.Ytoljnklceghcdaa
open Go.RowKit

/-- a file's bytes: nil, or the head of a row of bytes -/
def FileB (Xs : Nat → Prop) (w : World) (v : Value) (l : List UInt8) : Prop :=
  (v = .slice none 0 0 ∧ l = []) ∨ ∃ g cap cur, v = .slice (some ⟨g, 0, none⟩) l.length cap ∧ w.heap[g]? = some (.cells cur 5 (0, 0)) ∧ l.length ≤ cap ∧ cap ≤ maxLen ∧ cur.toList.take l.length = Cd.bytesV l ∧ ¬ Xs g
section
variable {Xs : Nat → Prop} {w w' : World} {v : Value} {l : List UInt8}
theorem FileB.nil (Xs : Nat → Prop) (w : World) : FileB Xs w (.slice none 0 0) [] := .inl ⟨rfl, rfl⟩
theorem FileB.of_own {base n : Nat} (h : w.ownsRow base 5 1 v n (Cd.bytesV l)) (hn : n = l.length) (hx : ∀ g, v.ownBlock = some g → ¬ Xs g) : FileB Xs w v l := by
  subst hn
  rcases h.2 with ⟨rfl, h0⟩ | ⟨g, cap, cur, rfl, _, h4, h5, h6, _, h8⟩
  · exact .inl ⟨rfl, List.eq_nil_of_length_eq_zero h0⟩
  · exact .inr ⟨g, cap, cur, rfl, h4, h5, h6, by simpa using h8, hx g rfl⟩
theorem FileB.turns {S : Nat → Prop} (h : FileB Xs w v l) (k : Turns S w w') (hn : ∀ g, v.ownBlock = some g → ¬ S g) : FileB Xs w' v l := by
  rcases h with h | ⟨g, cap, cur, rfl, h4, h5⟩
  · exact .inl h
  · exact .inr ⟨g, cap, cur, rfl, (k.block g (Array.getElem?_eq_some_iff.1 h4).1 (hn g rfl)).trans h4, h5⟩
theorem FileB.below (h : FileB Xs w v l) (k : Below w.heap.size w w') : FileB Xs w' v l := h.turns (.of_below (S := fun _ => False) k) (fun _ _ => id)
theorem FileB.lt (h : FileB Xs w v l) {g : Nat} (hg : v.ownBlock = some g) : g < w.heap.size ∧ (∃ cur, w.heap[g]? = some (.cells cur 5 (0, 0))) ∧ ¬ Xs g := by
  rcases h with ⟨rfl, _⟩ | ⟨g', cap, cur, rfl, h4, _, _, _, h5⟩
  · simp [Value.ownBlock] at hg
  · simp [Value.ownBlock] at hg
    subst hg
    exact ⟨(Array.getElem?_eq_some_iff.1 h4).1, ⟨cur, h4⟩, h5⟩
theorem FileB.ne_blk {t : TypeId} {cs : List Value} {r g : Nat} (h : FileB Xs w v l) (hg : v.ownBlock = some g) (hb : Blk w r t cs) (hne : 5 ≠ t) : g ≠ r := by
  rintro rfl
  obtain ⟨_, ⟨cur, h4⟩, _⟩ := h.lt hg
  unfold Blk at hb
  rw [h4] at hb
  injection hb with hb
  injection hb with _ hb _
  exact hne hb
theorem FileB.ne_map {r g k : Nat} {K : Type} {kv : K → Value} {m : K → Option Value} (h : FileB Xs w v l) (hg : v.ownBlock = some g) (hb : MapIs kv w r m k) : g ≠ r := by
  rintro rfl
  obtain ⟨_, ⟨cur, h4⟩, _⟩ := h.lt hg
  exact hb.ne_cells h4 rfl
theorem FileB.form (h : FileB Xs w v l) : ∃ A cap, v = .slice A l.length cap ∧ (A = none → l.length = 0 ∧ cap = 0) ∧ l.length ≤ cap ∧ cap ≤ maxLen := by
  rcases h with ⟨rfl, rfl⟩ | ⟨g, cap, cur, rfl, h4, h5, h6, h7⟩
  · exact ⟨none, 0, rfl, fun _ => ⟨rfl, rfl⟩, Nat.le_refl _, Nat.zero_le _⟩
  · exact ⟨_, cap, rfl, (fun e => by cases e), h5, h6⟩
theorem FileB.bs {A : Option Addr} {n cap : Nat} (h : FileB Xs w (.slice A n cap) l) : Bs w A n l := by
  rcases h with ⟨hv, rfl⟩ | ⟨g, cap', cur, hv, h4, h5, h6, h7, hxs⟩
  · injection hv with h1 h2 h3
    subst h1 h2 h3
    exact Bs.nil w
  · injection hv with h1 h2 h3
    subst h1 h2 h3
    refine ⟨rfl, by omega, fun i hi => ⟨_, rfl, (Array.getElem?_eq_some_iff.1 h4).1, ?_⟩⟩
    have e : (⟨g, 0, none⟩ : Addr).add i = ⟨g, i, none⟩ := by simp [Addr.add]; omega
    rw [e, cell_of_row w g i _ _ _ h4]
    have h8 : (cur.toList.take l.length)[i]? = (Cd.bytesV l)[i]? := by rw [h7]
    rw [List.getElem?_take, if_pos hi] at h8
    rw [← Array.getElem?_toList, h8]
    simp [Cd.bytesV, Cd.byteV, hi]
theorem FileB.cut {A : Option Addr} {n cap : Nat} (h : FileB Xs w (.slice A n cap) l) (k : Nat) (hk : k ≤ l.length) : FileB Xs w (.slice A k cap) (l.take k) := by
  rcases h with ⟨hv, rfl⟩ | ⟨g, cap', cur, hv, h4, h5, h6, h7, hxs⟩
  · injection hv with h1 h2 h3
    subst h1 h2 h3
    have : k = 0 := by simpa using hk
    subst this
    exact .inl ⟨rfl, rfl⟩
  · injection hv with h1 h2 h3
    subst h1 h2 h3
    have hl : (l.take k).length = k := by simp; omega
    refine .inr ⟨g, cap, cur, by rw [hl], h4, by omega, h6, ?_⟩
    rw [hl]
    have := congrArg (List.take k) h7
    rw [List.take_take, Nat.min_eq_left hk] at this
    rw [this]
    exact ⟨by simp [Cd.bytesV, List.map_take], hxs⟩
theorem FileB.clip {A : Option Addr} {n cap : Nat} (h : FileB Xs w (.slice A n cap) l) : FileB Xs w (.slice A n n) l := by
  rcases h with ⟨hv, rfl⟩ | ⟨g, cap', cur, hv, h4, h5, h6, h7, hxs⟩
  · injection hv with h1 h2 h3
    subst h1 h2 h3
    exact .inl ⟨rfl, rfl⟩
  · injection hv with h1 h2 h3
    subst h1 h2 h3
    exact .inr ⟨g, l.length, cur, rfl, h4, Nat.le_refl _, by omega, h7, hxs⟩
end

theorem own_ge {w : World} {base e size n g : Nat} {v : Value} {xs : List Value} (h : w.ownsRow base e size v n xs) (hg : v.ownBlock = some g) : base ≤ g := by
  rcases h.2 with ⟨rfl, _⟩ | ⟨g', cap, cur, rfl, h3, h4, _⟩
  · simp [Value.ownBlock] at hg
  · simp [Value.ownBlock] at hg
    subst hg
    exact h3

/-- a file: its bytes, how many of them last -/
abbrev Fd := List UInt8 × Nat
abbrev Fs := ByteArray → Option Fd
def fileV (v : Value) (n : Nat) : Value := .agg #[v, .int .i64 (n : Int)]
/-- a map's values are these files -/
def Files (Xs : Nat → Prop) (w : World) (p : Fs) (mv : ByteArray → Option Value) : Prop :=
  ∀ k, (p k = none ∧ mv k = none) ∨ ∃ l n v, p k = some (l, n) ∧ mv k = some (fileV v n) ∧ FileB Xs w v l ∧ n ≤ l.length
def pl (p : Fs) (k : ByteArray) : Fd := (p k).getD ([], 0)
/-- all files are short -/
def Short (p : Fs) (L : Nat) : Prop := ∀ k, (pl p k).1.length ≤ L
def upd (p : Fs) (k : ByteArray) (x : Fd) : Fs := fun k' => if k' = k then some x else p k'
def wip (p : Fs) (k : ByteArray) : Fs := fun k' => if k' = k then none else p k'
theorem Files.get {Xs : Nat → Prop} {w : World} {p : Fs} {mv : ByteArray → Option Value} (h : Files Xs w p mv) (k : ByteArray) : (mv k).isSome = (p k).isSome ∧ ∃ v, (mv k).getD (fileV (.slice none 0 0) 0) = fileV v (pl p k).2 ∧ FileB Xs w v (pl p k).1 ∧ (pl p k).2 ≤ (pl p k).1.length := by
  rcases h k with ⟨h1, h2⟩ | ⟨l, n, v, h1, h2, h3, h4⟩
  · simp only [pl, h1, h2]
    exact ⟨rfl, _, rfl, .nil _ _, Nat.le_refl _⟩
  · simp only [pl, h1, h2]
    exact ⟨rfl, v, rfl, h3, h4⟩
theorem Files.turns {Xs S : Nat → Prop} {w w' : World} {p : Fs} {mv : ByteArray → Option Value} (h : Files Xs w p mv) (k : Turns S w w') (hn : ∀ g cur, w.heap[g]? = some (.cells cur 5 (0, 0)) → ¬ Xs g → ¬ S g) : Files Xs w' p mv := by
  intro x
  rcases h x with h1 | ⟨l, n, v, h1, h2, h3, h4⟩
  · exact .inl h1
  · exact .inr ⟨l, n, v, h1, h2, h3.turns k (fun g hg => by obtain ⟨_, ⟨cur, e⟩, hx⟩ := h3.lt hg; exact hn g cur e hx), h4⟩
theorem Files.upd {Xs : Nat → Prop} {w : World} {p : Fs} {mv : ByteArray → Option Value} (h : Files Xs w p mv) (k : ByteArray) (v : Value) (l : List UInt8) (n : Nat) (hv : FileB Xs w v l) (hn : n ≤ l.length) : Files Xs w (upd p k (l, n)) (fun k' => if k' = k then some (fileV v n) else mv k') := by
  intro x
  unfold Go.Proofs.Ytoljnklceghcdaa.upd
  by_cases e : x = k
  · exact .inr ⟨l, n, v, by simp [e], by simp [e], hv, hn⟩
  · simp only [if_neg e]
    exact h x
theorem Files.wip {Xs : Nat → Prop} {w : World} {p : Fs} {mv : ByteArray → Option Value} (h : Files Xs w p mv) (k : ByteArray) : Files Xs w (wip p k) (fun k' => if k' = k then none else mv k') := by
  intro x
  unfold Go.Proofs.Ytoljnklceghcdaa.wip
  by_cases e : x = k
  · exact .inl ⟨by simp [e], by simp [e]⟩
  · simp only [if_neg e]
    exact h x

/-- a disk: at block d, its map at F -/
structure DS (Xs : Nat → Prop) (w : World) (d F : Nat) (off : Bool) (fuse : Int) (p : Fs) (N : Nat) : Prop where
  blk : Blk w d 51 [.map (some F), .bool off, .int .i64 fuse]
  files : ∃ mv n, n ≤ N ∧ MapIs kStr w F mv n ∧ Files Xs w p mv
  fu : -1 ≤ fuse ∧ fuse ≤ 9223372036854775807
def DSet (d F : Nat) : Nat → Prop := fun i => i = d ∨ i = F
section
variable {Xs : Nat → Prop} {w w' : World} {d F N : Nat} {off : Bool} {fuse : Int} {p : Fs}
theorem DS.keep {S : Nat → Prop} (h : DS Xs w d F off fuse p N) (k : Turns S w w') (h1 : ¬ S d) (h2 : ¬ S F) (hn : ∀ g cur, w.heap[g]? = some (.cells cur 5 (0, 0)) → ¬ Xs g → ¬ S g) : DS Xs w' d F off fuse p N := by
  obtain ⟨mv, n, hN, hm, hf⟩ := h.files
  exact ⟨h.blk.turns k h1, ⟨mv, n, hN, hm.turns k h2, hf.turns k hn⟩, h.fu⟩
theorem DS.bel (h : DS Xs w d F off fuse p N) (k : Below w.heap.size w w') : DS Xs w' d F off fuse p N := h.keep (.of_below (S := fun _ => False) k) id id (fun _ _ _ _ => id)
theorem DS.lts (h : DS Xs w d F off fuse p N) : d < w.heap.size ∧ F < w.heap.size := by
  obtain ⟨mv, n, hN, hm, hf⟩ := h.files
  exact ⟨h.blk.lt, hm.lt⟩
theorem DS.ne (h : DS Xs w d F off fuse p N) : F ≠ d := by
  obtain ⟨mv, n, hN, hm, hf⟩ := h.files
  exact hm.ne_cells h.blk
theorem DS.wide (h : DS Xs w d F off fuse p N) {M : Nat} (hM : N ≤ M) : DS Xs w d F off fuse p M := by
  obtain ⟨mv, n, hN, hm, hf⟩ := h.files
  exact ⟨h.blk, ⟨mv, n, by omega, hm, hf⟩, h.fu⟩
/-- what turns another disk leaves this one -/
theorem DS.other {Ys : Nat → Prop} {d2 F2 N2 : Nat} {off2 : Bool} {fuse2 : Int} {p2 : Fs} (h : DS Xs w d F off fuse p N) (h2 : DS Ys w d2 F2 off2 fuse2 p2 N2) (k : Turns (DSet d2 F2) w w') (hd : d ≠ d2) (hF : F ≠ F2) : DS Xs w' d F off fuse p N := by
  obtain ⟨mv2, n2, _, hm2, _⟩ := h2.files
  obtain ⟨mv, n, _, hm, _⟩ := h.files
  refine h.keep k (fun e => ?_) (fun e => ?_) (fun g cur hg _ e => ?_)
  · rcases e with e | e
    · exact hd e
    · exact hm2.ne_cells h.blk e.symm
  · rcases e with e | e
    · exact hm.ne_cells h2.blk e
    · exact hF e
  · rcases e with rfl | rfl
    · have := h2.blk
      unfold Blk at this
      rw [hg] at this
      injection this with this
      injection this with _ this _
      exact absurd this (by decide)
    · exact hm2.ne_cells hg rfl
theorem DS.cells (h : DS Xs w d F off fuse p N) : w.cell? ⟨d, 0, none⟩ = some (.map (some F)) ∧ w.cell? ⟨d, 1, none⟩ = some (.bool off) ∧ w.cell? ⟨d, 2, none⟩ = some (.int .i64 fuse) :=
  ⟨h.blk.cell 0, h.blk.cell 1, h.blk.cell 2⟩
/-- what happens to the map's files, the disk's own block staying -/
theorem DS.put {S : Nat → Prop} (h : DS Xs w d F off fuse p N) {M : Nat} {p' : Fs} (k : Turns S w w') (h1 : ¬ S d) (hf : ∃ mv n, n ≤ M ∧ MapIs kStr w' F mv n ∧ Files Xs w' p' mv) : DS Xs w' d F off fuse p' M := ⟨h.blk.turns k h1, hf, h.fu⟩
/-- another set of blocks that files avoid -/
theorem DS.avoid {Ys : Nat → Prop} (h : DS Xs w d F off fuse p N) (hy : ∀ i, i < w.heap.size → Ys i → Xs i) : DS Ys w d F off fuse p N := by
  obtain ⟨mv, n, hN, hm, hf⟩ := h.files
  refine ⟨h.blk, ⟨mv, n, hN, hm, fun x => ?_⟩, h.fu⟩
  rcases hf x with h1 | ⟨l, n, v, h1, h2, h3, h4⟩
  · exact .inl h1
  · refine .inr ⟨l, n, v, h1, h2, ?_, h4⟩
    rcases h3 with h3 | ⟨g, cap, cur, e, h5, h6, h7, h8, h9⟩
    · exact .inl h3
    · exact .inr ⟨g, cap, cur, e, h5, h6, h7, h8, fun hg => h9 (hy g (Array.getElem?_eq_some_iff.1 h5).1 hg)⟩
/-- switch and fuse -/
theorem DS.set (h : DS Xs w d F off fuse p N) (off2 : Bool) (fuse2 : Int) (hb : Blk w' d 51 [.map (some F), .bool off2, .int .i64 fuse2]) (k : Turns (fun i => i = d) w w') (hf : -1 ≤ fuse2 ∧ fuse2 ≤ 9223372036854775807) : DS Xs w' d F off2 fuse2 p N := by
  obtain ⟨mv, n, hN, hm, hfs⟩ := h.files
  refine ⟨hb, ⟨mv, n, hN, hm.turns k h.ne, hfs.turns k (fun g cur hg _ e => ?_)⟩, hf⟩
  subst e
  have := h.blk
  unfold Blk at this
  rw [hg] at this
  injection this with this
  injection this with _ this _
  exact absurd this (by decide)
end
theorem Short.nil : Short (fun _ => none) 0 := fun _ => Nat.le_refl _
end Go.Proofs.Ytoljnklceghcdaa
