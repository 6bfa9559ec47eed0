/- WmB: texts of wal, merged (a claim may hold few texts) -/
import Derived.Test.YteihedfmmiihiaaGreatBlk
import Derived.Test.YteihedfmmiihiaaGreatBytes
import Derived.Test.YteihedfmmiihiaaGreatProg
import Derived.WalkSpells
import Derived.Deep.Cut
import Derived.Deep.RegionLaw
import Derived.Deep.RegionHeld3
namespace Go.Proofs.YteihedfmmiihiaaGreat
open Go.RowKit

/-- a file's bytes: nil, or the head of a row of bytes -/
def FileB (Xs : Nat → Prop) (w : World) (v : Value) (l : List UInt8) : Prop :=
  (v = .slice none 0 0 ∧ l = []) ∨ ∃ g cap cur, v = .slice (some ⟨g, 0, none⟩) l.length cap ∧ w.heap[g]? = some (.cells cur 5 (0, 0)) ∧ l.length ≤ cap ∧ cap ≤ maxLen ∧ cur.toList.take l.length = Cd.bytesV l ∧ ¬ Xs g
section
variable {Xs : Nat → Prop} {w w' : World} {v : Value} {l : List UInt8}
theorem FileB.nil (Xs : Nat → Prop) (w : World) : FileB Xs w (.slice none 0 0) [] := .inl ⟨rfl, rfl⟩
theorem FileB.of_own {base n : Nat} (h : w.ownsRow base 5 1 v n (Cd.bytesV l)) (hn : n = l.length) (hx : ∀ g, v.ownBlock = some g → ¬ Xs g) : FileB Xs w v l := by
  subst hn
  rcases h.2 with ⟨rfl, h0⟩ | ⟨g, cap, cur, rfl, _, h4, h5, h6, _, h8⟩
  · exact .inl ⟨rfl, List.eq_nil_of_length_eq_zero h0⟩
  · exact .inr ⟨g, cap, cur, rfl, h4, h5, h6, by simpa using h8, hx g rfl⟩
theorem FileB.turns {S : Nat → Prop} (h : FileB Xs w v l) (k : Turns S w w') (hn : ∀ g, v.ownBlock = some g → ¬ S g) : FileB Xs w' v l := by
  rcases h with h | ⟨g, cap, cur, rfl, h4, h5⟩
  · exact .inl h
  · exact .inr ⟨g, cap, cur, rfl, (k.block g (Array.getElem?_eq_some_iff.1 h4).1 (hn g rfl)).trans h4, h5⟩
theorem FileB.below (h : FileB Xs w v l) (k : Below w.heap.size w w') : FileB Xs w' v l := h.turns (.of_below (S := fun _ => False) k) (fun _ _ => id)
theorem FileB.lt (h : FileB Xs w v l) {g : Nat} (hg : v.ownBlock = some g) : g < w.heap.size ∧ (∃ cur, w.heap[g]? = some (.cells cur 5 (0, 0))) ∧ ¬ Xs g := by
  rcases h with ⟨rfl, _⟩ | ⟨g', cap, cur, rfl, h4, _, _, _, h5⟩
  · simp [Value.ownBlock] at hg
  · simp [Value.ownBlock] at hg
    subst hg
    exact ⟨(Array.getElem?_eq_some_iff.1 h4).1, ⟨cur, h4⟩, h5⟩
theorem FileB.ne_blk {t : TypeId} {cs : List Value} {r g : Nat} (h : FileB Xs w v l) (hg : v.ownBlock = some g) (hb : Blk w r t cs) (hne : 5 ≠ t) : g ≠ r := by
  rintro rfl
  obtain ⟨_, ⟨cur, h4⟩, _⟩ := h.lt hg
  unfold Blk at hb
  rw [h4] at hb
  injection hb with hb
  injection hb with _ hb _
  exact hne hb
theorem FileB.ne_map {r g k : Nat} {K : Type} {kv : K → Value} {m : K → Option Value} (h : FileB Xs w v l) (hg : v.ownBlock = some g) (hb : MapIs kv w r m k) : g ≠ r := by
  rintro rfl
  obtain ⟨_, ⟨cur, h4⟩, _⟩ := h.lt hg
  exact hb.ne_cells h4 rfl
theorem FileB.form (h : FileB Xs w v l) : ∃ A cap, v = .slice A l.length cap ∧ (A = none → l.length = 0 ∧ cap = 0) ∧ l.length ≤ cap ∧ cap ≤ maxLen := by
  rcases h with ⟨rfl, rfl⟩ | ⟨g, cap, cur, rfl, h4, h5, h6, h7⟩
  · exact ⟨none, 0, rfl, fun _ => ⟨rfl, rfl⟩, Nat.le_refl _, Nat.zero_le _⟩
  · exact ⟨_, cap, rfl, (fun e => by cases e), h5, h6⟩
theorem FileB.bs {A : Option Addr} {n cap : Nat} (h : FileB Xs w (.slice A n cap) l) : Bs w A n l := by
  rcases h with ⟨hv, rfl⟩ | ⟨g, cap', cur, hv, h4, h5, h6, h7, hxs⟩
  · injection hv with h1 h2 h3
    subst h1 h2 h3
    exact Bs.nil w
  · injection hv with h1 h2 h3
    subst h1 h2 h3
    refine ⟨rfl, by omega, fun i hi => ⟨_, rfl, (Array.getElem?_eq_some_iff.1 h4).1, ?_⟩⟩
    have e : (⟨g, 0, none⟩ : Addr).add i = ⟨g, i, none⟩ := by simp [Addr.add]; omega
    rw [e, cell_of_row w g i _ _ _ h4]
    have h8 : (cur.toList.take l.length)[i]? = (Cd.bytesV l)[i]? := by rw [h7]
    rw [List.getElem?_take, if_pos hi] at h8
    rw [← Array.getElem?_toList, h8]
    simp [Cd.bytesV, Cd.byteV, hi]
theorem FileB.cut {A : Option Addr} {n cap : Nat} (h : FileB Xs w (.slice A n cap) l) (k : Nat) (hk : k ≤ l.length) : FileB Xs w (.slice A k cap) (l.take k) := by
  rcases h with ⟨hv, rfl⟩ | ⟨g, cap', cur, hv, h4, h5, h6, h7, hxs⟩
  · injection hv with h1 h2 h3
    subst h1 h2 h3
    have : k = 0 := by simpa using hk
    subst this
    exact .inl ⟨rfl, rfl⟩
  · injection hv with h1 h2 h3
    subst h1 h2 h3
    have hl : (l.take k).length = k := by simp; omega
    refine .inr ⟨g, cap, cur, by rw [hl], h4, by omega, h6, ?_⟩
    rw [hl]
    have := congrArg (List.take k) h7
    rw [List.take_take, Nat.min_eq_left hk] at this
    rw [this]
    exact ⟨by simp [Cd.bytesV, List.map_take], hxs⟩
theorem FileB.clip {A : Option Addr} {n cap : Nat} (h : FileB Xs w (.slice A n cap) l) : FileB Xs w (.slice A n n) l := by
  rcases h with ⟨hv, rfl⟩ | ⟨g, cap', cur, hv, h4, h5, h6, h7, hxs⟩
  · injection hv with h1 h2 h3
    subst h1 h2 h3
    exact .inl ⟨rfl, rfl⟩
  · injection hv with h1 h2 h3
    subst h1 h2 h3
    exact .inr ⟨g, l.length, cur, rfl, h4, Nat.le_refl _, by omega, h7, hxs⟩
end

theorem own_ge {w : World} {base e size n g : Nat} {v : Value} {xs : List Value} (h : w.ownsRow base e size v n xs) (hg : v.ownBlock = some g) : base ≤ g := by
  rcases h.2 with ⟨rfl, _⟩ | ⟨g', cap, cur, rfl, h3, h4, _⟩
  · simp [Value.ownBlock] at hg
  · simp [Value.ownBlock] at hg
    subst hg
    exact h3

/-- a file: its bytes, how many of them last -/
abbrev Fd := List UInt8 × Nat
abbrev Fs := ByteArray → Option Fd
def fileV (v : Value) (n : Nat) : Value := .agg #[v, .int .i64 (n : Int)]
/-- a map's values are these files -/
def Files (Xs : Nat → Prop) (w : World) (p : Fs) (mv : ByteArray → Option Value) : Prop :=
  ∀ k, (p k = none ∧ mv k = none) ∨ ∃ l n v, p k = some (l, n) ∧ mv k = some (fileV v n) ∧ FileB Xs w v l ∧ n ≤ l.length
def pl (p : Fs) (k : ByteArray) : Fd := (p k).getD ([], 0)
/-- all files are short -/
def Short (p : Fs) (L : Nat) : Prop := ∀ k, (pl p k).1.length ≤ L
def upd (p : Fs) (k : ByteArray) (x : Fd) : Fs := fun k' => if k' = k then some x else p k'
def wip (p : Fs) (k : ByteArray) : Fs := fun k' => if k' = k then none else p k'
theorem Files.get {Xs : Nat → Prop} {w : World} {p : Fs} {mv : ByteArray → Option Value} (h : Files Xs w p mv) (k : ByteArray) : (mv k).isSome = (p k).isSome ∧ ∃ v, (mv k).getD (fileV (.slice none 0 0) 0) = fileV v (pl p k).2 ∧ FileB Xs w v (pl p k).1 ∧ (pl p k).2 ≤ (pl p k).1.length := by
  rcases h k with ⟨h1, h2⟩ | ⟨l, n, v, h1, h2, h3, h4⟩
  · simp only [pl, h1, h2]
    exact ⟨rfl, _, rfl, .nil _ _, Nat.le_refl _⟩
  · simp only [pl, h1, h2]
    exact ⟨rfl, v, rfl, h3, h4⟩
theorem Files.turns {Xs S : Nat → Prop} {w w' : World} {p : Fs} {mv : ByteArray → Option Value} (h : Files Xs w p mv) (k : Turns S w w') (hn : ∀ g cur, w.heap[g]? = some (.cells cur 5 (0, 0)) → ¬ Xs g → ¬ S g) : Files Xs w' p mv := by
  intro x
  rcases h x with h1 | ⟨l, n, v, h1, h2, h3, h4⟩
  · exact .inl h1
  · exact .inr ⟨l, n, v, h1, h2, h3.turns k (fun g hg => by obtain ⟨_, ⟨cur, e⟩, hx⟩ := h3.lt hg; exact hn g cur e hx), h4⟩
theorem Files.upd {Xs : Nat → Prop} {w : World} {p : Fs} {mv : ByteArray → Option Value} (h : Files Xs w p mv) (k : ByteArray) (v : Value) (l : List UInt8) (n : Nat) (hv : FileB Xs w v l) (hn : n ≤ l.length) : Files Xs w (upd p k (l, n)) (fun k' => if k' = k then some (fileV v n) else mv k') := by
  intro x
  unfold Go.Proofs.YteihedfmmiihiaaGreat.upd
  by_cases e : x = k
  · exact .inr ⟨l, n, v, by simp [e], by simp [e], hv, hn⟩
  · simp only [if_neg e]
    exact h x
theorem Files.wip {Xs : Nat → Prop} {w : World} {p : Fs} {mv : ByteArray → Option Value} (h : Files Xs w p mv) (k : ByteArray) : Files Xs w (wip p k) (fun k' => if k' = k then none else mv k') := by
  intro x
  unfold Go.Proofs.YteihedfmmiihiaaGreat.wip
  by_cases e : x = k
  · exact .inl ⟨by simp [e], by simp [e]⟩
  · simp only [if_neg e]
    exact h x

/-- a disk: at block d, its map at F -/
structure DS (Xs : Nat → Prop) (w : World) (d F : Nat) (off : Bool) (fuse : Int) (p : Fs) (N : Nat) : Prop where
  blk : Blk w d 48 [.map (some F), .bool off, .int .i64 fuse]
  files : ∃ mv n, n ≤ N ∧ MapIs kStr w F mv n ∧ Files Xs w p mv
  fu : -1 ≤ fuse ∧ fuse ≤ 9223372036854775807
def DSet (d F : Nat) : Nat → Prop := fun i => i = d ∨ i = F
section
variable {Xs : Nat → Prop} {w w' : World} {d F N : Nat} {off : Bool} {fuse : Int} {p : Fs}
theorem DS.keep {S : Nat → Prop} (h : DS Xs w d F off fuse p N) (k : Turns S w w') (h1 : ¬ S d) (h2 : ¬ S F) (hn : ∀ g cur, w.heap[g]? = some (.cells cur 5 (0, 0)) → ¬ Xs g → ¬ S g) : DS Xs w' d F off fuse p N := by
  obtain ⟨mv, n, hN, hm, hf⟩ := h.files
  exact ⟨h.blk.turns k h1, ⟨mv, n, hN, hm.turns k h2, hf.turns k hn⟩, h.fu⟩
theorem DS.bel (h : DS Xs w d F off fuse p N) (k : Below w.heap.size w w') : DS Xs w' d F off fuse p N := h.keep (.of_below (S := fun _ => False) k) id id (fun _ _ _ _ => id)
theorem DS.lts (h : DS Xs w d F off fuse p N) : d < w.heap.size ∧ F < w.heap.size := by
  obtain ⟨mv, n, hN, hm, hf⟩ := h.files
  exact ⟨h.blk.lt, hm.lt⟩
theorem DS.ne (h : DS Xs w d F off fuse p N) : F ≠ d := by
  obtain ⟨mv, n, hN, hm, hf⟩ := h.files
  exact hm.ne_cells h.blk
theorem DS.wide (h : DS Xs w d F off fuse p N) {M : Nat} (hM : N ≤ M) : DS Xs w d F off fuse p M := by
  obtain ⟨mv, n, hN, hm, hf⟩ := h.files
  exact ⟨h.blk, ⟨mv, n, by omega, hm, hf⟩, h.fu⟩
/-- what turns another disk leaves this one -/
theorem DS.other {Ys : Nat → Prop} {d2 F2 N2 : Nat} {off2 : Bool} {fuse2 : Int} {p2 : Fs} (h : DS Xs w d F off fuse p N) (h2 : DS Ys w d2 F2 off2 fuse2 p2 N2) (k : Turns (DSet d2 F2) w w') (hd : d ≠ d2) (hF : F ≠ F2) : DS Xs w' d F off fuse p N := by
  obtain ⟨mv2, n2, _, hm2, _⟩ := h2.files
  obtain ⟨mv, n, _, hm, _⟩ := h.files
  refine h.keep k (fun e => ?_) (fun e => ?_) (fun g cur hg _ e => ?_)
  · rcases e with e | e
    · exact hd e
    · exact hm2.ne_cells h.blk e.symm
  · rcases e with e | e
    · exact hm.ne_cells h2.blk e
    · exact hF e
  · rcases e with rfl | rfl
    · have := h2.blk
      unfold Blk at this
      rw [hg] at this
      injection this with this
      injection this with _ this _
      exact absurd this (by decide)
    · exact hm2.ne_cells hg rfl
theorem DS.cells (h : DS Xs w d F off fuse p N) : w.cell? ⟨d, 0, none⟩ = some (.map (some F)) ∧ w.cell? ⟨d, 1, none⟩ = some (.bool off) ∧ w.cell? ⟨d, 2, none⟩ = some (.int .i64 fuse) :=
  ⟨h.blk.cell 0, h.blk.cell 1, h.blk.cell 2⟩
/-- what happens to the map's files, the disk's own block staying -/
theorem DS.put {S : Nat → Prop} (h : DS Xs w d F off fuse p N) {M : Nat} {p' : Fs} (k : Turns S w w') (h1 : ¬ S d) (hf : ∃ mv n, n ≤ M ∧ MapIs kStr w' F mv n ∧ Files Xs w' p' mv) : DS Xs w' d F off fuse p' M := ⟨h.blk.turns k h1, hf, h.fu⟩
/-- another set of blocks that files avoid -/
theorem DS.avoid {Ys : Nat → Prop} (h : DS Xs w d F off fuse p N) (hy : ∀ i, i < w.heap.size → Ys i → Xs i) : DS Ys w d F off fuse p N := by
  obtain ⟨mv, n, hN, hm, hf⟩ := h.files
  refine ⟨h.blk, ⟨mv, n, hN, hm, fun x => ?_⟩, h.fu⟩
  rcases hf x with h1 | ⟨l, n, v, h1, h2, h3, h4⟩
  · exact .inl h1
  · refine .inr ⟨l, n, v, h1, h2, ?_, h4⟩
    rcases h3 with h3 | ⟨g, cap, cur, e, h5, h6, h7, h8, h9⟩
    · exact .inl h3
    · exact .inr ⟨g, cap, cur, e, h5, h6, h7, h8, fun hg => h9 (hy g (Array.getElem?_eq_some_iff.1 h5).1 hg)⟩
/-- switch and fuse -/
theorem DS.set (h : DS Xs w d F off fuse p N) (off2 : Bool) (fuse2 : Int) (hb : Blk w' d 48 [.map (some F), .bool off2, .int .i64 fuse2]) (k : Turns (fun i => i = d) w w') (hf : -1 ≤ fuse2 ∧ fuse2 ≤ 9223372036854775807) : DS Xs w' d F off2 fuse2 p N := by
  obtain ⟨mv, n, hN, hm, hfs⟩ := h.files
  refine ⟨hb, ⟨mv, n, hN, hm.turns k h.ne, hfs.turns k (fun g cur hg _ e => ?_)⟩, hf⟩
  subst e
  have := h.blk
  unfold Blk at this
  rw [hg] at this
  injection this with this
  injection this with _ this _
  exact absurd this (by decide)
end
theorem Short.nil : Short (fun _ => none) 0 := fun _ => Nat.le_refl _
end Go.Proofs.YteihedfmmiihiaaGreat

namespace Go.Proofs.YteihedfmmiihiaaGreat
open Go.RowKit
variable {Xs : Nat → Prop}

set_option maxRecDepth 20000 in
theorem newD (w : World) : Calls Tryz.prog 25 #[] w fun e w' => e = .returned (.pointer (some ⟨w.heap.size + 1, 0, none⟩)) ∧ DS Xs w' (w.heap.size + 1) w.heap.size false (-1) (fun _ => none) 0 ∧ Below w.heap.size w w' := by
  have hmm := @run_makeMap Tryz.prog
  go_enter Tryz.func25, Tryz.ntmps25
  go_wp2_with fail
  go_ret
  refine ⟨rfl, ⟨Blk.new2 w _ 48 [.map (some w.heap.size), .bool false, .int .i64 (-1)], ⟨fun _ => none, 0, Nat.le_refl _, (MapIs.empty kStr w).alloc _, fun k => .inl ⟨rfl, rfl⟩⟩, by omega⟩, Below.new2 w _ _⟩
theorem made_nil (w : World) : Calls Tryz.prog 45 #[.pointer none] w fun e w' => e = .returned (.bool false) ∧ w' = w := by
  go_enter Tryz.func45, Tryz.ntmps45
  go_wp2_with fail
  go_ret
  exact ⟨rfl, rfl⟩
theorem made_is (w : World) (d : Nat) (m : Option Nat) (hc : w.cell? ⟨d, 0, none⟩ = some (.map m)) : Calls Tryz.prog 45 #[.pointer (some ⟨d, 0, none⟩)] w fun e w' => e = .returned (.bool m.isSome) ∧ w' = w := by
  have hq := fun w => run_neq_map_nil (P := Tryz.prog) w 46 _ _ m Tryz.underlying46
  go_enter Tryz.func45, Tryz.ntmps45
  go_wp2_with fail
  go_ret
  exact ⟨by cases m <;> rfl, rfl⟩
/-- a disk that nobody made: nil, or its map is nil -/
def NoDisk (w : World) (a : Option Addr) : Prop := a = none ∨ ∃ d, a = some ⟨d, 0, none⟩ ∧ Blk w d 48 [.map none, .bool false, .int .i64 0]
theorem NoDisk.bel {w w' : World} {a : Option Addr} (h : NoDisk w a) (k : Below w.heap.size w w') : NoDisk w' a := by
  rcases h with h | ⟨d, h, hb⟩
  · exact .inl h
  · exact .inr ⟨d, h, hb.bel k⟩
theorem made_no (w : World) (a : Option Addr) (h : NoDisk w a) : Calls Tryz.prog 45 #[.pointer a] w fun e w' => e = .returned (.bool false) ∧ w' = w := by
  rcases h with rfl | ⟨d, rfl, hb⟩
  · exact made_nil w
  · exact made_is w d none (hb.cell 0)
theorem goes_no (w : World) (a : Option Addr) (h : NoDisk w a) : Calls Tryz.prog 41 #[.pointer a] w fun e w' => e = .returned (.int .i64 1) ∧ w' = w := by
  have HM := Lib.hid (made_no w a h)
  clear h
  go_enter Tryz.func41, Tryz.ntmps41
  go_wp2_with (go_at_call 45; refine HM.out.mono ?_; rintro e w' ⟨rfl, rfl⟩)
  go_ret
  exact ⟨rfl, rfl⟩
def goC (off : Bool) : Int := if off then 250 else 0
theorem goesD (w : World) (d F N : Nat) (off : Bool) (fuse : Int) (p : Fs) (h : DS Xs w d F off fuse p N) : Calls Tryz.prog 41 #[.pointer (some ⟨d, 0, none⟩)] w fun e w' => e = .returned (.int .i64 (goC off)) ∧ w' = w := by
  obtain ⟨c0, c1, _⟩ := h.cells
  have HM := Lib.hid (made_is w d (some F) c0)
  simp only [Option.isSome_some] at HM
  clear h c0
  cases off
  all_goals
    go_enter Tryz.func41, Tryz.ntmps41
    go_wp2_with (go_at_call 45; refine HM.out.mono ?_; rintro e w' ⟨rfl, rfl⟩)
    go_ret
    exact ⟨rfl, rfl⟩
theorem offD (w : World) (d F N : Nat) (off : Bool) (fuse : Int) (p : Fs) (h : DS Xs w d F off fuse p N) : Calls Tryz.prog 27 #[.pointer (some ⟨d, 0, none⟩)] w fun e w' => e = .returned (.bool off) ∧ w' = w := by
  obtain ⟨c0, c1, _⟩ := h.cells
  clear h c0
  go_enter Tryz.func27, Tryz.ntmps27
  go_wp2_with fail
  go_ret
  exact ⟨rfl, rfl⟩
theorem off_no (w : World) (a : Option Addr) (h : NoDisk w a) : Calls Tryz.prog 27 #[.pointer a] w fun e w' => e = .returned (.bool false) ∧ w' = w := by
  rcases h with rfl | ⟨d, rfl, hb⟩
  · go_enter Tryz.func27, Tryz.ntmps27
    go_wp2_with fail
    go_ret
    exact ⟨rfl, rfl⟩
  · have c1 := hb.cell 1
    simp only [List.getElem?_cons_succ, List.getElem?_cons_zero] at c1
    clear hb
    go_enter Tryz.func27, Tryz.ntmps27
    go_wp2_with fail
    go_ret
    exact ⟨rfl, rfl⟩
theorem zeroFileE (w : World) : (zeroValue 80).run Tryz.prog w = .ok (fileV (.slice none 0 0) 0) w := by kernel_rfl
theorem DS.look0 {w : World} {F n : Nat} {p : Fs} {mv : ByteArray → Option Value} (hm : MapIs kStr w F mv n) (hf : Files Xs w p mv) (k : ByteArray) :
    ∃ v, FileB Xs w v (pl p k).1 ∧ (pl p k).2 ≤ (pl p k).1.length ∧ ∀ w', Below w.heap.size w w' → (Instr.lookup 46 (.map (some F)) (.string k) true).run Tryz.prog w' = .ok (.tuple #[fileV v (pl p k).2, .bool (p k).isSome]) w' ∧
      (Instr.lookup 46 (.map (some F)) (.string k) false).run Tryz.prog w' = .ok (fileV v (pl p k).2) w' := by
  obtain ⟨h1, v, h2, h3, h4⟩ := hf.get k
  refine ⟨v, h3, h4, fun w' hb => ?_⟩
  have l1 := MapIs.lookup (t := 46) (e := 80) (hm.below hb) (str_keys Tryz.underlying9) Tryz.underlying46 (zeroFileE _) k true
  have l2 := MapIs.lookup (t := 46) (e := 80) (hm.below hb) (str_keys Tryz.underlying9) Tryz.underlying46 (zeroFileE _) k false
  rw [h1, h2] at l1
  rw [h2] at l2
  exact ⟨l1, l2⟩
theorem DS.look {w : World} {d F N : Nat} {off : Bool} {fuse : Int} {p : Fs} (h : DS Xs w d F off fuse p N) (k : ByteArray) :
    ∃ v, FileB Xs w v (pl p k).1 ∧ (pl p k).2 ≤ (pl p k).1.length ∧ (Instr.lookup 46 (.map (some F)) (.string k) true).run Tryz.prog w = .ok (.tuple #[fileV v (pl p k).2, .bool (p k).isSome]) w ∧
      (Instr.lookup 46 (.map (some F)) (.string k) false).run Tryz.prog w = .ok (fileV v (pl p k).2) w := by
  obtain ⟨mv, n, hN, hm, hf⟩ := h.files
  obtain ⟨v, h3, h4, hl⟩ := DS.look0 hm hf k
  obtain ⟨l1, l2⟩ := hl w (Below.refl _ _)
  exact ⟨v, h3, h4, l1, l2⟩
def thC (off : Bool) (is : Bool) : Int := if off then 250 else if is then 0 else 5
theorem there_no (w : World) (a : Option Addr) (h : NoDisk w a) (k : ByteArray) : Calls Tryz.prog 48 #[.pointer a, .string k] w fun e w' => e = .returned (.int .i64 1) ∧ w' = w := by
  have HM := Lib.hid (goes_no w a h)
  clear h
  go_enter Tryz.func48, Tryz.ntmps48
  go_wp2_with (go_at_call 41; refine HM.out.mono ?_; rintro e w' ⟨rfl, rfl⟩)
  go_ret
  exact ⟨rfl, rfl⟩
set_option maxRecDepth 20000 in
theorem thereD (w : World) (d F N : Nat) (off : Bool) (fuse : Int) (p : Fs) (h : DS Xs w d F off fuse p N) (k : ByteArray) : Calls Tryz.prog 48 #[.pointer (some ⟨d, 0, none⟩), .string k] w fun e w' => e = .returned (.int .i64 (thC off (p k).isSome)) ∧ Below w.heap.size w w' := by
  have HM := Lib.hid (goesD w d F N off fuse p h)
  obtain ⟨c0, _, _⟩ := h.cells
  obtain ⟨v, hv, _, hl, _⟩ := h.look k
  unfold fileV at hl
  obtain ⟨A, cap, rfl, _, hc1, hc2⟩ := hv.form
  generalize (p k).isSome = b at *
  clear h hv
  cases off
  · cases b
    all_goals
      unfold goC at HM
      simp only [if_false, Bool.false_eq_true] at HM
      go_enter Tryz.func48, Tryz.ntmps48
      go_wp2_with (go_at_call 41; refine HM.out.mono ?_; rintro e w' ⟨rfl, rfl⟩)
      go_ret
      exact ⟨rfl, Below.new _ _⟩
  · unfold goC at HM
    simp only [if_true] at HM
    clear hl c0
    go_enter Tryz.func48, Tryz.ntmps48
    go_wp2_with (go_at_call 41; refine HM.out.mono ?_; rintro e w' ⟨rfl, rfl⟩)
    go_ret
    exact ⟨rfl, Below.refl _ _⟩
set_option maxRecDepth 20000 in
theorem waitsD (w : World) (d F N : Nat) (off : Bool) (fuse : Int) (p : Fs) (h : DS Xs w d F off fuse p N) (k : ByteArray) : Calls Tryz.prog 37 #[.pointer (some ⟨d, 0, none⟩), .string k] w fun e w' => e = .returned (.int .i64 (((pl p k).1.length : Int) - ((pl p k).2 : Int))) ∧ Below w.heap.size w w' := by
  obtain ⟨c0, _, _⟩ := h.cells
  have HM := Lib.hid (made_is w d (some F) c0)
  simp only [Option.isSome_some] at HM
  obtain ⟨v, hv, hn, _, hl⟩ := h.look k
  unfold fileV at hl
  obtain ⟨A, cap, rfl, _, hc1, hc2⟩ := hv.form
  generalize (pl p k).1.length = n at *
  generalize (pl p k).2 = m at *
  unfold maxLen at hc2
  clear h hv
  go_enter Tryz.func37, Tryz.ntmps37
  go_wp2_with (go_at_call 45; refine HM.out.mono ?_; rintro e w' ⟨rfl, rfl⟩)
  go_ret
  exact ⟨rfl, Below.new _ _⟩
theorem waits_no (w : World) (a : Option Addr) (h : NoDisk w a) (k : ByteArray) : Calls Tryz.prog 37 #[.pointer a, .string k] w fun e w' => e = .returned (.int .i64 0) ∧ w' = w := by
  have HM := Lib.hid (made_no w a h)
  clear h
  go_enter Tryz.func37, Tryz.ntmps37
  go_wp2_with (go_at_call 45; refine HM.out.mono ?_; rintro e w' ⟨rfl, rfl⟩)
  go_ret
  exact ⟨rfl, rfl⟩
theorem fuse_no (w : World) (a : Option Addr) (h : NoDisk w a) (n : Int) : Calls Tryz.prog 18 #[.pointer a, .int .i64 n] w fun e w' => e = .returned (.int .i64 1) ∧ w' = w := by
  have HM := Lib.hid (goes_no w a h)
  clear h
  go_enter Tryz.func18, Tryz.ntmps18
  go_wp2_with (go_at_call 41; refine HM.out.mono ?_; rintro e w' ⟨rfl, rfl⟩)
  go_ret
  exact ⟨rfl, rfl⟩
/-- Fuse -/
def fuC (off : Bool) (n : Int) : Int := if off then 250 else if n < 0 then 1 else 0
def fuN (off : Bool) (fuse n : Int) : Int := if off then fuse else if n < 0 then fuse else n
theorem fuseD (w : World) (d F N : Nat) (off : Bool) (fuse : Int) (p : Fs) (h : DS Xs w d F off fuse p N) (n : Int) (hn : n ≤ 9223372036854775807) : Calls Tryz.prog 18 #[.pointer (some ⟨d, 0, none⟩), .int .i64 n] w fun e w' => e = .returned (.int .i64 (fuC off n)) ∧ DS Xs w' d F off (fuN off fuse n) p N ∧ Turns (DSet d F) w w' := by
  have HM := Lib.hid (goesD w d F N off fuse p h)
  have HH := Lib.hid h
  obtain ⟨_, _, c2⟩ := h.cells
  have z2 := h.blk.fz 2
  have hbl := h.blk.lt
  clear h
  cases off
  · unfold goC at HM
    simp only [if_false, Bool.false_eq_true] at HM
    by_cases hn0 : n < 0
    · go_enter Tryz.func18, Tryz.ntmps18
      go_wp2_with (go_at_call 41; refine HM.out.mono ?_; rintro e w' ⟨rfl, rfl⟩)
      go_ret
      refine ⟨by simp [fuC, hn0], ?_, Turns.refl _ _⟩
      rw [show fuN false fuse n = fuse from (if_neg (by decide)).trans (if_pos hn0)]
      exact HH.out
    · go_enter Tryz.func18, Tryz.ntmps18
      go_wp2_with (go_at_call 41; refine HM.out.mono ?_; rintro e w' ⟨rfl, rfl⟩)
      go_ret
      rw [show fuN false fuse n = n from (if_neg (by decide)).trans (if_neg (by omega))]
      rw [show fuC false n = 0 from (if_neg (by decide)).trans (if_neg (by omega))]
      exact ⟨rfl, HH.out.set false n (HH.out.blk.set 2 (.int .i64 n)) (.of_set w' ⟨d, 2, none⟩ _ rfl) (by omega), .of_set w' ⟨d, 2, none⟩ _ (.inl rfl)⟩
  · unfold goC at HM
    simp only [if_true] at HM
    go_enter Tryz.func18, Tryz.ntmps18
    go_wp2_with (go_at_call 41; refine HM.out.mono ?_; rintro e w' ⟨rfl, rfl⟩)
    go_ret
    exact ⟨rfl, HH.out, Turns.refl _ _⟩
end Go.Proofs.YteihedfmmiihiaaGreat

namespace Go.Proofs.YteihedfmmiihiaaGreat
open Go.RowKit
variable {Xs : Nat → Prop}

/-- the power fails at the change, and it is not done -/
theorem change_down (w : World) (d F N : Nat) (off : Bool) (p : Fs) (h : DS Xs w d F off 0 p N) (f : Value) :
    Calls Tryz.prog 42 #[.pointer (some ⟨d, 0, none⟩), .bool false, f] w fun e w' => e = .returned (.int .i64 250) ∧ DS Xs w' d F true (-1) p N ∧ Turns (DSet d F) w w' := by
  have HH := Lib.hid h
  obtain ⟨_, _, c2⟩ := h.cells
  have hbl := h.blk.lt
  have z := h.blk.fz
  clear h
  go_enter Tryz.func42, Tryz.ntmps42
  go_wp2_with fail
  go_ret
  exact ⟨rfl, HH.out.set true (-1) ((HH.out.blk.set 2 (.int .i64 (-1))).set 1 (.bool true)) ((Turns.of_set (S := fun i => i = d) w ⟨d, 2, none⟩ _ rfl).set ⟨d, 1, none⟩ _ (fun _ => rfl)) (by omega), (Turns.of_set (S := DSet d F) w ⟨d, 2, none⟩ _ (.inl rfl)).set ⟨d, 1, none⟩ _ (fun _ => .inl rfl)⟩
def Enters (g : FuncId) (caps : Array Value) : Prop := ∀ w, (callFunc g caps).run Tryz.prog w = .ok (.enter g caps) w
/-- the power fails at it, and it is done all the same -/
theorem change_late (w : World) (d F N : Nat) (off : Bool) (p : Fs) (h : DS Xs w d F off 0 p N) (g : FuncId) (caps : Array Value) (hg : Enters g caps) (R : World → Prop)
    (hdo : ∀ w1, DS Xs w1 d F true (-1) p N → Turns (DSet d F) w w1 → Calls Tryz.prog g caps w1 fun e w' => e = .returned (.tuple #[]) ∧ R w') :
    Calls Tryz.prog 42 #[.pointer (some ⟨d, 0, none⟩), .bool true, .func (.func g) #[] caps] w fun e w' => e = .returned (.int .i64 250) ∧ R w' := by
  have HH := Lib.hid h
  obtain ⟨_, _, c2⟩ := h.cells
  have hbl := h.blk.lt
  have z := h.blk.fz
  unfold Enters at hg
  clear h
  go_enter Tryz.func42, Tryz.ntmps42
  go_upto_region 4 with (fail)
  have h1 := HH.out.set true (-1) ((HH.out.blk.set 2 (.int .i64 (-1))).set 1 (.bool true)) ((Turns.of_set (S := fun i => i = d) w ⟨d, 2, none⟩ _ rfl).set ⟨d, 1, none⟩ _ (fun _ => rfl)) (by omega)
  have h2 := (Turns.of_set (S := DSet d F) w ⟨d, 2, none⟩ (.int .i64 (-1)) (.inl rfl)).set ⟨d, 1, none⟩ (.bool true) (fun _ => .inl rfl)
  have HC := Lib.hid (hdo _ h1 h2)
  clear hdo h1 h2
  go_wp2_with fail
  refine HC.out.mono ?_
  rintro e w' ⟨rfl, hR⟩
  go_wp2_with fail
  go_ret
  exact ⟨rfl, hR⟩
/-- it is done; the fuse is shorter -/
def lessF (fuse : Int) : Int := if 0 < fuse then fuse - 1 else fuse
theorem change_go (w : World) (d F N : Nat) (off : Bool) (fuse : Int) (hf : fuse ≠ 0) (p : Fs) (h : DS Xs w d F off fuse p N) (late : Bool) (g : FuncId) (caps : Array Value) (hg : Enters g caps) (R : World → Prop)
    (hdo : ∀ w1, DS Xs w1 d F off (lessF fuse) p N → Turns (DSet d F) w w1 → Calls Tryz.prog g caps w1 fun e w' => e = .returned (.tuple #[]) ∧ R w') :
    Calls Tryz.prog 42 #[.pointer (some ⟨d, 0, none⟩), .bool late, .func (.func g) #[] caps] w fun e w' => e = .returned (.int .i64 0) ∧ R w' := by
  have HH := Lib.hid h
  obtain ⟨_, _, c2⟩ := h.cells
  have hbl := h.blk.lt
  have z := h.blk.fz 2
  have hfu := h.fu
  unfold Enters at hg
  clear h
  by_cases h0 : 0 < fuse
  · have hl : lessF fuse = fuse - 1 := if_pos h0
    rw [hl] at hdo
    have h1 := HH.out.set off (fuse - 1) (HH.out.blk.set 2 (.int .i64 (fuse - 1))) (Turns.of_set (S := fun i => i = d) w ⟨d, 2, none⟩ _ rfl) (by omega)
    have h2 := Turns.of_set (S := DSet d F) w ⟨d, 2, none⟩ (.int .i64 (fuse - 1)) (.inl rfl)
    have HC := Lib.hid (hdo _ h1 h2)
    clear hdo h1 h2 hl
    go_enter Tryz.func42, Tryz.ntmps42
    go_wp2_with fail
    refine HC.out.mono ?_
    rintro e w' ⟨rfl, hR⟩
    go_wp2_with fail
    go_ret
    exact ⟨rfl, hR⟩
  · have hl : lessF fuse = fuse := if_neg h0
    rw [hl] at hdo
    have HC := Lib.hid (hdo _ HH.out (Turns.refl _ _))
    clear hdo hl
    go_enter Tryz.func42, Tryz.ntmps42
    go_wp2_with fail
    refine HC.out.mono ?_
    rintro e w' ⟨rfl, hR⟩
    go_wp2_with fail
    go_ret
    exact ⟨rfl, hR⟩
end Go.Proofs.YteihedfmmiihiaaGreat

namespace Go.Proofs.YteihedfmmiihiaaGreat
open Go.RowKit
variable {Xs : Nat → Prop}

/-- a change's boxes: the disk, a name -/
structure Box2 (w : World) (b n d : Nat) (k : ByteArray) : Prop where
  b0 : w.cell? ⟨b, 0, none⟩ = some (.pointer (some ⟨d, 0, none⟩))
  n0 : w.cell? ⟨n, 0, none⟩ = some (.string k)
theorem Box2.turns {S : Nat → Prop} {w w' : World} {b n d : Nat} {k : ByteArray} (h : Box2 w b n d k) (t : Turns S w w') (h1 : ¬ S b) (h2 : ¬ S n) : Box2 w' b n d k :=
  ⟨(t.cell (p := ⟨b, 0, none⟩) (World.block_lt_of_cell? w _ h.b0) h1).trans h.b0, (t.cell (p := ⟨n, 0, none⟩) (World.block_lt_of_cell? w _ h.n0) h2).trans h.n0⟩
theorem Box2.bel {w w' : World} {b n d : Nat} {k : ByteArray} (h : Box2 w b n d k) (t : Below w.heap.size w w') : Box2 w' b n d k := h.turns (.of_below (S := fun _ => False) t) id id
/-- the files after a change at one name -/
theorem dsWip {w w' : World} {d F N n n' : Nat} {off : Bool} {fuse : Int} {p : Fs} {mv : ByteArray → Option Value} (h : DS Xs w d F off fuse p N) (hN : n ≤ N) (hm0 : MapIs kStr w F mv n) (hf : Files Xs w p mv) (k : ByteArray)
    (hm : MapIs kStr w' F (fun k' => if k' = k then none else mv k') n') (hn : n' ≤ n) (t : Turns (fun i => i = F) w w') : DS Xs w' d F off fuse (wip p k) N := by
  refine ⟨h.blk.turns t (fun e => h.ne e.symm), ⟨_, n', by omega, hm, Files.wip (hf.turns t (fun g cur hg _ e => ?_)) k⟩, h.fu⟩
  subst e
  exact hm0.ne_cells hg rfl
theorem dsUpd {w w' : World} {d F N n n' : Nat} {off : Bool} {fuse : Int} {p : Fs} {mv : ByteArray → Option Value} (h : DS Xs w d F off fuse p N) (hN : n ≤ N) (hm0 : MapIs kStr w F mv n) (hf : Files Xs w p mv) (k : ByteArray) (v : Value) (l : List UInt8) (m : Nat) (hv : FileB Xs w v l) (hl : m ≤ l.length)
    (hm : MapIs kStr w' F (fun k' => if k' = k then some (fileV v m) else mv k') n') (hn : n' = if (mv k).isSome then n else n + 1) (t : Turns (fun i => i = F) w w') : DS Xs w' d F off fuse (upd p k (l, m)) (if (p k).isSome then N else N + 1) := by
  have hb : ∀ g cur, w.heap[g]? = some (.cells cur 5 (0, 0)) → ¬ (fun i => i = F) g := fun g cur hg e => by
    subst e
    exact hm0.ne_cells hg rfl
  rw [(hf.get k).1] at hn
  refine ⟨h.blk.turns t (fun e => h.ne e.symm), ⟨_, n', ?_, hm, Files.upd (hf.turns t (fun g cur e _ => hb g cur e)) k v l m (hv.turns t (fun g hg => by obtain ⟨_, ⟨cur, e⟩, _⟩ := hv.lt hg; exact hb g cur e)) hl⟩, h.fu⟩
  split at hn
  · rename_i h1
    rw [if_pos h1]
    omega
  · rename_i h1
    rw [if_neg h1]
    omega
set_option maxRecDepth 20000 in
theorem rmDo (w : World) (b n d F N : Nat) (off : Bool) (fuse : Int) (p : Fs) (k : ByteArray) (h : DS Xs w d F off fuse p N) (hb : Box2 w b n d k) :
    Calls Tryz.prog 84 #[.pointer (some ⟨b, 0, none⟩), .pointer (some ⟨n, 0, none⟩)] w fun e w' => e = .returned (.tuple #[]) ∧ DS Xs w' d F off fuse (wip p k) N ∧ Turns (DSet d F) w w' := by
  obtain ⟨c0, _, _⟩ := h.cells
  obtain ⟨b0, n0⟩ := hb
  have HH := Lib.hid h
  obtain ⟨mv, n1, hN, hm, hf⟩ := h.files
  have HM := Lib.hid hm
  have HF := Lib.hid hf
  clear h hm hf
  go_enter Tryz.func84, Tryz.ntmps84
  refine wp_tail 5 (by kernel_rfl) (by kernel_rfl) ?_
  simp only [List.take_succ_cons, List.take_zero, List.drop_succ_cons, List.drop_zero]
  repeat still_step
  refine wpStill_nil ?_
  have hB := below_drewN' (Below.refl w.heap.size w) 1
  refine wpl_delete (w := w.drew) rfl _ _ 46 9 rfl (str_keys Tryz.underlying9) Tryz.underlying46 (HM.out.below hB) k rfl rfl ?_
  intro w3 hm3 ht3
  have HM3 := Lib.hid hm3
  have T3 := Lib.hid (((Turns.refl (fun i => i = F) w).drewN 1).then (.of_map (S := fun i => i = F) ht3 rfl))
  clear hm3 ht3
  go_wp2_with fail
  go_end0
  exact ⟨rfl, dsWip HH.out hN HM.out HF.out k HM3.out (by split <;> omega) T3.out, T3.out.mono (fun _ _ e => .inr e)⟩
set_option maxRecDepth 20000 in
theorem syDo (w : World) (b n d F N : Nat) (off : Bool) (fuse : Int) (p : Fs) (k : ByteArray) (h : DS Xs w d F off fuse p N) (hb : Box2 w b n d k) (hk : (p k).isSome = true) :
    Calls Tryz.prog 49 #[.pointer (some ⟨b, 0, none⟩), .pointer (some ⟨n, 0, none⟩)] w fun e w' => e = .returned (.tuple #[]) ∧ DS Xs w' d F off fuse (upd p k ((pl p k).1, (pl p k).1.length)) N ∧ Turns (DSet d F) w w' := by
  obtain ⟨c0, _, _⟩ := h.cells
  have hB2 := Lib.hid hb
  obtain ⟨b0, n0⟩ := hb
  have HH := Lib.hid h
  obtain ⟨mv, n1, hN, hm, hf⟩ := h.files
  have HM := Lib.hid hm
  have HF := Lib.hid hf
  obtain ⟨v, hv, hn, hlk⟩ := DS.look0 hm hf k
  obtain ⟨A, cap, rfl, _, hc1, hc2⟩ := hv.form
  have HL := Lib.hid hlk
  have l1 := (hlk w.drew (below_drewN' (Below.refl _ _) 1)).2
  have l2 := fun o => (hlk (w.alloc o).drew (below_drewN' (Below.new w o) 1)).2
  have l3 := fun o => (hlk (w.drew.alloc o) ((below_drewN' (Below.refl w.heap.size w) 1).alloc (Nat.le_refl _) o)).2
  have e0 := fun o => ((Below.new w o).cell (p := ⟨b, 0, none⟩) (World.block_lt_of_cell? w _ b0)).trans b0
  have e1 := fun o => ((Below.new w o).cell (p := ⟨n, 0, none⟩) (World.block_lt_of_cell? w _ n0)).trans n0
  have e2 := fun o => ((Below.new w o).cell (p := ⟨d, 0, none⟩) (World.block_lt_of_cell? w _ c0)).trans c0
  unfold fileV at l1 l2 l3
  clear h hm hf hlk
  go_enter Tryz.func49, Tryz.ntmps49
  go_wp2_with fail
  go_region
  have hB0 := below_drewN' (Below.new w (.cells #[.slice A (pl p k).1.length cap, .int .i64 ((pl p k).2 : Int)] 80)) 1
  have hwl := Lib.hid (show b < w.heap.size ∧ n < w.heap.size ∧ d < w.heap.size ∧ F < w.heap.size from ⟨World.block_lt_of_cell? w _ b0, World.block_lt_of_cell? w _ n0, World.block_lt_of_cell? w _ c0, HM.out.lt⟩)
  have BX : Hid (Below w.heap.size w (w.alloc (.cells #[.slice A (pl p k).1.length cap, .int .i64 ((pl p k).2 : Int)] 80)).drew) := Lib.hid hB0
  have KX : Hid (Blk (w.alloc (.cells #[.slice A (pl p k).1.length cap, .int .i64 ((pl p k).2 : Int)] 80)).drew w.heap.size 80 [.slice A (pl p k).1.length cap, .int .i64 ((pl p k).2 : Int)]) := Lib.hid ((Blk.new w 80 [.slice A (pl p k).1.length cap, .int .i64 ((pl p k).2 : Int)]).drewN 1)
  clear l1 l2 l3 e0 e1 e2 b0 n0 c0 hB0
  generalize (w.alloc (.cells #[.slice A (pl p k).1.length cap, .int .i64 ((pl p k).2 : Int)] 80)).drew = X at *
  generalize hg : w.heap.size = g at *
  have HG := Lib.hid hg
  clear hg
  have k0 := KX.out.cell 0
  have k1 := KX.out.cell 1
  have z1 := KX.out.fz 1
  have kl := KX.out.lt
  simp only [List.getElem?_cons_succ, List.getElem?_cons_zero] at k0 k1
  go_upto_region 2 with (fail)
  have TY := Lib.hid ((Turns.refl (fun i => i = g) X).set ⟨g, 1, none⟩ (.int .i64 ((pl p k).1.length : Int)) (fun _ => rfl))
  have KY := Lib.hid (KX.out.set 1 (.int .i64 ((pl p k).1.length : Int)))
  clear k0 k1 z1
  generalize X.setCell ⟨g, 1, none⟩ (.int .i64 ((pl p k).1.length : Int)) = Y at *
  have hG := HG.out
  have hW := hwl.out
  have T0 : Turns (fun i => i = g) w Y := ((Turns.of_below (S := fun i => i = g) (by rw [hG]; exact BX.out)).then TY.out)
  have hbf : ∀ r cur, w.heap[r]? = some (.cells cur 5 (0, 0)) → ¬ r = g := fun r cur hr e => by
    have := (Array.getElem?_eq_some_iff.1 hr).1
    omega
  have HD := Lib.hid (HH.out.keep T0 (by omega) (by omega) (fun r cur e _ => hbf r cur e))
  have HV := Lib.hid (hv.turns T0 (fun r hr => hbf r _ (hv.lt hr).2.1.choose_spec))
  have HM2 := Lib.hid (HM.out.turns T0 (by omega))
  have HF2 := Lib.hid (HF.out.turns T0 (fun r cur e _ => hbf r cur e))
  have B2 := hB2.out.turns T0 (by omega) (by omega)
  have T0H := Lib.hid T0
  obtain ⟨b0, n0⟩ := B2
  obtain ⟨c0, _, _⟩ := HD.out.cells
  have k0 := KY.out.cell 0
  have k1 := KY.out.cell 1
  simp only [List.set_cons_succ, List.set_cons_zero, List.getElem?_cons_succ, List.getElem?_cons_zero] at k0 k1
  clear hbf hG hW T0 hv
  refine wp_tail 6 (by kernel_rfl) (by kernel_rfl) ?_
  simp only [List.take_succ_cons, List.take_zero, List.drop_succ_cons, List.drop_zero]
  repeat still_step
  refine wpStill_nil ?_
  have hB := below_drewN' (Below.refl Y.heap.size Y) 1
  refine wpl_update (w := Y.drew) rfl _ _ _ 46 rfl (str_keys Tryz.underlying9) Tryz.underlying46 (HM2.out.below hB) k (fileV (.slice A (pl p k).1.length cap) (pl p k).1.length) rfl rfl rfl ?_
  intro w3 hm3 ht3
  have HM3 := Lib.hid hm3
  have T3 := Lib.hid (((Turns.refl (fun i => i = F) Y).drewN 1).then (.of_map (S := fun i => i = F) ht3 rfl))
  clear hm3 ht3
  go_wp2_with fail
  go_end0
  have hd := dsUpd HD.out hN HM2.out HF2.out k _ (pl p k).1 (pl p k).1.length HV.out (Nat.le_refl _) HM3.out rfl T3.out
  rw [if_pos hk] at hd
  exact ⟨rfl, hd, (T0H.out.mono (T := DSet d F) (fun i hi e => by have := HG.out; omega)).then (T3.out.mono (fun _ _ e => .inr e))⟩
set_option maxRecDepth 20000 in
theorem mvDo (w : World) (b n n2 d F N : Nat) (off : Bool) (fuse : Int) (p : Fs) (k k2 : ByteArray) (h : DS Xs w d F off fuse p N) (hb : Box2 w b n d k) (hx : w.cell? ⟨n2, 0, none⟩ = some (.string k2)) :
    Calls Tryz.prog 78 #[.pointer (some ⟨b, 0, none⟩), .pointer (some ⟨n, 0, none⟩), .pointer (some ⟨n2, 0, none⟩)] w fun e w' => e = .returned (.tuple #[]) ∧ DS Xs w' d F off fuse (upd (wip p k) k2 (pl p k)) (N + 1) ∧ Turns (DSet d F) w w' := by
  obtain ⟨c0, _, _⟩ := h.cells
  have hB2 := Lib.hid hb
  obtain ⟨b0, n0⟩ := hb
  have HH := Lib.hid h
  obtain ⟨mv, n1, hN, hm, hf⟩ := h.files
  have HM := Lib.hid hm
  have HF := Lib.hid hf
  obtain ⟨v, hv, hn, hlk⟩ := DS.look0 hm hf k
  obtain ⟨A, cap, rfl, _, hc1, hc2⟩ := hv.form
  have HL := Lib.hid hlk
  have l1 := (hlk w.drew (below_drewN' (Below.refl _ _) 1)).2
  have l2 := fun o => (hlk (w.alloc o).drew (below_drewN' (Below.new w o) 1)).2
  have l3 := fun o => (hlk (w.drew.alloc o) ((below_drewN' (Below.refl w.heap.size w) 1).alloc (Nat.le_refl _) o)).2
  have e0 := fun o => ((Below.new w o).cell (p := ⟨b, 0, none⟩) (World.block_lt_of_cell? w _ b0)).trans b0
  have e1 := fun o => ((Below.new w o).cell (p := ⟨n, 0, none⟩) (World.block_lt_of_cell? w _ n0)).trans n0
  have e2 := fun o => ((Below.new w o).cell (p := ⟨d, 0, none⟩) (World.block_lt_of_cell? w _ c0)).trans c0
  unfold fileV at l1 l2 l3
  have HX := Lib.hid hx
  clear h hm hf hlk hx
  go_enter Tryz.func78, Tryz.ntmps78
  go_wp2_with fail
  go_region
  have hB0 := below_drewN' (Below.new w (.cells #[.slice A (pl p k).1.length cap, .int .i64 ((pl p k).2 : Int)] 80)) 1
  have hwl := Lib.hid (show b < w.heap.size ∧ n < w.heap.size ∧ d < w.heap.size ∧ F < w.heap.size ∧ n2 < w.heap.size from ⟨World.block_lt_of_cell? w _ b0, World.block_lt_of_cell? w _ n0, World.block_lt_of_cell? w _ c0, HM.out.lt, World.block_lt_of_cell? w _ HX.out⟩)
  have BX : Hid (Below w.heap.size w (w.alloc (.cells #[.slice A (pl p k).1.length cap, .int .i64 ((pl p k).2 : Int)] 80)).drew) := Lib.hid hB0
  have KX : Hid (Blk (w.alloc (.cells #[.slice A (pl p k).1.length cap, .int .i64 ((pl p k).2 : Int)] 80)).drew w.heap.size 80 [.slice A (pl p k).1.length cap, .int .i64 ((pl p k).2 : Int)]) := Lib.hid ((Blk.new w 80 [.slice A (pl p k).1.length cap, .int .i64 ((pl p k).2 : Int)]).drewN 1)
  clear l1 l2 l3 e0 e1 e2 b0 n0 c0 hB0
  generalize (w.alloc (.cells #[.slice A (pl p k).1.length cap, .int .i64 ((pl p k).2 : Int)] 80)).drew = X at *
  generalize hg : w.heap.size = g at *
  have HG := Lib.hid hg
  clear hg
  have k0 := KX.out.cell 0
  have k1 := KX.out.cell 1
  have z1 := KX.out.fz 1
  have kl := KX.out.lt
  simp only [List.getElem?_cons_succ, List.getElem?_cons_zero] at k0 k1
  have hG := HG.out
  have hW := hwl.out
  have T0 : Turns (fun i => i = g) w X := (Turns.of_below (S := fun i => i = g) (by rw [hG]; exact BX.out))
  have hbf : ∀ r cur, w.heap[r]? = some (.cells cur 5 (0, 0)) → ¬ r = g := fun r cur hr e => by
    have := (Array.getElem?_eq_some_iff.1 hr).1
    omega
  have HD := Lib.hid (HH.out.keep T0 (by omega) (by omega) (fun r cur e _ => hbf r cur e))
  have HV := Lib.hid (hv.turns T0 (fun r hr => hbf r _ (hv.lt hr).2.1.choose_spec))
  have HM2 := Lib.hid (HM.out.turns T0 (by omega))
  have HF2 := Lib.hid (HF.out.turns T0 (fun r cur e _ => hbf r cur e))
  have B2 := hB2.out.turns T0 (by omega) (by omega)
  have X2 := Lib.hid ((T0.cell (p := ⟨n2, 0, none⟩) (World.block_lt_of_cell? w _ HX.out) (show ¬ n2 = g by omega)).trans HX.out)
  have HB2 := Lib.hid B2
  have T0H := Lib.hid T0
  obtain ⟨b0, n0⟩ := B2
  obtain ⟨c0, _, _⟩ := HD.out.cells
  clear hbf hG hW T0 hv k0 k1 z1
  go_upto_region 1 with (fail)
  refine wp_tail 5 (by kernel_rfl) (by kernel_rfl) ?_
  simp only [List.take_succ_cons, List.take_zero, List.drop_succ_cons, List.drop_zero]
  repeat still_step
  refine wpStill_nil ?_
  have hB := below_drewN' (Below.refl X.heap.size X) 1
  refine wpl_delete (w := X.drew) rfl _ _ 46 9 rfl (str_keys Tryz.underlying9) Tryz.underlying46 (HM2.out.below hB) k rfl rfl ?_
  intro w3 hm3 ht3
  have T3 := ((Turns.refl (fun i => i = F) X).drewN 1).then (.of_map (S := fun i => i = F) ht3 rfl)
  have HM3 := Lib.hid hm3
  have HD3 := Lib.hid (dsWip HD.out hN HM2.out HF2.out k hm3 (by split <;> omega) T3)
  have hFb : ∀ r cur, X.heap[r]? = some (.cells cur 5 (0, 0)) → ¬ r = F := fun r cur hr e => by
    subst e
    exact HM2.out.ne_cells hr rfl
  have HF3 := Lib.hid (Files.wip (HF2.out.turns T3 (fun r cur e _ => hFb r cur e)) k)
  have HV3 := Lib.hid (HV.out.turns T3 (fun r hr => hFb r _ (HV.out.lt hr).2.1.choose_spec))
  have b3 := (ht3.cell ⟨b, 0, none⟩).trans b0
  have x3 := (ht3.cell ⟨n2, 0, none⟩).trans X2.out
  have c3 := (ht3.cell ⟨d, 0, none⟩).trans c0
  have f0 := (ht3.cell ⟨g, 0, none⟩).trans (KX.out.cell 0)
  have f1 := (ht3.cell ⟨g, 1, none⟩).trans (KX.out.cell 1)
  simp only [List.getElem?_cons_succ, List.getElem?_cons_zero] at f0 f1
  have T3H := Lib.hid T3
  clear b0 n0 c0 hm3 ht3 T3 hFb hB
  go_upto_region 2 with (fail)
  refine wp_tail 6 (by kernel_rfl) (by kernel_rfl) ?_
  simp only [List.take_succ_cons, List.take_zero, List.drop_succ_cons, List.drop_zero]
  repeat still_step
  refine wpStill_nil ?_
  have hB := below_drewN' (Below.refl w3.heap.size w3) 1
  refine wpl_update (w := w3.drew) rfl _ _ _ 46 rfl (str_keys Tryz.underlying9) Tryz.underlying46 (HM3.out.below hB) k2 (fileV (.slice A (pl p k).1.length cap) (pl p k).2) rfl rfl rfl ?_
  intro w4 hm4 ht4
  have HM4 := Lib.hid hm4
  have T4 := Lib.hid (((Turns.refl (fun i => i = F) w3).drewN 1).then (.of_map (S := fun i => i = F) ht4 rfl))
  clear hm4 ht4
  go_wp2_with fail
  go_end0
  have hd := dsUpd HD3.out (by split <;> omega) HM3.out HF3.out k2 _ (pl p k).1 (pl p k).2 HV3.out hn HM4.out rfl T4.out
  exact ⟨rfl, hd.wide (by split <;> omega), (T0H.out.mono (T := DSet d F) (fun i hi e => by have := HG.out; omega)).then ((T3H.out.then T4.out).mono (fun _ _ e => .inr e))⟩
end Go.Proofs.YteihedfmmiihiaaGreat
