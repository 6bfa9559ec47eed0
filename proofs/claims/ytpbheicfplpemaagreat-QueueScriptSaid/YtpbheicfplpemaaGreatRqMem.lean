/- The document's queue in memory (prompterref22); find. -/
import Derived.Test.YtpbheicfplpemaaGreatQuOpenP
import Derived.Test.YtpbheicfplpemaaGreatQuApp
import Derived.DataElems
namespace Go.Proofs.YtpbheicfplpemaaGreat
open Go.RowKit

theorem info_rtask : (Tryz.prog.info? 64).map (fun i => (i.zero, i.size, i.bytes)) = some (some (.agg #[.string ⟨#[]⟩, .string ⟨#[]⟩, .int .i64 0, .int .i64 0, .int .i64 0, .string ⟨#[]⟩, .int .i64 0]), 7, 80) := by kernel_rfl
/-- the document's queue -/
structure RQ (w : World) (r : Nat) (most grace last : Int) (iv av : Value) (I Z : List Ot) : Prop where
  blk : Blk w r 40 [.int .i64 most, .int .i64 grace, .int .i64 last, iv, av]
  idle : w.ownsRow 0 64 7 iv I.length (I.flatMap otC)
  away : w.ownsRow 0 64 7 av Z.length (Z.flatMap otC)
  apart : ∀ g, iv.ownBlock = some g → av.ownBlock ≠ some g
  few : I.length ≤ 100000 ∧ Z.length ≤ 100000
def RQSet (r : Nat) (iv av : Value) (i : Nat) : Prop := i = r ∨ iv.ownBlock = some i ∨ av.ownBlock = some i
section
variable {w w' : World} {r : Nat} {most grace last : Int} {iv av : Value} {I Z : List Ot}
theorem RQ.keep {S : Nat → Prop} (h : RQ w r most grace last iv av I Z) (k : Turns S w w') (hS : ∀ i, RQSet r iv av i → ¬ S i) : RQ w' r most grace last iv av I Z :=
  ⟨h.blk.turns k (hS r (.inl rfl)), own_turns h.idle k (fun g hg => hS g (.inr (.inl hg))), own_turns h.away k (fun g hg => hS g (.inr (.inr hg))), h.apart, h.few⟩
theorem RQ.bel (h : RQ w r most grace last iv av I Z) (k : Below w.heap.size w w') : RQ w' r most grace last iv av I Z := h.keep (.of_below (S := fun _ => False) k) (fun _ _ => id)
theorem RQ.lts (h : RQ w r most grace last iv av I Z) : ∀ i, RQSet r iv av i → i < w.heap.size := by
  rintro i (rfl | hi | hi)
  · exact h.blk.lt
  · exact (own_lt h.idle hi).2
  · exact (own_lt h.away hi).2
theorem RQ.cells (h : RQ w r most grace last iv av I Z) : w.cell? ⟨r, 0, none⟩ = some (.int .i64 most) ∧ w.cell? ⟨r, 1, none⟩ = some (.int .i64 grace) ∧ w.cell? ⟨r, 2, none⟩ = some (.int .i64 last) ∧ w.cell? ⟨r, 3, none⟩ = some iv ∧ w.cell? ⟨r, 4, none⟩ = some av := by
  have c0 := h.blk.cell 0
  have c1 := h.blk.cell 1
  have c2 := h.blk.cell 2
  have c3 := h.blk.cell 3
  have c4 := h.blk.cell 4
  simp only [List.getElem?_cons_succ, List.getElem?_cons_zero] at c0 c1 c2 c3 c4
  exact ⟨c0, c1, c2, c3, c4⟩
end
/-- the cells of the k-th task of a row -/
theorem rq_cells {w : World} {T : TypeId} {base n g cap : Nat} {zs : List Ot} (h : w.ownsRow base T 7 (.slice (some ⟨g, 0, none⟩) n cap) n (zs.flatMap otC)) (hn : zs.length = n) (k : Nat) (hk : k < zs.length) : ∀ j, j < 7 → w.cell? ⟨g, k * 7 + j, none⟩ = (otC zs[k])[j]? := fun j hj => by
  rw [h.cellAt _ (by omega), flat_get otC 7 otC_len zs k j hj, List.getElem?_eq_getElem hk]
  rfl
theorem str_ne' {a b : ByteArray} (h : a ≠ b) : (a.toList == b.toList) = false := by
  rw [beq_eq_false_iff_ne]
  intro e
  apply h
  rw [ByteArray.toList_eq, ByteArray.toList_eq] at e
  cases a; cases b
  simp at e
  simp [e]
/-- where a key stands -/
def findI (zs : List Ot) (k : ByteArray) : Int := match zs.findIdx? (fun x => decide (x.tk.key = k)) with | some i => (i : Int) | none => -1
theorem findI_at {zs : List Ot} {k : ByteArray} {n : Nat} (hn : n < zs.length) (h1 : ∀ j (hj : j < zs.length), j < n → zs[j].tk.key ≠ k) (h2 : zs[n].tk.key = k) : findI zs k = (n : Int) := by
  unfold findI
  have : zs.findIdx? (fun x => decide (x.tk.key = k)) = some n := by
    rw [List.findIdx?_eq_some_iff_getElem]
    exact ⟨hn, by simp [h2], fun j hj => by simpa using h1 j (by omega) hj⟩
  rw [this]
theorem findI_no {zs : List Ot} {k : ByteArray} (h : ∀ j (hj : j < zs.length), zs[j].tk.key ≠ k) : findI zs k = -1 := by
  unfold findI
  have : zs.findIdx? (fun x => decide (x.tk.key = k)) = none := by
    rw [List.findIdx?_eq_none_iff]
    intro x hx
    obtain ⟨j, hj, rfl⟩ := List.getElem_of_mem hx
    simpa using h j hj
  rw [this]
theorem findI_key {zs : List Ot} {k : ByteArray} : (keyO zs k = true → 0 ≤ findI zs k ∧ findI zs k < zs.length) ∧ (keyO zs k = false → findI zs k = -1) := by
  constructor
  · intro h
    obtain ⟨x, hx, hk⟩ := keyO_is.1 h
    unfold findI
    cases e : zs.findIdx? (fun x => decide (x.tk.key = k)) with
    | none => rw [List.findIdx?_eq_none_iff] at e; have := e x hx; simp [hk] at this
    | some i =>
      obtain ⟨h1, _⟩ := List.findIdx?_eq_some_iff_getElem.1 e
      exact ⟨by simp only; omega, by simp only; omega⟩
  · intro h
    refine findI_no fun j hj e => ?_
    have := keyO_is.2 ⟨zs[j], List.getElem_mem hj, e⟩
    rw [h] at this
    cases this
set_option maxRecDepth 20000 in
set_option maxHeartbeats 1600000 in
theorem rqFind (w : World) (v : Value) (zs : List Ot) (h : w.ownsRow 0 64 7 v zs.length (zs.flatMap otC)) (hf : zs.length ≤ 100000) (k : ByteArray) :
    Calls Tryz.prog 28 #[v, .string k] w fun e w' => e = .returned (.int .i64 (findI zs k)) ∧ w' = w := by
  have H := Lib.hid h
  obtain ⟨A, c, rfl⟩ := own_slice' h
  obtain ⟨n, hn⟩ : ∃ n, zs.length = n := ⟨_, rfl⟩
  have HN := Lib.hid hn
  rw [hn] at H hf ⊢
  clear h hn
  go_enter Tryz.func28, Tryz.ntmps28
  go_wp2_with fail
  go_loop [5] (fun i => ∃ j : Nat, j ≤ n ∧ i = .int .i64 (j : Int) ∧ Hid (∀ x (hx : x < zs.length), x < j → zs[x].tk.key ≠ k)) (fun i => n + 1 - (intOf i).toNat)
  case atStart => exact ⟨0, Nat.zero_le _, rfl, Lib.hid (fun x hx h0 => by omega)⟩
  case round =>
    obtain ⟨j, hj, rfl, HJ⟩ := hrel
    by_cases hlt : j < n
    · have hlt1 : (j : Int) < (n : Int) := by omega
      have hjz : j < zs.length := by rw [HN.out]; exact hlt
      obtain ⟨g, c0, he, hvb, hg, hnc, hcm⟩ := own_at H.out (by omega)
      injection he with he1 he2 he3
      subst he1 he3
      have d0 := rq_cells H.out HN.out j hjz 0 (by omega)
      simp only [otC, List.getElem?_cons_zero, Nat.add_zero] at d0
      unfold maxLen at hcm
      by_cases ho : zs[j].tk.key = k
      · have HR : Hid (findI zs k = (j : Int)) := Lib.hid (findI_at hjz HJ.out ho)
        rw [ho] at d0
        clear ho hjz
        go_wp2_with fail
        go_ret
        exact ⟨by rw [HR.out]; rfl, rfl⟩
      · have hq := str_ne' ho
        have HJ2 : Hid (∀ x (hx : x < zs.length), x < j + 1 → zs[x].tk.key ≠ k) := Lib.hid (fun x hx h1 => by
          by_cases e : x = j
          · subst e; exact ho
          · exact HJ.out x hx (by omega))
        clear ho HJ
        generalize zs[j] = y at *
        clear hjz
        go_wp2_with fail
        go_round
        case rel => exact ⟨j + 1, hlt, by go_num, HJ2⟩
        case measure => simp [intOf]; omega
    · obtain rfl : j = n := by omega
      have hlt1 : ¬ (j : Int) < (j : Int) := by omega
      have HR : Hid (findI zs k = -1) := Lib.hid (findI_no fun x hx => HJ.out x hx (by have := HN.out; omega))
      clear hlt
      go_wp2_with fail
      go_ret
      exact ⟨by rw [HR.out]; rfl, rfl⟩
end Go.Proofs.YtpbheicfplpemaaGreat
