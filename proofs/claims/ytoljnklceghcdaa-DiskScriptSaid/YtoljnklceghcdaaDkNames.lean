/- disk: the names of a disk's files, rising; Names. -/
import Derived.Test.YtoljnklceghcdaaDkKeys
namespace Go.Proofs.Ytoljnklceghcdaa
open Go.RowKit Go.Maps Go.Sort Go.Shelf
variable {Xs : Nat → Prop}

/-- the names of files, rising -/
def KeysOf (p : Fs) (ks : List (List UInt8)) : Prop := ks.Pairwise (· < ·) ∧ ∀ k : ByteArray, k.data.toList ∈ ks ↔ p k ≠ none
theorem leB_tr (a b c : List UInt8) (h1 : leB a b = true) (h2 : leB b c = true) : leB a c = true := by simp only [leB, decide_eq_true_eq] at *; exact List.le_trans h1 h2
theorem leB_to (a b : List UInt8) : (leB a b || leB b a) = true := by simp only [leB, Bool.or_eq_true, decide_eq_true_eq]; exact List.le_total a b
theorem lt_of_le_ne {a b : List UInt8} (h : a ≤ b) (k : a ≠ b) : a < b := by
  by_cases hl : a < b
  · exact hl
  · exact absurd (List.le_antisymm h (List.not_lt.1 hl)) k
theorem keys_sorted {p : Fs} {ss : List (List UInt8)} (hn : ss.Nodup) (hm : ∀ k : ByteArray, k.data.toList ∈ ss ↔ p k ≠ none) : KeysOf p (ss.mergeSort leB) := by
  have hp := List.mergeSort_perm ss leB
  refine ⟨?_, fun k => by rw [hp.mem_iff]; exact hm k⟩
  have h1 := List.pairwise_mergeSort leB_tr leB_to ss
  have h2 : (ss.mergeSort leB).Nodup := hp.symm.nodup hn
  exact List.Pairwise.imp₂ (fun a b h k => lt_of_le_ne (by simpa [leB] using h) k) h1 h2
theorem KeysOf.nodup {p : Fs} {ks : List (List UInt8)} (h : KeysOf p ks) : ks.Nodup := h.1.imp (fun h e => by subst e; exact List.lt_irrefl _ h)
theorem KeysOf.one {p : Fs} {ks ks' : List (List UInt8)} (h : KeysOf p ks) (h' : KeysOf p ks') : ks = ks' := by
  have hb : ∀ x : List UInt8, (⟨x.toArray⟩ : ByteArray).data.toList = x := fun x => rfl
  have hp : ks.Perm ks' := (List.perm_ext_iff_of_nodup h.nodup h'.nodup).2 fun x => by
    have a := h.2 ⟨x.toArray⟩
    have b := h'.2 ⟨x.toArray⟩
    rw [hb] at a b
    rw [a, b]
  refine List.Perm.eq_of_pairwise (le := (· < ·)) (fun a b _ _ h1 h2 => absurd (List.lt_trans h1 h2) (List.lt_irrefl _)) h.1 h'.1 hp
theorem sorts (m : Nat) : AnyZ.SortsIn Try.prog Try.sortedS_ren Fence.wide m :=
  ⟨fun blk off cap ss W hH hblk hsz => callsIn_wide.2 (AnyM.slices_Sort_string Try.sortS blk off cap ss W hH hblk hsz),
   fun p cap W => callsIn_wide.2 (AnyM.slices_Sort_string_none Try.sortS p cap W)⟩
theorem keysC (W : World) (mb : Option Nat) : Calls Try.prog 34 #[.map mb] W fun e w' => e = .returned (.func (.func 47) #[] #[.pointer (some ⟨W.heap.size, 0, none⟩)]) ∧ w' = W.alloc (.cells #[.map mb] 49) := by
  go_enter Try.func34, Try.ntmps34
  go_wp2_with fail
  go_ret
  exact ⟨rfl, rfl⟩
def SortedY (W : World) (p : Fs) (e : Ending) (w' : World) : Prop :=
  ∃ (v : Value) (ks : List (List UInt8)), e = .returned v ∧ KeysOf p ks ∧ w'.ownsRow W.heap.size 9 1 v ks.length (ks.map encStr) ∧ Below W.heap.size W w'
theorem sortedC (W : World) (Bm F d N : Nat) (off : Bool) (fuse : Int) (p : Fs) (h : DS Xs W d F off fuse p N) (hN : N ≤ 1000000) (hBm : Bm < W.heap.size) (hm : W.cell? ⟨Bm, 0, none⟩ = some (.map (some F))) :
    Calls Try.prog 33 #[.func (.func 47) #[] #[.pointer (some ⟨Bm, 0, none⟩)]] W (SortedY W p) := by
  obtain ⟨mv, n, hn, hmap, hf⟩ := h.files
  have hseq := keys_gives Fence.wide 2 trivial rfl (by omega) Bm F n mv W hBm hm hmap
  have hc := AnyZ.sorted_in Try.sortedS Fence.wide 5 trivial trivial trivial trivial rfl (by omega) (sorts _) (enters_of Try.func46 (by kernel_rfl) rfl) 47 #[.pointer (some ⟨Bm, 0, none⟩)] trivial (enters_of Try.func47 (by kernel_rfl) rfl) _ n (by unfold maxLen; omega) (by omega) W hseq
  refine (callsIn_wide.1 hc).mono ?_
  rintro e w' ⟨v, ss, rfl, hS, hrow, _, hb⟩
  have hk := keys_sorted (p := p) hS.1 (fun k => by
    rw [hS.2 k]
    have := (hf.get k).1
    cases e1 : mv k <;> cases e2 : p k <;> simp [e1, e2] at this ⊢)
  refine ⟨v, _, rfl, hk, ?_, hb⟩
  rw [(List.mergeSort_perm ss leB).length_eq]
  exact hrow
def NamesY (w : World) (s : Dk) (e : Ending) (w' : World) : Prop :=
  ∃ v, e = .returned (.tuple #[v, .int .i64 (goC s.off)]) ∧ Below w.heap.size w w' ∧ (s.off = true → v = .slice none 0 0) ∧ (s.off = false → ∃ ks, KeysOf s.p ks ∧ w'.ownsRow w.heap.size 9 1 v ks.length (ks.map encStr))
set_option maxRecDepth 20000 in
set_option maxHeartbeats 1000000 in
theorem namesD (w : World) (d F N : Nat) (s : Dk) (h : s.Is Xs w d F N) (hN : N ≤ 1000000) :
    Calls Try.prog 19 #[.pointer (some ⟨d, 0, none⟩)] w (NamesY w s) := by
  obtain ⟨off, fuse, p⟩ := s
  unfold Dk.Is at h
  simp only at h
  have HH := Lib.hid h
  have HT := Lib.hid (goesD w d F N off fuse p h)
  obtain ⟨c0, _, _⟩ := h.cells
  clear h
  cases off with
  | true =>
    unfold goC at HT
    simp only [if_true] at HT
    go_enter Try.func19, Try.ntmps19
    go_wp2_with (go_at_call 26; refine HT.out.mono ?_; rintro e w2 ⟨rfl, rfl⟩)
    go_ret2
    exact ⟨_, rfl, Below.refl _ _, fun _ => rfl, fun e => by cases e⟩
  | false =>
    unfold goC at HT
    simp only [if_false, Bool.false_eq_true] at HT
    have HB := Lib.hid (Below.new w (.cells #[.map (some F)] 49))
    have HS := Lib.hid (sortedC (w.alloc (.cells #[.map (some F)] 49)) w.heap.size F d N false fuse p (HH.out.bel HB.out) hN (by simp) ((Blk.new w 49 [.map (some F)]).box))
    have HK := Lib.hid (keysC w (some F))
    go_enter Try.func19, Try.ntmps19
    go_wp2_with (first
      | (go_at_call 26; refine HT.out.mono ?_; rintro e w2 ⟨rfl, rfl⟩)
      | (go_at_call 34; refine HK.out.mono ?_; rintro e w2 ⟨rfl, rfl⟩)
      | (go_at_call 33; refine HS.out.mono ?_; rintro e w3 ⟨v, ks, rfl, hk, ho, hb⟩; have HKS := Lib.hid hk; have HO := Lib.hid ho; have HB3 := Lib.hid hb; clear hk ho hb))
    go_ret2
    refine ⟨_, rfl, below_trans' HB.out HB3.out, (fun e => by cases e), fun _ => ⟨ks, HKS.out, ?_⟩⟩
    obtain ⟨h1, h2⟩ := HO.out
    refine ⟨h1, ?_⟩
    rcases h2 with h2 | ⟨g, cap, cur, e, h3, h4⟩
    · exact .inl h2
    · exact .inr ⟨g, cap, cur, e, Nat.le_trans HB.out.size h3, h4⟩
end Go.Proofs.Ytoljnklceghcdaa
