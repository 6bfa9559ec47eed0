/- The document's disk in plain words: a list of files, rising by name. -/
import Derived.Test.YtoljnklceghcdaaDkFuseP
import Derived.Lib.Strings
namespace Go.Proofs.Ytoljnklceghcdaa
open Go.RowKit Go.Maps Go.Sort Go.Shelf

/-- a file of the document's -/
structure RF where
  name : ByteArray
  last : ByteArray
  waits : ByteArray
def RF.fd (f : RF) : Fd := (f.last.data.toList ++ f.waits.data.toList, f.last.size)
def nm (f : RF) : List UInt8 := f.name.data.toList
/-- the list's files as a map -/
def pOf (L : List RF) : Fs := fun k => (L.find? (fun f => decide (f.name = k))).map RF.fd
def Rise (L : List RF) : Prop := (L.map nm).Pairwise (· < ·)
def putL (L : List RF) (f : RF) : List RF := L.filter (fun g => decide (nm g < nm f)) ++ [f] ++ L.filter (fun g => decide (nm f < nm g))
def outL (L : List RF) (k : ByteArray) : List RF := L.filter (fun g => decide (g.name ≠ k))
theorem find_filter (Q : ByteArray → Bool) (k : ByteArray) : ∀ L : List RF, (L.filter (fun f => Q f.name)).find? (fun f => decide (f.name = k)) = if Q k then L.find? (fun f => decide (f.name = k)) else none
  | [] => by simp
  | f :: L => by
    by_cases hq : Q f.name = true
    · rw [List.filter_cons_of_pos (by simpa using hq), List.find?_cons, List.find?_cons, find_filter Q k L]
      by_cases hk : f.name = k
      · subst hk
        simp [hq]
      · simp [hk]
    · rw [List.filter_cons_of_neg (by simpa using hq), List.find?_cons, find_filter Q k L]
      by_cases hk : f.name = k
      · subst hk
        simp [hq]
      · simp [hk]
theorem nm_inj {k k2 : ByteArray} (h : k.data.toList = k2.data.toList) : k = k2 := key_inj h
theorem pOf_put (L : List RF) (f : RF) : pOf (putL L f) = upd (pOf L) f.name f.fd := by
  funext k
  unfold pOf putL upd
  have h1 := find_filter (fun n => decide (n.data.toList < nm f)) k L
  have h2 := find_filter (fun n => decide (nm f < n.data.toList)) k L
  change (L.filter (fun g => decide (nm g < nm f))).find? _ = _ at h1
  change (L.filter (fun g => decide (nm f < nm g))).find? _ = _ at h2
  rw [List.find?_append, List.find?_append, h1, h2]
  by_cases hk : k = f.name
  · subst hk
    have : ¬ f.name.data.toList < nm f := List.lt_irrefl _
    simp [this]
  · have hk2 : ¬ f.name = k := fun e => hk e.symm
    by_cases hl : k.data.toList < nm f
    · have hg : ¬ nm f < k.data.toList := fun h => List.lt_irrefl _ (List.lt_trans hl h)
      simp [hl, hg, hk, hk2]
    · have hg : nm f < k.data.toList := by
        refine lt_of_le_ne (List.not_lt.1 hl) (fun e => hk (key_inj e.symm))
      simp [hl, hg, hk, hk2]
theorem pOf_out (L : List RF) (k : ByteArray) : pOf (outL L k) = wip (pOf L) k := by
  funext k2
  unfold pOf outL wip
  have h1 := find_filter (fun n => decide (n ≠ k)) k2 L
  change (L.filter (fun g => decide (g.name ≠ k))).find? _ = _ at h1
  rw [h1]
  by_cases e : k2 = k
  · subst e; simp
  · simp [e]
theorem rise_filter {L : List RF} (h : Rise L) (P : RF → Bool) : Rise (L.filter P) := by
  unfold Rise at h ⊢
  rw [List.pairwise_map] at h ⊢
  exact h.filter _
theorem rise_out {L : List RF} (h : Rise L) (k : ByteArray) : Rise (outL L k) := rise_filter h _
theorem rise_put {L : List RF} (h : Rise L) (f : RF) : Rise (putL L f) := by
  have h1 := rise_filter h (fun g => decide (nm g < nm f))
  have h2 := rise_filter h (fun g => decide (nm f < nm g))
  unfold Rise at h1 h2 ⊢
  unfold putL
  rw [List.map_append, List.map_append, List.pairwise_append, List.pairwise_append]
  refine ⟨⟨h1, by simp, ?_⟩, h2, ?_⟩
  · intro a ha b hb
    simp at hb
    subst hb
    obtain ⟨g, hg, rfl⟩ := List.mem_map.1 ha
    simpa using (List.mem_filter.1 hg).2
  · intro a ha b hb
    obtain ⟨g, hg, rfl⟩ := List.mem_map.1 hb
    have hg2 : nm f < nm g := by simpa using (List.mem_filter.1 hg).2
    rcases List.mem_append.1 ha with ha | ha
    · obtain ⟨g', hg', rfl⟩ := List.mem_map.1 ha
      have : nm g' < nm f := by simpa using (List.mem_filter.1 hg').2
      exact List.lt_trans this hg2
    · simp at ha
      subst ha
      exact hg2
theorem find_mem {L : List RF} {k : ByteArray} : (L.find? (fun f => decide (f.name = k))).isSome = true ↔ ∃ f ∈ L, f.name = k := by
  rw [List.find?_isSome]
  constructor
  · rintro ⟨f, hf, h⟩; exact ⟨f, hf, by simpa using h⟩
  · rintro ⟨f, hf, h⟩; exact ⟨f, hf, by simpa using h⟩
theorem pOf_keys {L : List RF} (h : Rise L) : KeysOf (pOf L) (L.map nm) := by
  refine ⟨h, fun k => ?_⟩
  have : pOf L k ≠ none ↔ (L.find? (fun f => decide (f.name = k))).isSome = true := by
    unfold pOf
    cases L.find? (fun f => decide (f.name = k)) <;> simp
  rw [this, find_mem, List.mem_map]
  constructor
  · rintro ⟨f, hf, e⟩; exact ⟨f, hf, key_inj e⟩
  · rintro ⟨f, hf, e⟩; exact ⟨f, hf, by rw [← e]; rfl⟩
theorem rise_one {L : List RF} (h : Rise L) {f g : RF} (hf : f ∈ L) (hg : g ∈ L) (e : f.name = g.name) : f = g := by
  unfold Rise at h
  rw [List.pairwise_map, List.pairwise_iff_getElem] at h
  obtain ⟨i, hi, rfl⟩ := List.mem_iff_getElem.1 hf
  obtain ⟨j, hj, rfl⟩ := List.mem_iff_getElem.1 hg
  rcases Nat.lt_trichotomy i j with hl | hl | hl
  · have := h i j hi hj hl
    unfold nm at this
    rw [e] at this
    exact absurd this (List.lt_irrefl _)
  · subst hl; rfl
  · have := h j i hj hi hl
    unfold nm at this
    rw [e] at this
    exact absurd this (List.lt_irrefl _)
theorem pOf_mem {L : List RF} (h : Rise L) {f : RF} (hf : f ∈ L) : pOf L f.name = some f.fd := by
  unfold pOf
  cases e : L.find? (fun g => decide (g.name = f.name)) with
  | none =>
    have := List.find?_eq_none.1 e f hf
    simp at this
  | some g =>
    have h1 := List.mem_of_find?_eq_some e
    have h2 := List.find?_some e
    rw [rise_one h h1 hf (by simpa using h2)]
    rfl
/-- the first place of a name -/
def findL (L : List RF) (k : ByteArray) : Int := match L.findIdx? (fun f => decide (f.name = k)) with
  | some i => (i : Int)
  | none => -1
end Go.Proofs.Ytoljnklceghcdaa
