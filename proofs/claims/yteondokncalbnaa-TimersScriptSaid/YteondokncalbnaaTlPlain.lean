/- timers: a table as a list of timers in order, in plain Lean. -/
import Derived.Test.YteondokncalbnaaTsSortsPlain
import Derived.Test.YteondokncalbnaaTmDuePlain
namespace Go.Proofs.Yteondokncalbnaa
open Go.RowKit

/-- a timer: its due, its owner, its Id -/
abbrev Lt := Int × ByteArray × Int
def lt (y : Tri) : Lt := y.2.2
def SortedT (xs : List Th) (ys : List Tri) : Prop := ys.Perm (xs.map tri) ∧ Asc ys
/-- the heap's things as a list -/
structure TIs (xs : List Th) (nx : Nat) (L : List Lt) : Prop where
  ys : ∃ ys, SortedT xs ys ∧ L = ys.map lt
  key : ∀ t ∈ xs, ∃ o k, t.v = timV t.key o k ∧ 0 ≤ k
  new : ∀ t ∈ xs, t.num < nx
  apart : Apart xs
theorem asc_one {ys zs : List Tri} (h1 : Asc ys) (h2 : Asc zs) (hp : ys.Perm zs) (hd : (ys.map (·.2.1)).Nodup) : ys = zs := by
  refine hp.eq_of_pairwise (le := fun a b : Tri => ¬ (b.1 < a.1 ∨ (b.1 = a.1 ∧ b.2.1 < a.2.1))) (fun a b ha hb h3 h4 => ?_) h1 h2
  have hn : a.2.1 = b.2.1 := by omega
  have hb' := hp.mem_iff.2 hb
  obtain ⟨i, hi, rfl⟩ := List.mem_iff_getElem.1 ha
  obtain ⟨j, hj, rfl⟩ := List.mem_iff_getElem.1 hb'
  have : i = j := (List.getElem_inj (xs := ys.map (·.2.1)) (h₀ := by simpa using hi) (h₁ := by simpa using hj) hd).1 (by simpa using hn)
  subst this
  rfl
theorem nums_tri (xs : List Th) (h : Apart xs) : ((xs.map tri).map (·.2.1)).Nodup := by
  have : (xs.map tri).map (·.2.1) = (xs.map (·.num)).map (fun n : Nat => (n : Int)) := by rw [List.map_map, List.map_map]; rfl
  rw [this]
  exact List.Pairwise.map _ (fun a b hab e => hab (by omega)) h
theorem SortedT.one {xs : List Th} {ys zs : List Tri} (h : Apart xs) (h1 : SortedT xs ys) (h2 : SortedT xs zs) : ys = zs :=
  asc_one h1.2 h2.2 (h1.1.trans h2.1.symm) ((h1.1.map _).nodup_iff.2 (nums_tri xs h))
/-- every row of distinct things can be sorted -/
def leT (a b : Tri) : Bool := !(decide (b.1 < a.1) || (decide (b.1 = a.1) && decide (b.2.1 < a.2.1)))
theorem leT_is (a b : Tri) : leT a b = true ↔ ¬ (b.1 < a.1 ∨ (b.1 = a.1 ∧ b.2.1 < a.2.1)) := by
  unfold leT; simp; omega
theorem sortedT_ex (xs : List Th) : ∃ ys, SortedT xs ys := by
  refine ⟨(xs.map tri).mergeSort leT, List.mergeSort_perm _ _, ?_⟩
  have := List.pairwise_mergeSort (le := leT) (fun a b c h1 h2 => by rw [leT_is] at *; omega) (fun a b => by
    have : leT a b = true ∨ leT b a = true := by rw [leT_is, leT_is]; omega
    rcases this with h | h <;> simp [h]) (xs.map tri)
  exact this.imp (fun h => (leT_is _ _).1 h)
theorem tri_key {t : Th} {o : ByteArray} {k : Int} (h : t.v = timV t.key o k) : tri t = (t.key, (t.num : Int), t.key, o, k) := by
  unfold tri; rw [h]; rfl
theorem TIs.len {xs : List Th} {nx : Nat} {L : List Lt} (h : TIs xs nx L) : L.length = xs.length := by
  obtain ⟨ys, hs, rfl⟩ := h.ys
  rw [List.length_map, hs.1.length_eq, List.length_map]
/-- the due is the key -/
theorem TIs.dues {xs : List Th} {nx : Nat} {L : List Lt} (h : TIs xs nx L) {ys : List Tri} (hs : SortedT xs ys) : ∀ y ∈ ys, y.2.2.1 = y.1 := fun y hy => by
  obtain ⟨t, ht, rfl⟩ := List.mem_map.1 (hs.1.mem_iff.1 hy)
  obtain ⟨o, k, e, _⟩ := h.key t ht
  rw [tri_key e]
def SrtL (L : List Lt) : Prop := L.Pairwise fun a b => a.1 ≤ b.1
theorem TIs.srt {xs : List Th} {nx : Nat} {L : List Lt} (h : TIs xs nx L) : SrtL L := by
  obtain ⟨ys, hs, rfl⟩ := h.ys
  unfold SrtL
  rw [List.pairwise_map]
  refine hs.2.imp_of_mem (fun {a b} ha hb hab => ?_)
  unfold lt
  rw [h.dues hs a ha, h.dues hs b hb]
  omega
theorem TIs.mem {xs : List Th} {nx : Nat} {L : List Lt} (h : TIs xs nx L) (x : Lt) : x ∈ L ↔ ∃ t ∈ xs, t.v = timV x.1 x.2.1 x.2.2 ∧ t.key = x.1 := by
  obtain ⟨ys, hs, rfl⟩ := h.ys
  rw [List.mem_map]
  constructor
  · rintro ⟨y, hy, rfl⟩
    obtain ⟨t, ht, rfl⟩ := List.mem_map.1 (hs.1.mem_iff.1 hy)
    obtain ⟨o, k, e, _⟩ := h.key t ht
    refine ⟨t, ht, ?_⟩
    rw [tri_key e]
    exact ⟨e, rfl⟩
  · rintro ⟨t, ht, e, ek⟩
    refine ⟨tri t, hs.1.mem_iff.2 (List.mem_map.2 ⟨t, ht, rfl⟩), ?_⟩
    obtain ⟨a, b, c⟩ := x
    simp only at e ek
    unfold lt tri
    rw [e]
    rfl
/-- a timer set: behind all that come due no later -/
def insL (L : List Lt) (x : Lt) : List Lt := L.filter (fun y => decide (y.1 ≤ x.1)) ++ [x] ++ L.filter (fun y => decide (x.1 < y.1))
theorem TIs.set {xs zs : List Th} {nx : Nat} {L : List Lt} (h : TIs xs nx L) (due : Int) (o : ByteArray) (k : Int) (hk : 0 ≤ k) (hp : zs.Perm (xs ++ [⟨due, nx, timV due o k⟩])) : TIs zs (nx + 1) (insL L (due, o, k)) := by
  obtain ⟨ys, hs, rfl⟩ := h.ys
  have hap : Apart zs := by
    have h1 : Apart (xs ++ [⟨due, nx, timV due o k⟩]) := by
      unfold Apart
      rw [List.map_append, List.nodup_append]
      refine ⟨h.apart, by simp, ?_⟩
      intro a ha b hb
      simp at hb
      subst hb
      obtain ⟨t, ht, rfl⟩ := List.mem_map.1 ha
      have := h.new t ht
      omega
    exact h1.perm hp
  refine ⟨⟨ys.filter (fun y => decide (y.1 ≤ due)) ++ [(due, (nx : Int), due, o, k)] ++ ys.filter (fun y => decide (due < y.1)), ⟨?_, ?_⟩, ?_⟩, ?_, ?_, hap⟩
  · have h1 : (ys.filter (fun y => decide (y.1 ≤ due)) ++ ys.filter (fun y => decide (due < y.1))).Perm ys := by
      have := List.filter_append_perm (fun y : Tri => decide (y.1 ≤ due)) ys
      refine (List.Perm.append_left _ (List.Perm.of_eq (List.filter_congr (fun y _ => ?_)))).trans this
      by_cases e : y.1 ≤ due
      · have : ¬ due < y.1 := by omega
        simp [e, this]
      · have : due < y.1 := by omega
        simp [e, this]
    have h2 : (zs.map tri).Perm ((xs.map tri) ++ [(due, (nx : Int), due, o, k)]) := by
      have := hp.map tri
      rwa [List.map_append, List.map_singleton, show tri ⟨due, nx, timV due o k⟩ = (due, (nx : Int), due, o, k) from rfl] at this
    refine List.Perm.trans ?_ h2.symm
    refine List.Perm.trans ?_ ((h1.trans hs.1).append_right _)
    rw [List.append_assoc, List.append_assoc]
    exact List.Perm.append_left _ List.perm_append_comm
  · unfold Asc
    have hf : ∀ P : Tri → Bool, (ys.filter P).Pairwise fun a b => ¬ (b.1 < a.1 ∨ (b.1 = a.1 ∧ b.2.1 < a.2.1)) := fun P => hs.2.filter P
    have hnew : ∀ y ∈ ys, y.2.1 < (nx : Int) := fun y hy => by
      obtain ⟨t, ht, rfl⟩ := List.mem_map.1 (hs.1.mem_iff.1 hy)
      have := h.new t ht
      unfold tri
      simp only
      omega
    rw [List.pairwise_append, List.pairwise_append]
    refine ⟨⟨hf _, by simp, ?_⟩, hf _, ?_⟩
    · intro a ha b hb
      simp at hb
      subst hb
      have h1 := List.mem_filter.1 ha
      have h2 : a.1 ≤ due := by simpa using h1.2
      have h3 := hnew a h1.1
      simp only
      omega
    · intro a ha b hb
      have h1 := List.mem_filter.1 hb
      have h2 : due < b.1 := by simpa using h1.2
      rcases List.mem_append.1 ha with ha | ha
      · have h3 : a.1 ≤ due := by simpa using (List.mem_filter.1 ha).2
        omega
      · simp at ha
        subst ha
        simp only
        omega
  · unfold insL
    rw [List.map_append, List.map_append, List.map_singleton, List.filter_map, List.filter_map]
    congr 1
    · congr 1
      congr 1
      refine List.filter_congr (fun y hy => ?_)
      show decide (y.2.2.1 ≤ due) = _
      rw [h.dues hs y hy]
    · congr 1
      refine List.filter_congr (fun y hy => ?_)
      show decide (due < y.2.2.1) = _
      rw [h.dues hs y hy]
  · intro t ht
    rcases List.mem_append.1 (hp.mem_iff.1 ht) with ht | ht
    · exact h.key t ht
    · simp at ht; subst ht; exact ⟨o, k, rfl, hk⟩
  · intro t ht
    rcases List.mem_append.1 (hp.mem_iff.1 ht) with ht | ht
    · have := h.new t ht; omega
    · simp at ht; subst ht; simp
/-- some things are taken away -/
theorem TIs.sub {xs zs : List Th} {nx : Nat} {L : List Lt} (h : TIs xs nx L) (Q : Lt → Bool) (gone : List Th) (hp : (gone ++ zs).Perm xs) (hz : ∀ t ∈ zs, Q (lt (tri t)) = true) (hg : ∀ t ∈ gone, Q (lt (tri t)) = false) : TIs zs nx (L.filter Q) := by
  obtain ⟨ys, hs, rfl⟩ := h.ys
  have hm : ∀ t ∈ zs, t ∈ xs := fun t ht => hp.mem_iff.1 (List.mem_append_right _ ht)
  have hap : Apart zs := by
    have := h.apart.perm hp
    unfold Apart at this ⊢
    rw [List.map_append, List.nodup_append] at this
    exact this.2.1
  refine ⟨⟨ys.filter (fun y => Q (lt y)), ⟨?_, hs.2.filter _⟩, by rw [List.filter_map]; rfl⟩, fun t ht => h.key t (hm t ht), fun t ht => h.new t (hm t ht), hap⟩
  have h1 := (hs.1.trans (hp.map tri).symm).filter (fun y => Q (lt y))
  rw [List.map_append, List.filter_append] at h1
  have e1 : (gone.map tri).filter (fun y => Q (lt y)) = [] := by
    rw [List.filter_eq_nil_iff]
    intro y hy
    obtain ⟨t, ht, rfl⟩ := List.mem_map.1 hy
    rw [hg t ht]
    simp
  have e2 : (zs.map tri).filter (fun y => Q (lt y)) = zs.map tri := by
    rw [List.filter_eq_self]
    intro y hy
    obtain ⟨t, ht, rfl⟩ := List.mem_map.1 hy
    exact hz t ht
  rw [e1, e2, List.nil_append] at h1
  exact h1
theorem TIs.nil : TIs [] 0 [] := ⟨⟨[], ⟨.refl _, List.Pairwise.nil⟩, rfl⟩, by simp, by simp, by unfold Apart; simp⟩
/-- what came due -/
theorem TIs.due {xs ls zs : List Th} {nx : Nat} {L : List Lt} (h : TIs xs nx L) (now : Int) (hd : DueP now xs ls zs) (hl : ∀ b ∈ zs, now < b.key) : ls.map (fun t => lt (tri t)) = L.filter (fun y => decide (y.1 ≤ now)) ∧ TIs zs nx (L.filter (fun y => decide (now < y.1))) := by
  have hml : ∀ t ∈ ls, t ∈ xs := fun t ht => hd.perm.mem_iff.1 (List.mem_append_left _ ht)
  have hmz : ∀ t ∈ zs, t ∈ xs := fun t ht => hd.perm.mem_iff.1 (List.mem_append_right _ ht)
  have hk : ∀ t ∈ xs, (lt (tri t)).1 = t.key := fun t ht => by
    obtain ⟨o, k, e, _⟩ := h.key t ht
    rw [tri_key e]
    rfl
  refine ⟨?_, h.sub _ ls hd.perm (fun t ht => ?_) (fun t ht => ?_)⟩
  · obtain ⟨ys, hs, rfl⟩ := h.ys
    obtain ⟨us, hu⟩ := sortedT_ex zs
    have hls : Asc (ls.map tri) := by
      unfold Asc
      rw [List.pairwise_map]
      refine hd.srt.imp (fun {a b} hab => ?_)
      unfold Th.le at hab
      unfold tri
      simp only
      omega
    have h2 : SortedT xs (ls.map tri ++ us) := by
      refine ⟨?_, ?_⟩
      · refine (hu.1.append_left _).trans ?_
        rw [← List.map_append]
        exact hd.perm.map tri
      · unfold Asc
        rw [List.pairwise_append]
        refine ⟨hls, hu.2, fun a ha b hb => ?_⟩
        obtain ⟨t, ht, rfl⟩ := List.mem_map.1 ha
        obtain ⟨u, hu', rfl⟩ := List.mem_map.1 (hu.1.mem_iff.1 hb)
        have h3 := hd.low t ht u hu'
        unfold Th.le at h3
        unfold tri
        simp only
        omega
    rw [hs.one h.apart h2, List.map_append, List.filter_append, List.map_map]
    have e1 : (ls.map (lt ∘ tri)).filter (fun y => decide (y.1 ≤ now)) = ls.map (lt ∘ tri) := by
      rw [List.filter_eq_self]
      intro y hy
      obtain ⟨t, ht, rfl⟩ := List.mem_map.1 hy
      have h3 := hk t (hml t ht)
      have h4 := hd.due t ht
      simp only [Function.comp_apply, decide_eq_true_eq]
      omega
    have e2 : (us.map lt).filter (fun y => decide (y.1 ≤ now)) = [] := by
      rw [List.filter_eq_nil_iff]
      intro y hy
      obtain ⟨u, hu', rfl⟩ := List.mem_map.1 hy
      obtain ⟨t, ht, rfl⟩ := List.mem_map.1 (hu.1.mem_iff.1 hu')
      have h3 := hk t (hmz t ht)
      have h4 := hl t ht
      simp only [decide_eq_true_eq]
      omega
    rw [e1, e2, List.append_nil]
    rfl
  · have h3 := hk t (hmz t ht)
    have h4 := hl t ht
    simp only [decide_eq_true_eq]
    omega
  · have h3 := hk t (hml t ht)
    have h4 := hd.due t ht
    simp only [decide_eq_false_iff_not]
    omega
end Go.Proofs.Yteondokncalbnaa
