/- QueueOnce: what each step leaves, in plain words; the law's memory. -/
import Derived.Test.YtpbheicfplpemaaQuStand
namespace Go.Proofs.Ytpbheicfplpemaa
open Go.RowKit

theorem OutsS.add {om : Int → Option Ot} {zs : List Ot} (h : OutsS om zs) (x : Ot) (k : Int) (hk : x.token = k) (hl : ∀ y ∈ zs, y.token < k) : OutsS (updI om k x) (zs ++ [x]) := by
  refine ⟨List.pairwise_append.2 ⟨h.ris, List.pairwise_singleton _ _, fun a ha b hb => by simp at hb; subst hb; rw [hk]; exact hl a ha⟩, fun k' y => ?_⟩
  unfold updI
  rw [List.mem_append, List.mem_singleton]
  by_cases e : k' = k
  · rw [if_pos e]
    constructor
    · intro h1; cases h1; exact ⟨.inr rfl, by rw [hk, e]⟩
    · rintro ⟨h1 | h1, h2⟩
      · have := hl y h1; omega
      · rw [h1]
  · rw [if_neg e, h.mem k' y]
    constructor
    · rintro ⟨h1, h2⟩; exact ⟨.inl h1, h2⟩
    · rintro ⟨h1 | h1, h2⟩
      · exact ⟨h1, h2⟩
      · subst h1; exact absurd (h2.symm.trans hk) e
theorem Ris.ne {zs : List Ot} (h : Ris zs) {i j : Nat} (hi : i < zs.length) (hj : j < zs.length) (e : (zs[i]).token = (zs[j]).token) : i = j := by
  rcases Nat.lt_trichotomy i j with h1 | h1 | h1
  · have := List.pairwise_iff_getElem.1 h i j hi hj h1; omega
  · exact h1
  · have := List.pairwise_iff_getElem.1 h j i hj hi h1; omega
theorem mem_erase {zs : List Ot} (h : Ris zs) {j : Nat} (hj : j < zs.length) (y : Ot) : y ∈ zs.eraseIdx j ↔ y ∈ zs ∧ y.token ≠ (zs[j]).token := by
  rw [List.mem_eraseIdx_iff_getElem]
  constructor
  · rintro ⟨i, hi, hne, rfl⟩
    exact ⟨List.getElem_mem hi, fun e => hne (h.ne hi hj e)⟩
  · rintro ⟨h1, h2⟩
    obtain ⟨i, hi, rfl⟩ := List.mem_iff_getElem.1 h1
    exact ⟨i, hi, fun e => h2 (by subst e; rfl), rfl⟩
theorem OutsS.del {om : Int → Option Ot} {zs : List Ot} (h : OutsS om zs) {j : Nat} (hj : j < zs.length) : OutsS (wipI om (zs[j]).token) (zs.eraseIdx j) := by
  refine ⟨List.Pairwise.sublist (List.eraseIdx_sublist _ _) h.ris, fun k y => ?_⟩
  unfold wipI
  rw [mem_erase h.ris hj]
  by_cases e : k = (zs[j]).token
  · rw [if_pos e]
    constructor
    · intro h1; cases h1
    · rintro ⟨⟨_, h2⟩, h3⟩; exact absurd (h3.trans e) h2
  · rw [if_neg e, h.mem k y]
    constructor
    · rintro ⟨h1, h2⟩; exact ⟨⟨h1, fun e2 => e (h2.symm.trans e2)⟩, h2⟩
    · rintro ⟨⟨h1, _⟩, h2⟩; exact ⟨h1, h2⟩
theorem OutsS.place {om : Int → Option Ot} {zs : List Ot} (h : OutsS om zs) {k : Int} {x : Ot} (hk : om k = some x) : ∃ j, ∃ hj : j < zs.length, zs[j] = x ∧ x.token = k := by
  obtain ⟨h1, h2⟩ := (h.mem k x).1 hk
  obtain ⟨j, hj, e⟩ := List.mem_iff_getElem.1 h1
  exact ⟨j, hj, e, h2⟩
theorem OutsS.none {om : Int → Option Ot} {zs : List Ot} (h : OutsS om zs) {k : Int} (hk : om k = none) : ∀ x ∈ zs, x.token ≠ k := fun x hx e => by
  have := (h.mem k x).2 ⟨hx, e⟩
  rw [hk] at this
  cases this
theorem erase_map {α β : Type} (f : α → β) : ∀ (xs : List α) (i : Nat), (xs.eraseIdx i).map f = (xs.map f).eraseIdx i
  | [], _ => rfl
  | _ :: _, 0 => rfl
  | x :: xs, i + 1 => by simp [erase_map f xs i]
section
variable {i : Nat} {ts : List Tk} {zs : List Ot} {tm kf : ByteArray → Option Int}
theorem ON.mono (h : ON i ts zs tm kf) {j : Nat} (hj : i ≤ j) : ON j ts zs tm kf :=
  ⟨h.nd, h.wt, h.out, h.rest, fun t ht => by have := h.att t ht; omega, fun t ht => by have := h.att2 t ht; omega, h.rdy, h.there, by have := h.len; omega⟩
theorem ON.put (h : ON i ts zs tm kf) {key who : ByteArray} {at_ : Int} (hk : kf key = none) (hr : -9223372036854775808 ≤ at_ ∧ at_ ≤ 9223372036854775807) : ON (i + 1) (ts ++ [⟨key, who, at_, 0⟩]) zs (updS tm key 0) (updS kf key 0) := by
  have hni : key ∉ keysOf ts zs := fun hm => by
    unfold keysOf at hm
    rcases List.mem_append.1 hm with hm | hm
    · obtain ⟨t, ht, rfl⟩ := List.mem_map.1 hm; rw [h.wt t ht] at hk; cases hk
    · obtain ⟨t, ht, rfl⟩ := List.mem_map.1 hm; rw [h.out t ht] at hk; cases hk
  have hp : (keysOf (ts ++ [⟨key, who, at_, 0⟩]) zs).Perm (key :: keysOf ts zs) := by
    unfold keysOf
    rw [List.map_append, List.append_assoc]
    exact List.perm_middle
  refine ⟨hp.nodup_iff.2 (List.nodup_cons.2 ⟨hni, h.nd⟩), fun t ht => ?_, fun x hx => ?_, fun k n hkn hn => ?_, fun t ht => ?_, fun x hx => by have := h.att2 x hx; omega, fun t ht => ?_, fun k hkt => ?_, by have := h.len; simp; omega⟩
  · rcases List.mem_append.1 ht with ht | ht
    · unfold updS
      rw [if_neg (fun e => by rw [← e, h.wt t ht] at hk; cases hk)]
      exact h.wt t ht
    · simp at ht; subst ht; simp [updS]
  · unfold updS
    rw [if_neg (fun e => by rw [← e, h.out x hx] at hk; cases hk)]
    exact h.out x hx
  · rw [hp.mem_iff]
    unfold updS at hkn
    by_cases e : k = key
    · exact List.mem_cons.2 (.inl e)
    · rw [if_neg e] at hkn; exact List.mem_cons_of_mem _ (h.rest k n hkn hn)
  · rcases List.mem_append.1 ht with ht | ht
    · have := h.att t ht; omega
    · simp at ht; subst ht; simp; omega
  · rcases List.mem_append.1 ht with ht | ht
    · exact h.rdy t ht
    · simp at ht; subst ht; exact hr
  · unfold updS at hkt ⊢
    by_cases e : k = key
    · rw [if_pos e]; simp
    · rw [if_neg e] at hkt ⊢; exact h.there k hkt
theorem gT_get {ts : List Tk} {j : Nat} (hj : j < ts.length) : gT ts j = ts[j] := by simp [gT, hj]
theorem perm_erase {α : Type} : ∀ (xs : List α) (i : Nat) (hi : i < xs.length), (xs[i] :: xs.eraseIdx i).Perm xs
  | x :: xs, 0, _ => by simp
  | x :: xs, i + 1, hi => by
    have := perm_erase xs i (by simpa using hi)
    simp only [List.getElem_cons_succ, List.eraseIdx_cons_succ]
    exact (List.Perm.swap _ _ _).trans (this.cons x)
theorem ON.poll (h : ON i ts zs tm kf) {j : Nat} (hj : j < ts.length) (next : Int) (who : ByteArray) (u : Int) : ON (i + 1) (ts.eraseIdx j) (zs ++ [⟨{ ts[j] with att := (ts[j]).att + 1 }, next, who, u⟩]) (updS tm (ts[j]).key next) (updS kf (ts[j]).key ((ts[j]).att + 1)) := by
  have hpe := perm_erase ts j hj
  have hm : ∀ t, t ∈ ts.eraseIdx j → t ∈ ts := fun t ht => (List.eraseIdx_sublist _ _).subset ht
  have hp : (keysOf (ts.eraseIdx j) (zs ++ [⟨{ ts[j] with att := (ts[j]).att + 1 }, next, who, u⟩])).Perm (keysOf ts zs) := by
    unfold keysOf
    rw [List.map_append, ← List.append_assoc]
    refine List.perm_append_comm.trans ?_
    have := (hpe.map (·.key)).append_right (zs.map (·.tk.key))
    simpa using this
  have hnd := h.nd
  have hni : ∀ t ∈ ts.eraseIdx j, t.key ≠ (ts[j]).key := fun t ht e => by
    have h1 := (List.nodup_append.1 hnd).1
    rw [← (hpe.map (·.key)).nodup_iff, List.map_cons] at h1
    exact (List.nodup_cons.1 h1).1 (List.mem_map.2 ⟨t, ht, e⟩)
  have hnz : ∀ x ∈ zs, x.tk.key ≠ (ts[j]).key := fun x hx e => (List.nodup_append.1 hnd).2.2 _ (List.mem_map.2 ⟨_, List.getElem_mem hj, rfl⟩) _ (List.mem_map.2 ⟨x, hx, rfl⟩) e.symm
  have ha := h.att _ (List.getElem_mem hj)
  refine ⟨hp.nodup_iff.2 hnd, fun t ht => ?_, fun x hx => ?_, fun k n hkn hn => ?_, fun t ht => by have := h.att t (hm t ht); omega, fun x hx => ?_, fun t ht => h.rdy t (hm t ht), fun k hkt => ?_, ?_⟩
  · unfold updS; rw [if_neg (hni t ht)]; exact h.wt t (hm t ht)
  · rcases List.mem_append.1 hx with hx | hx
    · unfold updS; rw [if_neg (hnz x hx)]; exact h.out x hx
    · simp at hx; subst hx; simp [updS]
  · rw [hp.mem_iff]
    unfold updS at hkn
    by_cases e : k = (ts[j]).key
    · exact List.mem_append_left _ (List.mem_map.2 ⟨_, List.getElem_mem hj, e.symm⟩)
    · rw [if_neg e] at hkn; exact h.rest k n hkn hn
  · rcases List.mem_append.1 hx with hx | hx
    · have := h.att2 x hx; omega
    · simp at hx; subst hx; simp; omega
  · unfold updS at hkt ⊢
    by_cases e : k = (ts[j]).key
    · rw [if_pos e]; simp
    · rw [if_neg e] at hkt ⊢; exact h.there k hkt
  · have := h.len
    rw [List.length_eraseIdx, if_pos hj, List.length_append, List.length_singleton]; omega
theorem ON.done (h : ON i ts zs tm kf) {j : Nat} (hj : j < zs.length) : ON (i + 1) ts (zs.eraseIdx j) (wipS tm (zs[j]).tk.key) (updS kf (zs[j]).tk.key ((zs[j]).tk.att + 1000)) := by
  have hpe := perm_erase zs j hj
  have hm : ∀ t, t ∈ zs.eraseIdx j → t ∈ zs := fun t ht => (List.eraseIdx_sublist _ _).subset ht
  have hnd := h.nd
  have hp : ((zs[j]).tk.key :: keysOf ts (zs.eraseIdx j)).Perm (keysOf ts zs) := by
    unfold keysOf
    refine List.perm_middle.symm.trans ?_
    have := (hpe.map (·.tk.key)).append_left (ts.map (·.key))
    simpa using this
  have hnd2 := List.nodup_cons.1 (hp.nodup_iff.2 hnd)
  have hnt : ∀ t ∈ ts, t.key ≠ (zs[j]).tk.key := fun t ht e => hnd2.1 (List.mem_append_left _ (List.mem_map.2 ⟨t, ht, e⟩))
  have hnz : ∀ x ∈ zs.eraseIdx j, x.tk.key ≠ (zs[j]).tk.key := fun t ht e => hnd2.1 (List.mem_append_right _ (List.mem_map.2 ⟨t, ht, e⟩))
  have ha := h.att2 _ (List.getElem_mem hj)
  refine ⟨hnd2.2, fun t ht => ?_, fun x hx => ?_, fun k n hkn hn => ?_, fun t ht => by have := h.att t ht; omega, fun x hx => by have := h.att2 x (hm x hx); omega, h.rdy, fun k hkt => ?_, ?_⟩
  · unfold updS; rw [if_neg (hnt t ht)]; exact h.wt t ht
  · unfold updS; rw [if_neg (hnz x hx)]; exact h.out x (hm x hx)
  · unfold updS at hkn
    by_cases e : k = (zs[j]).tk.key
    · rw [if_pos e] at hkn; injection hkn with hkn; omega
    · rw [if_neg e] at hkn
      rcases List.mem_cons.1 (hp.mem_iff.2 (h.rest k n hkn hn)) with e2 | h2
      · exact absurd e2 e
      · exact h2
  · unfold updS
    unfold wipS at hkt
    by_cases e : k = (zs[j]).tk.key
    · rw [if_pos e]; simp
    · rw [if_neg e] at hkt ⊢; exact h.there k hkt
  · have := h.len
    rw [List.length_eraseIdx, if_pos hj]; omega
theorem ON.back (h : ON i ts zs tm kf) {j : Nat} (hj : j < zs.length) {at_ : Int} (hr : -9223372036854775808 ≤ at_ ∧ at_ ≤ 9223372036854775807) : ON (i + 1) (ts ++ [⟨(zs[j]).tk.key, ⟨#[]⟩, at_, (zs[j]).tk.att⟩]) (zs.eraseIdx j) (updS tm (zs[j]).tk.key 0) kf := by
  have hpe := perm_erase zs j hj
  have hm : ∀ t, t ∈ zs.eraseIdx j → t ∈ zs := fun t ht => (List.eraseIdx_sublist _ _).subset ht
  have hnd := h.nd
  have hp : (keysOf (ts ++ [⟨(zs[j]).tk.key, ⟨#[]⟩, at_, (zs[j]).tk.att⟩]) (zs.eraseIdx j)).Perm (keysOf ts zs) := by
    unfold keysOf
    rw [List.map_append, List.append_assoc]
    have := (hpe.map (·.tk.key)).append_left (ts.map (·.key))
    simpa using this
  have ho := h.out _ (List.getElem_mem hj)
  have ha := h.att2 _ (List.getElem_mem hj)
  refine ⟨hp.nodup_iff.2 hnd, fun t ht => ?_, fun x hx => h.out x (hm x hx), fun k n hkn hn => hp.mem_iff.2 (h.rest k n hkn hn), fun t ht => ?_, fun x hx => by have := h.att2 x (hm x hx); omega, fun t ht => ?_, fun k hkt => ?_, ?_⟩
  · rcases List.mem_append.1 ht with ht | ht
    · exact h.wt t ht
    · simp at ht; subst ht; exact ho
  · rcases List.mem_append.1 ht with ht | ht
    · have := h.att t ht; omega
    · simp at ht; subst ht; simp; omega
  · rcases List.mem_append.1 ht with ht | ht
    · exact h.rdy t ht
    · simp at ht; subst ht; exact hr
  · unfold updS at hkt
    by_cases e : k = (zs[j]).tk.key
    · rw [e, ho]; simp
    · rw [if_neg e] at hkt; exact h.there k hkt
  · have := h.len
    rw [List.length_eraseIdx, if_pos hj, List.length_append, List.length_singleton]; omega
end
theorem ON.start : ON 0 [] [] (fun _ => none) (fun _ => none) :=
  ⟨List.nodup_nil, fun _ h => (by cases h), fun _ h => (by cases h), fun _ _ h => (by cases h), fun _ h => (by cases h), fun _ h => (by cases h), fun _ h => (by cases h), fun _ h => absurd rfl h, by simp⟩
end Go.Proofs.Ytpbheicfplpemaa
