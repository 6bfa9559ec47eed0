/- The document's crash in plain words. -/
import Derived.Test.YtoljnklceghcdaaRdPlain
namespace Go.Proofs.Ytoljnklceghcdaa
open Go.RowKit Go.Maps Go.Sort Go.Shelf

/-- a file of which m bytes that wait are kept -/
def crR (f : RF) (m : Nat) : RF := ⟨f.name, f.last ++ f.waits.extract 0 m, ⟨#[]⟩⟩
theorem toL_app (a b : ByteArray) : (a ++ b).data.toList = a.data.toList ++ b.data.toList := by simp
theorem toL_ext (a : ByteArray) (m : Nat) : (a.extract 0 m).data.toList = a.data.toList.take m := by
  simp [ByteArray.data_extract]
theorem size_toL (a : ByteArray) : a.data.toList.length = a.size := by simp
theorem pl_mem {L : List RF} (h : Rise L) {f : RF} (hf : f ∈ L) : pl (pOf L) f.name = f.fd := by
  unfold pl; rw [pOf_mem h hf]; rfl
theorem keyB_nm (f : RF) : keyB (nm f) = f.name := by
  apply key_inj
  simp [keyB, nm]
theorem pOf_set {L : List RF} (h : Rise L) {i : Nat} (hi : i < L.length) (g : RF) (hg : g.name = L[i].name) : pOf (L.set i g) = upd (pOf L) g.name g.fd := by
  funext k
  have hR : Rise (L.set i g) := by
    unfold Rise
    rw [List.map_set]
    have : (L.map nm).set i (nm g) = L.map nm := by
      apply List.ext_getElem (by simp)
      intro j h1 h2
      rw [List.getElem_set]
      split
      · rename_i e
        subst e
        simp [nm, hg]
      · rfl
    rw [this]; exact h
  unfold upd
  by_cases hk : k = g.name
  · subst hk
    rw [if_pos rfl]
    exact pOf_mem hR (List.mem_iff_getElem.2 ⟨i, by simpa using hi, by simp⟩)
  · rw [if_neg hk]
    unfold pOf
    have hE : ∀ (M : List RF) (j : Nat) (hj : j < M.length), M[j].name = g.name → ((M.set j g).find? (fun f => decide (f.name = k))) = M.find? (fun f => decide (f.name = k)) := by
      intro M
      induction M with
      | nil => intro j hj; simp at hj
      | cons a M ih =>
        intro j hj ha
        cases j with
        | zero =>
          simp only [List.getElem_cons_zero] at ha
          have h1 : ¬ g.name = k := fun e => hk e.symm
          have h2 : ¬ a.name = k := by rw [ha]; exact h1
          simp [h1, h2]
        | succ j =>
          simp only [List.getElem_cons_succ, List.length_cons] at ha hj
          rw [List.set_cons_succ, List.find?_cons, List.find?_cons, ih j (by omega) ha]
    rw [hE L i hi hg.symm]
theorem rise_set {L : List RF} (h : Rise L) {i : Nat} (hi : i < L.length) (g : RF) (hg : g.name = L[i].name) : Rise (L.set i g) ∧ (L.set i g).map nm = L.map nm := by
  have : (L.set i g).map nm = L.map nm := by
    rw [List.map_set]
    apply List.ext_getElem (by simp)
    intro j h1 h2
    rw [List.getElem_set]
    split
    · rename_i e
      subst e
      simp [nm, hg]
    · rfl
  exact ⟨by unfold Rise; rw [this]; exact h, this⟩
theorem crR_fd (f : RF) (m : Nat) (hm : m ≤ f.waits.size) : (crR f m).fd = (f.fd.1.take (f.last.size + m), f.last.size + m) := by
  have h1 := size_toL f.last
  have h2 := size_toL f.waits
  unfold RF.fd crR
  simp only [toL_app, toL_ext]
  refine Prod.ext ?_ ?_
  · simp only
    have h3 : (f.last.data.toList).take (f.last.size + m) = f.last.data.toList := List.take_of_length_le (by omega)
    rw [List.take_append, h3, h1, Nat.add_sub_cancel_left]
    exact List.append_nil _
  · simp only
    rw [← size_toL, toL_app, toL_ext, List.length_append, List.length_take]
    omega
theorem crash_stay (n : Nat) (z : Nat → Int) {L : List RF} (h : Rise L) (i k : Nat) (hi : i < L.length) (hw : L[i].waits.size = 0) :
    crashF n z ((L.map nm).drop i) k (pOf L) = crashF n z ((L.map nm).drop (i + 1)) k (pOf L) := by
  rw [List.drop_eq_getElem_cons (by simpa using hi), List.getElem_map]
  conv => lhs; unfold crashF
  rw [keyB_nm, pl_mem h (List.getElem_mem hi)]
  rw [if_pos]
  unfold RF.fd
  simp only
  rw [List.length_append, size_toL, size_toL, hw]
  omega
theorem crash_turn (n : Nat) (z : Nat → Int) {L : List RF} (h : Rise L) (i k : Nat) (hi : i < L.length) (hw : L[i].waits.size ≠ 0) :
    crashF n z ((L.map nm).drop i) k (pOf L) = crashF n z (((L.set i (crR L[i] (more n z k L[i].waits.size))).map nm).drop (i + 1)) (k + 1) (pOf (L.set i (crR L[i] (more n z k L[i].waits.size)))) := by
  have hm := more_le n z k L[i].waits.size
  have e1 : L[i].fd.1.length - L[i].fd.2 = L[i].waits.size := by
    unfold RF.fd
    simp only
    rw [List.length_append, size_toL, size_toL]
    omega
  have e2 : L[i].fd.2 = L[i].last.size := rfl
  rw [(rise_set h hi (crR L[i] (more n z k L[i].waits.size)) rfl).2, pOf_set h hi (crR L[i] (more n z k L[i].waits.size)) rfl, crR_fd _ _ hm]
  rw [List.drop_eq_getElem_cons (by simpa using hi), List.getElem_map]
  conv => lhs; unfold crashF
  rw [keyB_nm, pl_mem h (List.getElem_mem hi), e1, e2, if_neg]
  · rfl
  · unfold RF.fd
    simp only
    rw [List.length_append, size_toL, size_toL]
    omega
end Go.Proofs.Ytoljnklceghcdaa
