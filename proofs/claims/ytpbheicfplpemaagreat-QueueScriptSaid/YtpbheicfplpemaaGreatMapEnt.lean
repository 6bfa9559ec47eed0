/- Maps as functions of their keys: a place of a map held (mapEntry) and written later (entryStore). -/
import Derived.Test.YtpbheicfplpemaaGreatMapFn
namespace Go.Proofs.YtpbheicfplpemaaGreat
open Go.MapKept Go.RowKit
variable {K : Type} {P : Program} {kt e t : TypeId} {kv : K → Value} {w : World} {r n : Nat} {m : K → Option Value}

/-- the entry at a key has this stamp -/
def BornAt (w : World) (r : Nat) (key : Value) (b : Nat) : Prop := ∃ es clock, w.heap[r]? = some (.map es clock) ∧ ∃ (j : Nat) (x : MapEntry), es[j]? = some x ∧ x.key = key ∧ x.born = b
theorem BornAt.other {w' : World} {r' b : Nat} {key : Value} (h : BornAt w r key b) (k : MapTurn w w' r') (hne : r ≠ r') : BornAt w' r key b := by
  obtain ⟨es, clock, hb, h⟩ := h
  exact ⟨es, clock, (k.other hne).trans hb, h⟩
theorem MapIs.entry [DecidableEq K] (h : MapIs kv w r m n) (L : KeyLaw P kt kv) (ht : P.underlying t = some (.map kt e)) {z : Value} (hz : (zeroValue e).run P w = .ok z w) (k : K) :
    ∃ w' b, (Instr.mapEntry t (.map (some r)) (kv k)).run P w = .ok (.tuple #[(m k).getD z, goInt (b : Nat)]) w' ∧ MapIs kv w' r (fun k' => if k' = k then some ((m k).getD z) else m k') (if (m k).isSome then n else n + 1) ∧ MapTurn w w' r ∧ BornAt w' r (kv k) b := by
  obtain ⟨w', hu, hm', hT⟩ := h.update L ht k ((m k).getD z)
  obtain ⟨es, clock, hb, S, hn, hk, hm, h⟩ := h.found L k
  rcases h with ⟨h0, h1, h2⟩ | ⟨j, x, h0, h1, h2, h3⟩
  · simp [Instr.mapUpdate, run_underlying ht, MapKept.run_getObj_map hb, L.check, h1, MapKept.run_setObj_map _ hb, Result.andThen, h0] at hu
    refine ⟨w', clock, ?_, hm', hT, ?_⟩
    · rw [← hu]
      simp [Instr.mapEntry, run_underlying ht, MapKept.run_getObj_map hb, L.check, h1, hz, MapKept.run_setObj_map _ hb, Result.andThen, h0]
    · rw [← hu]
      exact ⟨_, _, (heap_set hb).1, es.size, _, by simp; rfl, rfl, rfl⟩
  · simp [Instr.mapUpdate, run_underlying ht, MapKept.run_getObj_map hb, L.check, h1, h2, h3, L.stays, MapKept.run_setObj_map _ hb, Result.andThen, h0] at hu
    have hmod : (es.modify j fun e => { e with key := kv k, val := x.val }) = es.modify j fun e => { e with key := kv k } := by
      apply Array.ext_getElem?
      intro i
      rw [Array.getElem?_modify, Array.getElem?_modify]
      by_cases hi : j = i
      · subst hi; simp [h2]
      · simp [hi]
    refine ⟨w', x.born, ?_, hm', hT, ?_⟩
    · rw [← hu, hmod]
      simp [Instr.mapEntry, run_underlying ht, MapKept.run_getObj_map hb, L.check, h1, h2, h3, L.stays, MapKept.run_setObj_map _ hb, Result.andThen, h0]
    · rw [← hu]
      exact ⟨_, _, (heap_set hb).1, j, { key := kv k, val := x.val, born := x.born }, by rw [Array.getElem?_modify, if_pos rfl, h2]; rfl, rfl, rfl⟩
theorem MapIs.entryStore [DecidableEq K] (h : MapIs kv w r m n) (L : KeyLaw P kt kv) (ht : P.underlying t = some (.map kt e)) (k : K) {b : Nat} (hB : BornAt w r (kv k) b) (v : Value) :
    ∃ w', (Instr.entryStore t (.map (some r)) (goInt (b : Nat)) v).run P w = .ok () w' ∧ MapIs kv w' r (fun k' => if k' = k then some v else m k') n ∧ MapTurn w w' r := by
  obtain ⟨w', hu, hm', hT⟩ := h.update L ht k v
  obtain ⟨es, clock, hb, S, hn, hk, hm, h⟩ := h.found L k
  obtain ⟨es', clock', hb', j', x', hx', hxk, hxb⟩ := hB
  rw [hb] at hb'
  injection hb' with hb'
  injection hb' with e1 e2
  subst e1
  rcases h with ⟨h0, h1, h2⟩ | ⟨j, x, h0, h1, h2, h3⟩
  · exact absurd hxk (h2 x' (Array.mem_toList_iff.2 (Array.mem_of_getElem? hx')))
  · obtain rfl := key_once S h2 hx' (h3.trans hxk.symm)
    rw [h2] at hx'
    cases hx'
    rw [h0] at hm'
    simp [Instr.mapUpdate, run_underlying ht, MapKept.run_getObj_map hb, L.check, h1, h2, h3, L.stays, MapKept.run_setObj_map _ hb, Result.andThen] at hu
    have hmod : (es.modify j fun e => { e with key := kv k, val := v }) = es.modify j fun e => { e with val := v } := by
      apply Array.ext_getElem?
      intro i
      rw [Array.getElem?_modify, Array.getElem?_modify]
      by_cases hi : j = i
      · subst hi; simp [h2, h3]
      · simp [hi]
    have hf : es.findIdx? (fun e => (e.born : Int) == (b : Int)) = some j := by
      obtain ⟨hj, hjx⟩ := Array.getElem?_eq_some_iff.1 h2
      refine Array.findIdx?_eq_some_iff_getElem.2 ⟨hj, by rw [hjx]; simp [hxb], fun i hi => ?_⟩
      have hnd := S.2.1
      rw [List.Nodup, List.pairwise_map, List.pairwise_iff_getElem] at hnd
      have := hnd i j (by simp; omega) (by simpa using hj) hi
      simp only [Array.getElem_toList] at this
      rw [hjx, hxb] at this
      simpa using fun e => this (by omega)
    refine ⟨w', ?_, hm', hT⟩
    rw [← hu, hmod]
    simp [Instr.entryStore, MapKept.run_getObj_map hb, goInt, asInt, asIntOf, hf, MapKept.run_setObj_map _ hb, Result.andThen]
end Go.Proofs.YtpbheicfplpemaaGreat
