/- wal: what the frame tells of a Saved that came in (over the texts that gen/turn_rf.py turns). -/
import Derived.Test.YteihedfmmiihiaaGreatWlMem
import Derived.Test.YteihedfmmiihiaaGreatWmK
import Derived.Deep.Strs
import Derived.OpenShut
namespace Go.Proofs.YteihedfmmiihiaaGreat
open Go.RowKit Go.ChangeShapes Go.WideShapes Go.Deep

/-- no other type holds what has an entry's layout -/
theorem ent_all : ((List.range 182).all fun t => enT t || (!sameLayout Tryz.prog Tryz.prog.depth t 29 && (match Tryz.prog.underlying t with | some (.struct fs) => fs.all (fun f => !enT f.type) | some (.array _ e) => !enT e | _ => true))) = true := by kernel_rfl
theorem ent_no (t : TypeId) (h : enT t = false) : sameLayout Tryz.prog Tryz.prog.depth t 29 = false ∧ (∀ fs, Tryz.prog.underlying t = some (.struct fs) → ∀ f ∈ fs, enT f.type = false) ∧ (∀ m e, Tryz.prog.underlying t = some (.array m e) → enT e = false) := by
  have ht : t < 182 := by
    rcases Nat.lt_or_ge t 182 with h0 | h0
    · exact h0
    · unfold enT at h
      rw [decide_eq_true h0] at h
      simp at h
  have h0 := List.all_eq_true.1 ent_all t (List.mem_range.2 ht)
  simp only [h, Bool.false_or, Bool.and_eq_true] at h0
  obtain ⟨h1, h2⟩ := h0
  refine ⟨by simpa using h1, fun fs hfs f hf => ?_, fun m e he => ?_⟩
  · rw [hfs] at h2
    simp only [Array.all_eq_true_iff_forall_mem] at h2
    simpa using h2 f hf
  · rw [he] at h2
    simpa using h2
theorem row_no : ∀ (d : Nat) (e : TypeId) (count off n : Nat), enT e = false → rowAt Tryz.prog (sameLayout Tryz.prog Tryz.prog.depth · 29) d e count off n = false
  | 0, _, _, _, _, _ => rfl
  | d + 1, e, count, off, n, h => by
    obtain ⟨h1, h2, h3⟩ := ent_no e h
    unfold rowAt
    simp only [h1, Bool.and_false, Bool.false_or]
    split
    · rfl
    · rw [Bool.and_eq_false_iff]
      right
      split
      · rename_i fs hfs
        rw [Bool.and_eq_false_iff]
        right
        rw [Array.any_eq_false']
        intro f hf
        rw [row_no d f.type _ _ _ (h2 fs hfs f hf)]
        simp
      · rename_i m e' he
        exact row_no d e' _ _ _ (h3 m e' he)
      · rfl
set_option maxRecDepth 100000 in
theorem lies_en (D : Nat) (row : TypeId) (cnt off n : Nat) (h : liesAt Tryz.prog D row cnt off 29 n = true) : enT row = true := by
  cases D with
  | zero => simp [liesAt] at h
  | succ d =>
    by_cases he : enT row = true
    · exact he
    · have he' : enT row = false := by simpa using he
      have hr : rowAt Tryz.prog (sameLayout Tryz.prog Tryz.prog.depth · 29) Tryz.prog.depth row cnt off n = false := row_no Tryz.prog.depth row cnt off n he'
      have hu := Tryz.underlying29
      unfold liesAt at h
      generalize rowAt Tryz.prog (sameLayout Tryz.prog Tryz.prog.depth · 29) Tryz.prog.depth row cnt off n = b at h hr
      generalize Tryz.prog.underlying 29 = q at h hu
      subst hr hu
      cases h
theorem has_at {w : World} {base : Nat} {a : Addr} {n : Nat} (h : w.has Tryz.prog .any base a 29 n) : a.spot = none ∧ ∃ cs, AtE w a.block cs := by
  unfold World.has at h
  obtain ⟨_, hs, row, cells, hsh, hl⟩ := h
  refine ⟨hs, ?_⟩
  have he : enT row = true := lies_en Tryz.prog.depth row (cells / Tryz.prog.cellsOf row) a.off n hl
  unfold World.shape? at hsh
  split at hsh
  · rename_i C T fr hh
    injection hsh with hsh
    injection hsh with h1 h2
    subst h1
    exact ⟨C, T, fr, hh, he⟩
  · cases hsh
theorem entry_one : oneCellFields Tryz.prog (Tryz.prog.fieldsOf 29) = true := by kernel_rfl
theorem entry_cells : Tryz.prog.cellsOf 29 = (Tryz.prog.fieldsOf 29).size := by kernel_rfl
theorem entry_struct : Tryz.prog.underlying 29 = some (.struct (Tryz.prog.fieldsOf 29)) := by kernel_rfl
theorem entry_size : (Tryz.prog.fieldsOf 29).size = 2 := by kernel_rfl
theorem entry_t (j : Nat) (t : TypeId) (h : ((Tryz.prog.fieldsOf 29)[j]?).map (fun f => f.type) = some t) : ∃ f, (Tryz.prog.fieldsOf 29)[j]? = some f ∧ f.type = t := Option.map_eq_some_iff.1 h
theorem saved_types : Tryz.prog.cellTypes Tryz.prog.depth 27 = some [2, 3, 25] := by kernel_rfl
theorem cells_i64 : Tryz.prog.cellsOf 2 = 1 := by kernel_rfl
theorem cells_int : Tryz.prog.cellsOf 3 = 1 := by kernel_rfl
theorem cells_log : Tryz.prog.cellsOf 25 = 1 := by kernel_rfl
theorem cells_saved : Tryz.prog.cellsOf 27 = 3 := by kernel_rfl
section
variable {H : Type} {enc : TypeId × Value → H} {w : World} {base base2 : Nat} {spare : Nat → Bool} {held : Bool} {fuel : Nat} {x : DataW H × List MemPlace}
set_option maxRecDepth 100000 in
set_option maxHeartbeats 1600000 in
theorem log_of {v : Value} (h : DataW.trod enc Tryz.prog w base spare held fuel 25 [v] = some x) (hok : Cell.okWide Tryz.prog w .any base2 25 v) : ∃ A n c L, v = .slice A n c ∧ Lg w A n c L := by
  rcases open_rows Tryz.underlying25 entry_struct entry_one entry_cells h with e | ⟨a, len, cap, e, hl, hm, hf⟩
  · simp only [List.cons.injEq, and_true] at e
    subst e
    exact ⟨none, 0, 0, [], rfl, Lg.none w⟩
  · simp only [List.cons.injEq, and_true] at e
    subst e
    have hu := Tryz.underlying25
    have hok2 : w.has Tryz.prog .any base2 a 29 cap := by
      unfold Cell.okWide at hok
      rw [hu] at hok
      simp only at hok
      unfold Cell.ok at hok
      rw [hu] at hok
      exact hok.2.2
    by_cases h0 : len = 0
    · subst h0
      exact ⟨some a, 0, cap, [], rfl, ⟨rfl, ⟨hl, hm⟩, (fun e => by cases e), .nil _ _⟩⟩
    · obtain ⟨hs, cs, hat⟩ := has_at hok2
      obtain ⟨f0, g0, t0⟩ := entry_t 0 2 (by kernel_rfl)
      obtain ⟨f1, g1, t1⟩ := entry_t 1 9 (by kernel_rfl)
      rw [entry_size] at hf
      have key : ∀ i, ∃ x : En, i < len → w.cell? ⟨a.block, a.off + i * 2, none⟩ = some (.int .i64 x.term) ∧ w.cell? ⟨a.block, a.off + i * 2 + 1, none⟩ = some (.string x.data) := fun i => by
        by_cases hi : i < len
        · obtain ⟨v0, y0, n0, c0, k0⟩ := hf i hi 0 f0 g0
          obtain ⟨v1, y1, n1, c1, k1⟩ := hf i hi 1 f1 g1
          rw [t0] at k0
          rw [t1] at k1
          obtain ⟨z0, e0, _, _⟩ := DataW.trod_int Tryz.underlying2 k0
          obtain ⟨z1, e1, _, _⟩ := DataW.trod_string Tryz.underlying9 k1
          simp only [List.cons.injEq, and_true] at e0 e1
          subst e0 e1
          rw [add_at hs] at c0 c1
          exact ⟨⟨z0, z1⟩, fun _ => ⟨c0, by rw [Nat.add_assoc]; exact c1⟩⟩
        · exact ⟨⟨0, ⟨#[]⟩⟩, fun h => absurd h hi⟩
      obtain ⟨f, hF⟩ := Classical.axiomOfChoice key
      refine ⟨some a, len, cap, (List.range len).map f, rfl, ⟨by simp, ⟨hl, hm⟩, (fun e => by cases e), fun k hk => ?_⟩⟩
      have hk' : k < len := by simpa using hk
      obtain ⟨c0, c1⟩ := hF k hk'
      refine ⟨a.block, a.off, cs, ?_, hat, ?_, ?_⟩
      · obtain ⟨b, o, s⟩ := a
        simp only at hs
        subst hs
        rfl
      · rw [List.getElem_map, List.getElem_range]
        exact c0
      · rw [List.getElem_map, List.getElem_range]
        exact c1
set_option maxRecDepth 100000 in
set_option maxHeartbeats 1600000 in
theorem saved_of {cs0 : Array Value} (h : DataW.trod enc Tryz.prog w base spare held fuel 27 cs0.toList = some x) (hrow : Row.okWide Tryz.prog w .any base2 27 cs0) :
    ∃ (s : Sv) (A : Option Addr) (c : Nat), cs0 = #[.int .i64 s.term, .int .i64 s.vote, .slice A s.log.length c] ∧ Lg w A s.log.length c s.log := by
  obtain ⟨y0, y1, y2, n, rfl, hl, h0, h1, h2⟩ := trod_struct3 Tryz.underlying27 h
  have hl3 : cs0.toList.length = 3 := hl.trans cells_saved
  obtain ⟨v0, v1, v2, hv⟩ : ∃ v0 v1 v2, cs0.toList = [v0, v1, v2] := by
    match cs0.toList, hl3 with
    | [a, b, c], _ => exact ⟨a, b, c, rfl⟩
  rw [hv] at h0 h1 h2
  simp only [cells_i64, cells_int, cells_log] at h0 h1 h2
  obtain ⟨z0, e0, _, _⟩ := DataW.trod_int (cs := [v0]) Tryz.underlying2 h0
  obtain ⟨z1, e1, _, _⟩ := DataW.trod_int (cs := [v1]) Tryz.underlying3 h1
  simp only [List.cons.injEq, and_true] at e0 e1
  subst e0 e1
  obtain ⟨ts, hts, _, hcell⟩ := hrow
  rw [saved_types] at hts
  injection hts with hts
  subst hts
  have hcs : cs0 = #[.int .i64 z0, .int .i64 z1, v2] := by
    apply Array.ext'
    rw [hv]
  obtain ⟨u, hu, hok⟩ := hcell 2 v2 (by rw [hcs]; rfl)
  have hu2 : u = 25 := by
    simp at hu
    exact hu.symm
  subst hu2
  obtain ⟨A, m, c, L, rfl, hL⟩ := log_of (v := v2) h2 hok
  have hm := hL.len
  subst hm
  exact ⟨⟨z0, z1, L⟩, A, c, hcs, hL⟩
end
end Go.Proofs.YteihedfmmiihiaaGreat
