/- timers: Set of a new name. -/
import Derived.Test.YteondokncalbnaaTmTable
import Derived.Deep.RegionHeld3
namespace Go.Proofs.Yteondokncalbnaa
open Go.RowKit

set_option maxRecDepth 20000 in
set_option maxHeartbeats 16000000 in
theorem set1 (w : World) (t p : Nat) (v : Value) (M A : Nat) (xs : List Th) (nx : Nat) (h : TabS w t p v M A xs nx) (due : Int) (o : ByteArray) (k : Int) (hk : 0 ≤ k) (hn : ∀ t ∈ xs, nmOf t ≠ (o, k)) (hf : xs.length < 4096) (hnx : nx < 1000000) :
    Calls Try.prog 14 #[.pointer (some ⟨t, 0, none⟩), .int .i64 due, .string o, .int .i64 k] w fun e w' => e = .returned (.int .i64 0) ∧
      ∃ zs v', zs.Perm (xs ++ [⟨due, nx, timV due o k⟩]) ∧ TabS w' t p v' M A zs (nx + 1) ∧ Next w v v' ∧ Turns (TSet t p v M A) w w' := by
  have hm := Lib.hid (made1 w t p h.c0)
  have c0 := h.c0
  have c1 := h.c1
  obtain ⟨m, hmp, hP⟩ := h.at_
  have hno := hP.no (o, k) hn
  have hk0 : ¬ k < 0 := by omega
  have hk1 : decide (k < 0) = false := by simpa using hk0
  have htl := h.blk.lt
  have hne : ((xs.length : Int) == 4096) = false := beq_eq_false_iff_ne.2 (by omega)
  have HH := Lib.hid h
  have HMP := Lib.hid hmp
  have HPP := Lib.hid hP
  have HNO := Lib.hid hno
  have HN := Lib.hid hn
  have W1 : Blk (w.alloc (.cells #[.string o, .int .i64 k] 70)) w.heap.size 70 [.string o, .int .i64 k] := Blk.new w 70 [.string o, .int .i64 k]
  have hB1 := Below.new w (.cells #[.string o, .int .i64 k] 70)
  have H1 := Lib.hid (h.bel hB1)
  have M1 := Lib.hid (hmp.below hB1)
  have a0 := W1.cell 0
  have a1 := W1.cell 1
  simp only [List.getElem?_cons_succ, List.getElem?_cons_zero] at a0 a1
  have c0' := H1.out.c0
  have c1' := H1.out.c1
  clear h hmp hP hno hn hk0
  go_enter Try.func14, Try.ntmps14
  go_wp2_with (go_at_call 32; refine hm.out.mono ?_; rintro e w' ⟨rfl, rfl⟩)
  generalize w'.alloc (.cells #[.string o, .int .i64 k] 70) = W at *
  generalize hb : w'.heap.size = b at *
  have HBQ := Lib.hid hb
  have hlk : ∀ n, (Instr.lookup 37 (.map (some A)) (.agg #[.string o, .int .i64 k]) true).run Try.prog (W.drewN n) = .ok (.tuple #[.int .i64 0, .bool false]) (W.drewN n) := fun n => by
    have := MapIs.lookup (t := 37) (e := 3) (M1.out.below (below_drewN' (Below.refl W.heap.size W) n)) name_keys Try.underlying37 (zeroIntE _) (o, k) true
    rw [HNO.out] at this
    exact this
  clear hb
  go_quiet (fail)
  have M2 := Lib.hid (M1.out.below (below_drewN' (Below.refl W.heap.size W) nq))
  have H2 := Lib.hid (H1.out.bel (below_drewN' (Below.refl W.heap.size W) nq))
  have W2 := Lib.hid (W1.drewN nq)
  have hB2 : Hid (Below b w' (W.drewN nq)) := Lib.hid (below_drewN' hB1 nq)
  clear hlk W1 hB1 a0 a1 c0' c1' M1 H1
  generalize W.drewN nq = V at *
  have c1'' := H2.out.c1
  go_wp2_with (at_len; refine wpl_len _ rfl _ 37 rfl Try.underlying37 M2.out rfl ?_)
  have c0'' := H2.out.c0
  have a0 := W2.out.cell 0
  have a1 := W2.out.cell 1
  simp only [List.getElem?_cons_succ, List.getElem?_cons_zero] at a0 a1
  have hVd : Below V.heap.size V V.drew := below_drewN' (Below.refl V.heap.size V) 1
  have hbS : ¬ HS p v M b := fun hi => by have := HH.out.st.lts b hi; have := HBQ.out; omega
  have HST := Lib.hid ((H2.out.bel hVd).st)
  have htV := H2.out.blk.lt
  have hbV := W2.out.lt
  have hc : ∀ X, Turns (HS p v M) V.drew X → X.cell? ⟨t, 0, none⟩ = some (.pointer (some ⟨p, 0, none⟩)) ∧ X.cell? ⟨t, 1, none⟩ = some (.map (some A)) ∧ X.cell? ⟨b, 0, none⟩ = some (.string o) ∧ X.cell? ⟨b, 1, none⟩ = some (.int .i64 k) := fun X hX =>
    ⟨(hX.cell (p := ⟨t, 0, none⟩) htV H2.out.ft).trans c0'', (hX.cell (p := ⟨t, 1, none⟩) htV H2.out.ft).trans c1'', (hX.cell (p := ⟨b, 0, none⟩) hbV hbS).trans a0, (hX.cell (p := ⟨b, 1, none⟩) hbV hbS).trans a1⟩
  have HC := Lib.hid hc
  have hup : ∀ X, Turns (HS p v M) V.drew X → ∃ X', (Instr.mapUpdate 37 (.map (some A)) (.agg #[.string o, .int .i64 k]) (.int .i64 (nx : Int))).run Try.prog X = .ok () X' ∧ MapIs kNm X' A (updN m (o, k) (.int .i64 (nx : Int))) (if (m (o, k)).isSome then xs.length else xs.length + 1) ∧ MapTurn X X' A := fun X hX =>
    ((M2.out.below hVd).turns hX H2.out.fa).update name_keys Try.underlying37 (o, k) (.int .i64 (nx : Int))
  have HUP := Lib.hid hup
  clear hc hup hVd
  go_region_held3 (fun Y => Y.cell? ⟨t, 0, none⟩ = some (.pointer (some ⟨p, 0, none⟩)) ∧ Y.cell? ⟨t, 1, none⟩ = some (.map (some A)) ∧ Y.cell? ⟨b, 0, none⟩ = some (.string o) ∧ Y.cell? ⟨b, 1, none⟩ = some (.int .i64 k))
    (first | go_keep | exact HCX.out | exact HCY.out)
    (first | (go_at_call 34; refine (pushT V.drew p v M xs nx HST.out due due o k hnx).mono ?_; rintro e X ⟨rfl, zs, v', hp', hs', hn', ht'⟩; obtain ⟨X', hrun, hm3, hw3⟩ := HUP.out X ht'; have hcx := HC.out X ht'; have HCX := Lib.hid hcx; have HCY := Lib.hid (And.intro ((hw3.cell _).trans hcx.1) (And.intro ((hw3.cell _).trans hcx.2.1) (And.intro ((hw3.cell _).trans hcx.2.2.1) ((hw3.cell _).trans hcx.2.2.2)))); clear hcx; have HP3 := Lib.hid hp'; have HS3 := Lib.hid hs'; have HN3 := Lib.hid hn'; have HT3 := Lib.hid ht'; have HM3 := Lib.hid hm3; have HW3 := Lib.hid hw3; clear hp' hs' hn' ht' hm3 hw3))
  go_wp2_with fail
  go_ret
  have e0 : (if (m (o, k)).isSome then xs.length else xs.length + 1) = zs.length := by
    rw [HNO.out, HP3.out.length_eq]; simp
  have hm3 := HM3.out
  rw [e0] at hm3
  have hTV : Turns (TSet t p v M A) w' V := .of_below (by have := hB2.out; rwa [← HBQ.out] at this)
  have hTX : Turns (TSet t p v M A) w' X := (hTV.drewN 1).then (HT3.out.mono (fun i _ e => .inr (.inr e)))
  have hTY : Turns (TSet t p v M A) w' X' := hTX.trans (.of_map (S := fun i => i = A) HW3.out rfl) (fun i _ e => .inr (.inl e))
  have hAV : A < V.heap.size := M2.out.lt
  have hfa : ¬ HS p v' M A := fun hs => HH.out.fa (HS.next HN3.out hAV hs)
  have hft : ¬ HS p v' M t := fun hs => HH.out.ft (HS.next HN3.out htV hs)
  have TA : Turns (fun i => i = A) X X' := .of_map HW3.out rfl
  refine ⟨rfl, zs, v', HP3.out, ⟨((H2.out.blk.drewN 1).turns HT3.out HH.out.ft).turns TA HH.out.ta, HS3.out.keep TA (fun i hi e => hfa (e ▸ hi)), ⟨_, hm3, (HPP.out.set due nx o k hk HN.out).perm HP3.out⟩, hft, hfa, HH.out.ta⟩, ?_, hTY⟩
  refine HN3.out.imp id ?_
  rintro ⟨g, e1, e2⟩
  exact ⟨g, e1, Nat.le_trans hTV.size e2⟩
end Go.Proofs.Yteondokncalbnaa
