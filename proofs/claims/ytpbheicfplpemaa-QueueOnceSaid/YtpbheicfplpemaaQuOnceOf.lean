/- QueueOnce at what the frame tells of the steps that came in. -/
import Derived.Test.YtpbheicfplpemaaQuOnce
import Derived.Test.YtpbheicfplpemaaOpenRows
import Derived.OpenShut
namespace Go.Proofs.Ytpbheicfplpemaa
open Go.RowKit Go.ChangeShapes Go.WideShapes Go.Deep
set_option maxRecDepth 20000 in
set_option maxHeartbeats 1600000 in
theorem long_free (w : World) (a : Option Addr) (n c : Nat) (S : Nat → Sp) (h : Stps w a n S) : Calls Try.prog 19 #[.slice a n c] w (LongY w n S) := by
  have HS := Lib.hid h
  clear h
  go_enter Try.func19, Try.ntmps19
  go_wp2_with fail
  go_loopw [3] (fun iv wr => ∃ k : Nat, k ≤ n ∧ k ≤ 100 ∧ iv = .int .i64 (k : Int) ∧ wr = w ∧ Hid (∀ i, i < k → (S i).key.size ≤ 200 ∧ (S i).who.size ≤ 200)) (fun iv _ => n - (intOf iv).toNat)
  case atStart => exact ⟨0, by omega, by omega, rfl, rfl, Lib.hid (fun i hi => absurd hi (Nat.not_lt_zero _))⟩
  case round =>
    obtain ⟨k, hk, hk2, rfl, rfl, hA⟩ := hrel
    by_cases hlt : k < n
    · have hlt1 : (k : Int) < (n : Int) := by omega
      by_cases hlt2 : k < 100
      · have hlt3 : (k : Int) < 100 := by omega
        obtain ⟨b, o, rfl, hl, c0, c1, c2, c3, c4, c5⟩ := HS.out.cell k hlt
        by_cases h1 : 200 < (S k).key.size
        · have h1' : (200 : Int) < ((S k).key.size : Int) := by omega
          go_wp2_with fail
          go_ret
          exact ⟨true, rfl, fun h => (by cases h), rfl⟩
        · have h1' : ¬ (200 : Int) < ((S k).key.size : Int) := by omega
          by_cases h2 : 200 < (S k).who.size
          · have h2' : (200 : Int) < ((S k).who.size : Int) := by omega
            go_wp2_with fail
            go_ret
            exact ⟨true, rfl, fun h => (by cases h), rfl⟩
          · have h2' : ¬ (200 : Int) < ((S k).who.size : Int) := by omega
            go_wp2_with fail
            go_roundw
            case measure => simp only [intOf]; omega
            case rel => exact ⟨k + 1, by omega, by omega, by go_num, by first | rfl | trivial, Lib.hid (fun i hi => by
              by_cases e : i = k
              · subst e; exact ⟨by omega, by omega⟩
              · exact hA.out i (by omega))⟩
      · have hlt3 : ¬ (k : Int) < 100 := by omega
        have hn3 : decide (100 < (n : Int)) = true := decide_eq_true (by omega)
        go_wp2_with fail
        go_ret
        exact ⟨true, rfl, fun h => (by cases h), rfl⟩
    · obtain rfl : k = n := by omega
      have hlt1 : ¬ (k : Int) < (k : Int) := by omega
      have hn3 : decide (100 < (k : Int)) = false := decide_eq_false (by omega)
      go_wp2_with fail
      go_ret
      exact ⟨false, rfl, fun _ => ⟨hk2, hA.out⟩, rfl⟩
set_option maxRecDepth 20000 in
theorem once_long2 (most grace : Int) (a : Option Addr) (n c : Nat) (S : Nat → Sp) (w : World) (hS : Stps w a n S) (hl : 80 < (n : Int)) : Calls Try.prog 5 #[.int .i64 most, .int .i64 grace, .slice a n c] w fun e w' => e = .returned (.bool true) ∧ Below w.heap.size w w' := by
  have HS := Lib.hid hS
  clear hS
  go_enter Try.func5, Try.ntmps5
  go_wp2_with fail
  refine (awake_any w).mono ?_
  rintro e w1 ⟨rfl, hb⟩
  have HB := Lib.hid hb
  clear hb
  go_wp2_with fail
  refine (long_free w1 a n c S (HS.out.bel HB.out)).mono ?_
  rintro e w2 ⟨b, rfl, hbf, rfl⟩
  clear hbf
  cases b
  all_goals
    go_wp2_with fail
    go_ret
    exact ⟨rfl, HB.out⟩

theorem once_any (most grace : Int) (a : Option Addr) (n c : Nat) (S : Nat → Sp) (w : World) (hS : Stps w a n S) (hm : (Lit.int .i64 most).wf = true) (hg : (Lit.int .i64 grace).wf = true) :
    Calls Try.prog 5 #[.int .i64 most, .int .i64 grace, .slice a n c] w fun e w' => e = .returned (.bool true) ∧ Below w.heap.size w w' := by
  by_cases hn : 80 < (n : Int)
  · exact once_long2 most grace a n c S w hS hn
  · have h2 := bounds_i64 hg
    by_cases hb : 1 ≤ most ∧ most ≤ 4096 ∧ 0 ≤ grace
    · exact once_in most grace a n c S w hS hn ⟨hb.1, hb.2.1⟩ ⟨hb.2.2, by omega⟩
    · exact once_out most grace a n c S w hS hn (by omega)
instance sp_inhabited : Inhabited Sp := ⟨⟨0, ⟨#[]⟩, ⟨#[]⟩, 0, 0, 0⟩⟩
def strOf : Value → ByteArray
  | .string s => s
  | _ => ⟨#[]⟩
theorem step_one : oneCellFields Try.prog (Try.prog.fieldsOf 50) = true := by kernel_rfl
theorem step_cells : Try.prog.cellsOf 50 = (Try.prog.fieldsOf 50).size := by kernel_rfl
theorem step_struct : Try.prog.underlying 50 = some (.struct (Try.prog.fieldsOf 50)) := by kernel_rfl
theorem step_size : (Try.prog.fieldsOf 50).size = 6 := by kernel_rfl
theorem step_t0 : ((Try.prog.fieldsOf 50)[0]?).map (fun f => f.type) = some 5 := by kernel_rfl
theorem step_f0 : ∃ f, (Try.prog.fieldsOf 50)[0]? = some f ∧ f.type = 5 := Option.map_eq_some_iff.1 step_t0
theorem step_t1 : ((Try.prog.fieldsOf 50)[1]?).map (fun f => f.type) = some 9 := by kernel_rfl
theorem step_f1 : ∃ f, (Try.prog.fieldsOf 50)[1]? = some f ∧ f.type = 9 := Option.map_eq_some_iff.1 step_t1
theorem step_t2 : ((Try.prog.fieldsOf 50)[2]?).map (fun f => f.type) = some 9 := by kernel_rfl
theorem step_f2 : ∃ f, (Try.prog.fieldsOf 50)[2]? = some f ∧ f.type = 9 := Option.map_eq_some_iff.1 step_t2
theorem step_t3 : ((Try.prog.fieldsOf 50)[3]?).map (fun f => f.type) = some 2 := by kernel_rfl
theorem step_f3 : ∃ f, (Try.prog.fieldsOf 50)[3]? = some f ∧ f.type = 2 := Option.map_eq_some_iff.1 step_t3
theorem step_t4 : ((Try.prog.fieldsOf 50)[4]?).map (fun f => f.type) = some 2 := by kernel_rfl
theorem step_f4 : ∃ f, (Try.prog.fieldsOf 50)[4]? = some f ∧ f.type = 2 := Option.map_eq_some_iff.1 step_t4
theorem step_t5 : ((Try.prog.fieldsOf 50)[5]?).map (fun f => f.type) = some 3 := by kernel_rfl
theorem step_f5 : ∃ f, (Try.prog.fieldsOf 50)[5]? = some f ∧ f.type = 3 := Option.map_eq_some_iff.1 step_t5
set_option maxHeartbeats 1600000 in
theorem steps_of {H : Type} {enc : TypeId × Value → H} {w : World} {base : Nat} {spare : Nat → Bool} {held : Bool} {fuel : Nat} {a : Option Addr} {n c : Nat} {x : DataW H × List MemPlace}
    (h : DataW.trod enc Try.prog w base spare held fuel 45 [.slice a n c] = some x) : ∃ S, Stps w a n S := by
  rcases open_rows Try.underlying45 step_struct step_one step_cells h with e | ⟨a', len, cap, e, hl, hm, hf⟩
  · simp at e
    obtain ⟨rfl, rfl, rfl⟩ := e
    exact ⟨fun _ => ⟨0, ⟨#[]⟩, ⟨#[]⟩, 0, 0, 0⟩, ⟨fun i hi => absurd hi (Nat.not_lt_zero _), fun i hi => absurd hi (Nat.not_lt_zero _)⟩⟩
  · simp at e
    obtain ⟨rfl, rfl, rfl⟩ := e
    obtain ⟨f0, g0, t0⟩ := step_f0
    obtain ⟨f1, g1, t1⟩ := step_f1
    obtain ⟨f2, g2, t2⟩ := step_f2
    obtain ⟨f3, g3, t3⟩ := step_f3
    obtain ⟨f4, g4, t4⟩ := step_f4
    obtain ⟨f5, g5, t5⟩ := step_f5
    rw [step_size] at hf
    have key : ∀ i, i < n → ∃ s : Sp, (∃ b o, some a' = some (⟨b, o, none⟩ : Addr) ∧ b < w.heap.size ∧ w.cell? ⟨b, o + i * 6, none⟩ = some (.int .u8 s.d) ∧ w.cell? ⟨b, o + i * 6 + 1, none⟩ = some (.string s.key) ∧ w.cell? ⟨b, o + i * 6 + 2, none⟩ = some (.string s.who) ∧ w.cell? ⟨b, o + i * 6 + 3, none⟩ = some (.int .i64 s.at_) ∧ w.cell? ⟨b, o + i * 6 + 4, none⟩ = some (.int .i64 s.lease) ∧ w.cell? ⟨b, o + i * 6 + 5, none⟩ = some (.int .i64 s.num)) ∧ (-9223372036854775808 ≤ s.at_ ∧ s.at_ ≤ 9223372036854775807) ∧ (-9223372036854775808 ≤ s.lease ∧ s.lease ≤ 9223372036854775807) ∧ (-9223372036854775808 ≤ s.num ∧ s.num ≤ 9223372036854775807) := fun i hi => by
      obtain ⟨v, _, _, hz, _⟩ := hf 0 (by omega) 0 f0 g0
      have hs := spot_none (by simpa using hz)
      obtain ⟨v0, y0, n0, c0, k0⟩ := hf i hi 0 f0 g0
      obtain ⟨v1, y1, n1, c1, k1⟩ := hf i hi 1 f1 g1
      obtain ⟨v2, y2, n2, c2, k2⟩ := hf i hi 2 f2 g2
      obtain ⟨v3, y3, n3, c3, k3⟩ := hf i hi 3 f3 g3
      obtain ⟨v4, y4, n4, c4, k4⟩ := hf i hi 4 f4 g4
      obtain ⟨v5, y5, n5, c5, k5⟩ := hf i hi 5 f5 g5
      rw [t0] at k0
      rw [t1] at k1
      rw [t2] at k2
      rw [t3] at k3
      rw [t4] at k4
      rw [t5] at k5
      obtain ⟨z0, e0, _, q0⟩ := DataW.trod_int Try.underlying5 k0
      obtain ⟨z1, e1, _, q1⟩ := DataW.trod_string Try.underlying9 k1
      obtain ⟨z2, e2, _, q2⟩ := DataW.trod_string Try.underlying9 k2
      obtain ⟨z3, e3, _, q3⟩ := DataW.trod_int Try.underlying2 k3
      obtain ⟨z4, e4, _, q4⟩ := DataW.trod_int Try.underlying2 k4
      obtain ⟨z5, e5, _, q5⟩ := DataW.trod_int Try.underlying3 k5
      simp only [List.cons.injEq, and_true] at e0 e1 e2 e3 e4 e5
      subst e0 e1 e2 e3 e4 e5
      have hb := World.block_lt_of_cell? w _ c0
      rw [add_at hs] at hb c0 c1 c2 c3 c4 c5
      have b3 := bounds_i64 q3
      have b4 := bounds_i64 q4
      have b5 := bounds_i64 q5
      refine ⟨⟨z0, z1, z2, z3, z4, z5⟩, ⟨a'.block, a'.off, ?_, hb, c0, ?_, ?_, ?_, ?_, ?_⟩, by simp only; omega, by simp only; omega, by simp only; omega⟩
      · obtain ⟨b, o, s⟩ := a'
        simp only at hs
        subst hs
        rfl
      · rw [Nat.add_assoc]; exact c1
      · rw [Nat.add_assoc]; exact c2
      · rw [Nat.add_assoc]; exact c3
      · rw [Nat.add_assoc]; exact c4
      · rw [Nat.add_assoc]; exact c5
    obtain ⟨S, hS⟩ := choose_lt key
    exact ⟨S, ⟨fun i hi => (hS i hi).1, fun i hi => (hS i hi).2⟩⟩
end Go.Proofs.Ytpbheicfplpemaa
