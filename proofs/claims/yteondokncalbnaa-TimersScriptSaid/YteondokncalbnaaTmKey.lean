/- timers: a name as a map's key. -/
import Derived.Test.YteondokncalbnaaRows
import Derived.Test.YteondokncalbnaaMapFn
import Derived.Laws.StructEq
import Derived.KernelRfl
namespace Go.Proofs.Yteondokncalbnaa
open Go.RowKit Go.MapKept

/-- a name: an owner and an Id -/
abbrev Nm := ByteArray × Int
def kNm (k : Nm) : Value := .agg #[.string k.1, .int .i64 k.2]
theorem kNm_inj (a b : Nm) (h : kNm a = kNm b) : a = b := by
  unfold kNm at h
  obtain ⟨a1, a2⟩ := a
  obtain ⟨b1, b2⟩ := b
  simp at h
  obtain ⟨rfl, rfl⟩ := h
  rfl
theorem name_struct : Try.prog.underlying 70 = some (.struct (Try.prog.fieldsOf 70)) := by kernel_rfl
theorem name_held : Try.prog.stoodInHeld 70 = false := by kernel_rfl
theorem bytes_ext {a b : ByteArray} (h : a.toList = b.toList) : a = b := by
  have := beq_toListBytes a b
  rw [h, beq_self_eq_true] at this
  obtain ⟨⟨x⟩⟩ := a
  obtain ⟨⟨y⟩⟩ := b
  rw [ByteArray.toList_eq, ByteArray.toList_eq] at h
  simpa using h
theorem name_eq (a b : Nm) (w : World) : (Op.equal 70 (kNm a) (kNm b)).run Try.prog w = .ok (decide (a = b)) w := by
  unfold Op.equal Op.maxDepth kNm
  rw [run_equalIn_struct w 9999 _ _ _ name_struct name_held]
  simp [Program.fieldsOf, Try.underlying70, Op.eqFields, go_sem]
  obtain ⟨a1, a2⟩ := a
  obtain ⟨b1, b2⟩ := b
  simp only [Prod.mk.injEq]
  by_cases h1 : a1 = b1
  · subst h1
    by_cases h2 : a2 = b2 <;> simp [h2]
  · rw [if_neg (fun h => h1 (bytes_ext h))]
    simp [h1]
theorem name_check (e : Bool) (k : Nm) (w : World) : (Instr.checkKey e 10000 70 (kNm k)).run Try.prog w = .ok () w := by kernel_rfl
theorem name_same (k : Nm) (w : World) : (Instr.keyThatStays (kNm k) (kNm k)).run Try.prog w = .ok (kNm k) w := by
  unfold Instr.keyThatStays kNm
  have h : (k.1 == k.1) = true := by rw [beq_toListBytes]; simp
  simp [Instr.sameBits, h]
theorem name_ask (k : Nm) (w : World) : ∀ (l : List MapEntry) (i : Nat), (∀ x ∈ l, ∃ k', x.key = kNm k') →
    ((Instr.findAsking 70 (kNm k) l i).run Try.prog w = .ok none w ∧ ∀ x ∈ l, x.key ≠ kNm k) ∨ ∃ j e, (Instr.findAsking 70 (kNm k) l i).run Try.prog w = .ok (some (i + j, e.val)) w ∧ l[j]? = some e ∧ e.key = kNm k
  | [], i, _ => .inl ⟨by simp [Instr.findAsking], by simp⟩
  | e :: es, i, h => by
    obtain ⟨k', hk⟩ := h e List.mem_cons_self
    by_cases hkk : k = k'
    · subst hkk
      exact .inr ⟨0, e, by simp [Instr.findAsking, hk, name_eq, Result.andThen], rfl, hk⟩
    · rcases name_ask k w es (i + 1) (fun x hx => h x (List.mem_cons_of_mem _ hx)) with ⟨h1, h2⟩ | ⟨j, x, h1, h2, h3⟩
      · refine .inl ⟨by simp [Instr.findAsking, hk, name_eq, hkk, Result.andThen, h1], fun x hx => ?_⟩
        rcases List.mem_cons.1 hx with rfl | hx
        · rw [hk]; exact fun e => hkk (kNm_inj _ _ e).symm
        · exact h2 x hx
      · exact .inr ⟨j + 1, x, by simp [Instr.findAsking, hk, name_eq, hkk, Result.andThen, h1]; omega, by simpa using h2, h3⟩
theorem name_keys : KeyLaw Try.prog 70 kNm where
  inj := kNm_inj
  check := name_check
  stays k w := name_same k w
  find k w l hl := by
    cases l with
    | nil => exact .inl ⟨by simp [Instr.findKey, Try.underlying70, underlying, Instr.findNow, Result.andThen], by simp⟩
    | cons e es =>
      obtain ⟨k', hk⟩ := hl e List.mem_cons_self
      have h0 : (Instr.findKey 70 (kNm k) (e :: es)).run Try.prog w = (Instr.findAsking 70 (kNm k) (e :: es) 0).run Try.prog w := by
        simp [Instr.findKey, run_underlying Try.underlying70, Instr.findNow, Instr.sameNow, Result.andThen]
      rw [h0]
      rcases name_ask k w (e :: es) 0 hl with h | ⟨j, x, h1, h2⟩
      · exact .inl h
      · exact .inr ⟨j, x, by rw [h1, Nat.zero_add], h2⟩
end Go.Proofs.Yteondokncalbnaa
