/- check: a function that says which parts may come. -/
import Derived.Test.YtmacmejpcpdnnaaCkEnv
namespace Go.Proofs.Ytmacmejpcpdnnaa
open Go.RowKit
attribute [local go_sem] run_store_fn' run_store_nf'

/-- a function that says which parts may come -/
structure MayF (w : World) (K : Ck) (m : May) (fid : Nat) (cs : Array Value) : Prop where
  en : ∀ args w, (callFunc fid args).run Try.prog w = .ok (.enter fid args) w
  ask : ∀ w', Turns K.S w w' → ∀ op : Nat, Calls Try.prog fid (#[.int .u8 op] ++ cs) w' fun e w'' => e = .returned (.bool (m.ok op)) ∧ w' = w''
theorem MayF.any (w : World) (K : Ck) : MayF w K .any 35 #[] := ⟨fun _ _ => rfl, fun w' _ op => may0_any op w'⟩
theorem MayF.of {w : World} {K : Ck} {x : Tw} {fm : Form} {i : Int} {F I X : Nat} (hf : formT x.op = some fm) (hi : 0 ≤ i ∧ i ≤ 1000000) (hn : 0 ≤ x.kids ∧ x.kids ≤ 1000000) (hF : Blk w F 68 (formC fm)) (hI : Blk w I 3 [.int .i64 i]) (hX : Blk w X 34 (twC x))
    (nF : ¬ K.S F) (nI : ¬ K.S I) (nX : ¬ K.S X) : MayF w K (.of x.op i x.kids) 34 #[.pointer (some ⟨F, 0, none⟩), .pointer (some ⟨I, 0, none⟩), .pointer (some ⟨X, 0, none⟩)] :=
  ⟨fun _ _ => rfl, fun w' k op => (may1_any op fm x i hi hn w' (hF.turns k nF) (hI.turns k nI) (hX.turns k nX)).mono fun e w'' ⟨h1, h2⟩ => ⟨by rw [h1]; simp only [May.ok, hf], h2⟩⟩
theorem txt_enters (k : Txt) : ∀ args w, (callFunc (txtF k) args).run Try.prog w = .ok (.enter (txtF k) args) w := by cases k <;> exact fun _ _ => rfl
end Go.Proofs.Ytmacmejpcpdnnaa
