/- check: the walk of tree.Check, whole. -/
import Derived.Test.YtmacmejpcpdnnaaCkGood
import Derived.Test.YtmacmejpcpdnnaaCkBad
namespace Go.Proofs.Ytmacmejpcpdnnaa
open Go.RowKit

theorem walk_any (K : Ck) (t : List Tw) : ∀ (r : Nat) (w : World) (at_ level fid : Nat) (cs : Array Value) (m : May) (d : Option Nat), t.length - at_ ≤ r → at_ ≤ t.length → level ≤ at_ + 1 → Env w K t (-1) (dI d) → MayF w K m fid cs →
    Calls Try.prog 33 (#[.int .i64 (at_ : Int), .int .i64 (level : Int), .func (.func fid) #[] cs] ++ K.caps) w (WalkY w K t (ckr t at_ level m 1 d)) := by
  intro r
  induction r with
  | zero =>
    intro w at_ level fid cs m d hr hle hlv h _
    have ho : ¬ at_ < t.length := by omega
    rw [ckr_out (n := 0) ho]
    exact walk_out w K t _ at_ level _ h ho hle
  | succ r ih =>
    intro w at_ level fid cs m d hr hle hlv h hmay
    by_cases hlt : at_ < t.length
    · cases hf : formT t[at_].op with
      | none =>
        rw [ckr_bad (n := 0) hlt (by unfold goodB; rw [hf])]
        exact walk_none w K t _ at_ level m fid cs h hlt hf
      | some fm =>
        cases hg : goodB m t[at_] with
        | false =>
          rw [ckr_bad (n := 0) hlt hg]
          exact walk_bad w K t _ at_ level m fid cs fm hmay h hlt hf hg
        | true =>
          exact walk_good w K t d at_ level m fid cs fm hmay h hlt hlv hf hg fun w' a fid' cs' m' d' h1 h2 h3 h4 => ih w' a (level + 1) fid' cs' m' d' (by omega) h2 (by omega) h3 h4
    · rw [ckr_out (n := 0) hlt]
      exact walk_out w K t _ at_ level _ h hlt hle
end Go.Proofs.Ytmacmejpcpdnnaa
