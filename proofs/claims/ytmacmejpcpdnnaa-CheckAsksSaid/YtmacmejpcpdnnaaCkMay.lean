/- check: the functions that tree.Check's walk asks which parts may come. -/
import Derived.Test.YtmacmejpcpdnnaaBlk
import Derived.Test.YtmacmejpcpdnnaaCkTree
namespace Go.Proofs.Ytmacmejpcpdnnaa
open Go.RowKit

/-- a twig's cells -/
def twC (x : Tw) : List Value := [.int .u8 x.op, .int .i64 x.kids, .int .i64 x.int, .string x.text]
/-- a form's cells -/
def formC (f : Form) : List Value := [.func (.func (txtF f.txt)) #[] #[], .int .i64 f.least, .int .i64 f.most, .func (.func (prtF f.prt)) #[] #[]]
theorem may0_any (op : Nat) (w : World) : Calls Try.prog 35 #[.int .u8 op] w fun e w' => e = .returned (.bool true) ∧ w = w' := by
  go_enter Try.func35, Try.ntmps35
  go_wp2_with fail
  go_ret
  exact ⟨rfl, rfl⟩
theorem may1_any (op : Nat) (fm : Form) (x : Tw) (i : Int) (hi : 0 ≤ i ∧ i ≤ 1000000) (hn : 0 ≤ x.kids ∧ x.kids ≤ 1000000) {F I X : Nat} (w : World) (hF : Blk w F 68 (formC fm)) (hI : Blk w I 3 [.int .i64 i]) (hX : Blk w X 34 (twC x)) :
    Calls Try.prog 34 #[.int .u8 op, .pointer (some ⟨F, 0, none⟩), .pointer (some ⟨I, 0, none⟩), .pointer (some ⟨X, 0, none⟩)] w fun e w' => e = .returned (.bool (prtB fm.prt i x.kids op)) ∧ w = w' := by
  have cF := hF.cell 3
  have cI := hI.cell 0
  have cX := hX.cell 1
  have HP := Lib.hid (prt_any fm.prt i x.kids op hi hn w)
  unfold formC at cF
  unfold twC at cX
  obtain ⟨T, least, most, pr⟩ := fm
  simp only [List.getElem?_cons_zero, List.getElem?_cons_succ] at cF cI cX
  clear hF hI hX
  cases pr
  all_goals
    simp only [prtF] at cF HP
    go_enter Try.func34, Try.ntmps34
    go_wp2_with (first | (go_at_call 45; refine HP.out.mono ?_; rintro e wn ⟨rfl, rfl⟩) | (go_at_call 46; refine HP.out.mono ?_; rintro e wn ⟨rfl, rfl⟩) | (go_at_call 48; refine HP.out.mono ?_; rintro e wn ⟨rfl, rfl⟩) | (go_at_call 49; refine HP.out.mono ?_; rintro e wn ⟨rfl, rfl⟩) | (go_at_call 51; refine HP.out.mono ?_; rintro e wn ⟨rfl, rfl⟩) | (go_at_call 52; refine HP.out.mono ?_; rintro e wn ⟨rfl, rfl⟩))
    go_ret
    exact ⟨rfl, rfl⟩
end Go.Proofs.Ytmacmejpcpdnnaa
