/- check: trees in plain Lean: what a twig may be; forests; the program's Check and Slots. -/
import Derived.Test.YtmacmejpcpdnnaaRows
namespace Go.Proofs.Ytmacmejpcpdnnaa

/-- a twig -/
structure Tw where
  op : Nat
  kids : Int
  int : Int
  text : ByteArray
instance : Inhabited Tw := ⟨⟨0, 0, 0, ⟨#[]⟩⟩⟩

def isExpr (op : Nat) : Bool := decide (20 ≤ op ∧ op ≤ 26) || decide (30 ≤ op ∧ op ≤ 48) || decide (50 ≤ op ∧ op ≤ 57)
def isStmt (op : Nat) : Bool := decide (4 ≤ op ∧ op ≤ 11)
/-- what a text may be -/
inductive Txt where
  | own | empty | short
/-- what a part may be -/
inductive Prt where
  | params | nothing | stmt | headed | expr | block
structure Form where
  txt : Txt
  least : Int
  most : Int
  prt : Prt
def formT (op : Nat) : Option Form :=
  if op = 1 then some ⟨.own, 1, 2048, .params⟩
  else if op = 2 then some ⟨.own, 0, 0, .nothing⟩
  else if op = 3 then some ⟨.empty, 0, 2048, .stmt⟩
  else if op = 4 ∨ op = 5 then some ⟨.own, 1, 1, .expr⟩
  else if op = 6 then some ⟨.empty, 2, 3, .headed⟩
  else if op = 7 then some ⟨.empty, 2, 2, .headed⟩
  else if 8 ≤ op ∧ op ≤ 11 then some ⟨.empty, 1, 1, .expr⟩
  else if 20 ≤ op ∧ op ≤ 23 ∨ op = 57 then some ⟨.empty, 0, 0, .nothing⟩
  else if op = 24 then some ⟨.short, 0, 0, .nothing⟩
  else if op = 25 then some ⟨.empty, 0, 2048, .expr⟩
  else if op = 26 ∨ op = 56 then some ⟨.own, 0, 0, .nothing⟩
  else if 30 ≤ op ∧ op ≤ 42 then some ⟨.empty, 2, 2, .expr⟩
  else if 43 ≤ op ∧ op ≤ 48 ∨ op = 52 ∨ op = 54 ∨ op = 55 then some ⟨.empty, 1, 1, .expr⟩
  else if op = 50 ∨ op = 51 then some ⟨.own, 0, 2048, .expr⟩
  else if op = 53 then some ⟨.empty, 1, 1, .block⟩
  else none
def kws : List (List UInt8) := [[102, 108, 111, 119], [108, 101, 116], [105, 102], [101, 108, 115, 101], [119, 104, 105, 108, 101], [114, 101, 116, 117, 114, 110], [102, 97, 105, 108], [115, 108, 101, 101, 112], [100, 111], [110, 111, 110, 101], [116, 114, 117, 101], [102, 97, 108, 115, 101], [111, 114], [97, 110, 100], [110, 111, 116], [108, 101, 110], [110, 117, 109], [114, 101], [105, 109], [99, 111, 110, 106], [99, 97, 108, 108], [99, 104, 105, 108, 100], [116, 105, 109, 101, 114], [102, 111, 114, 107], [97, 119, 97, 105, 116], [115, 101, 116, 116, 108, 101], [116, 97, 107, 101], [118, 101, 114, 115, 105, 111, 110]]
def kwB (s : ByteArray) : Bool := kws.any (fun k => s.toList == k)
def prtB : Prt → Int → Int → Nat → Bool
  | .params, i, n, op => (decide (i < n - 1) && op == 2) || (i == n - 1 && op == 3)
  | .nothing, _, _, _ => false
  | .stmt, _, _, op => isStmt op
  | .headed, i, _, op => (i == 0 && isExpr op) || (decide (0 < i) && op == 3)
  | .expr, _, _, op => isExpr op
  | .block, _, _, op => op == 3

/-! ### forests -/
/-- trees, one behind the other: the first one's twig, its parts, the others -/
inductive Fo where
  | nil
  | cons (x : Tw) (k r : Fo)
namespace Fo
def cnt : Fo → Nat
  | nil => 0
  | cons _ _ r => r.cnt + 1
def flat : Fo → List Tw
  | nil => []
  | cons x k r => x :: (k.flat ++ r.flat)
def size : Fo → Nat
  | nil => 0
  | cons _ k r => 1 + k.size + r.size
theorem flat_len : ∀ f : Fo, f.flat.length = f.size
  | nil => rfl
  | cons x k r => by simp [flat, size, flat_len k, flat_len r]; omega
/-- each twig says how many parts it has -/
def ok : Fo → Prop
  | nil => True
  | cons x k r => x.kids = (k.cnt : Int) ∧ k.ok ∧ r.ok
end Fo
end Go.Proofs.Ytmacmejpcpdnnaa
