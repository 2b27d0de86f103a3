/- A whole configuration. -/
import Derived.Test.YtngdkgddeobiiaaPStmt
import Derived.Test.YtngdkgddeobiiaaPParts
namespace Go.Proofs.Ytngdkgddeobiiaa
open Go Go.TL
structure Conf where
  size : Int
  cells : Int
  sa : Int
  sb : Int
  parts : List Part
  pre : List Stmt
  post : List Stmt
  flag : Bool
def rightSyn (c : Conf) : Bool := rightL c.pre false && (rightL c.post true && (c.flag || (decide (c.post.length = 0) && (decide (c.sa = 0) && decide (c.sb = 0)))))
def inM (n m : Int) : Bool := decide (0 ≤ n) && decide (n ≤ m)
/-- What the check says. -/
def checkE (c : Conf) : Int :=
  if rightSyn c = false then 124
  else if (inM c.size 8 && (inM c.sa 8 && (inM c.cells 12 && inM c.sb 12))) = false then 123
  else if rightParts c.parts ≠ 0 then rightParts c.parts
  else if (c.parts.length : Int) > pow2 c.size.toNat then 123 else 0
/-- The limits, in the order of their look. -/
def lim (c : Conf) : Nat → Int × Int
  | 0 => (c.size, 8)
  | 1 => (c.sa, 8)
  | 2 => (c.cells, 12)
  | _ => (c.sb, 12)
theorem checkE_lim (c : Conf) (h0 : rightSyn c = true) (k : Nat) (hk : k < 4) (h : inM (lim c k).1 (lim c k).2 = false) : checkE c = 123 := by
  rcases (by omega : k = 0 ∨ k = 1 ∨ k = 2 ∨ k = 3) with rfl | rfl | rfl | rfl <;> simp [lim] at h <;> simp [checkE, h0, h]
theorem lim_all (c : Conf) (h : ∀ j < 4, inM (lim c j).1 (lim c j).2 = true) : (inM c.size 8 && (inM c.sa 8 && (inM c.cells 12 && inM c.sb 12))) = true := by
  have h0 := h 0 (by omega); have h1 := h 1 (by omega); have h2 := h 2 (by omega); have h3 := h 3 (by omega)
  simp [lim] at h0 h1 h2 h3
  simp [h0, h1, h2, h3]
/-- What is known of a configuration handed in. -/
structure Conf.Ok (I : Imm) (c : Conf) (Ap : Option Addr) (Aq : Option Addr) (Ar : Option Addr) : Prop where
  parts : SlI I 7 Ap (c.parts.map Part.cells)
  pre : SRep I c.pre Aq
  post : SRep I c.post Ar
  okq : OkS c.pre
  okr : OkS c.post
  kinds : ∀ p ∈ c.parts, 0 ≤ p.kind
  szq : sizeL c.pre ≤ 1000000
  szr : sizeL c.post ≤ 1000000
  szp : c.parts.length ≤ 1000000
end Go.Proofs.Ytngdkgddeobiiaa
