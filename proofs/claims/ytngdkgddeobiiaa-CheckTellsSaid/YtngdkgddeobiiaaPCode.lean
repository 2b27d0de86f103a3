/- Instructions: plain functions and their laws. -/
import Derived.Test.YtngdkgddeobiiaaTlog
namespace Go.Proofs.Ytngdkgddeobiiaa
open Go Go.TL
structure Ins where
  op : Int
  d : Int
  s : Int
  n : Int
  deriving DecidableEq
structure Cond where
  not : Bool
  ins : Ins
  deriving DecidableEq
def Ins.cells (i : Ins) : List Value := [.int .u8 i.op, .int .i64 i.d, .int .i64 i.s, .int .i64 i.n]
def Cond.cells (c : Cond) : List Value := [.bool c.not, .int .u8 c.ins.op, .int .i64 c.ins.d, .int .i64 c.ins.s, .int .i64 c.ins.n]
def Ins.zero : Ins := ⟨0, 0, 0, 0⟩
def Cond.zero : Cond := ⟨false, ⟨0, 0, 0, 0⟩⟩
def bet (n a b : Int) : Bool := decide (a ≤ n) && decide (n ≤ b)
theorem ins_zero (i : Ins) : (decide (i.op = 0) && (decide (i.d = 0) && (decide (i.s = 0) && decide (i.n = 0)))) = decide (i = ⟨0, 0, 0, 0⟩) := by
  cases i; simp only [Ins.mk.injEq, Bool.decide_and]
theorem ins_eq (i j : Ins) : (decide (i.op = j.op) && (decide (i.d = j.d) && (decide (i.s = j.s) && decide (i.n = j.n)))) = decide (i = j) := by
  cases i; cases j; simp only [Ins.mk.injEq, Bool.decide_and]
theorem cond_zero (c : Cond) : (decide (c.not = false) && (decide (c.ins.op = 0) && (decide (c.ins.d = 0) && (decide (c.ins.s = 0) && decide (c.ins.n = 0))))) = decide (c = ⟨false, ⟨0, 0, 0, 0⟩⟩) := by
  obtain ⟨b, i⟩ := c; cases i; simp only [Cond.mk.injEq, Ins.mk.injEq, Bool.decide_and]
theorem cond_eq (c e : Cond) : (decide (c.not = e.not) && (decide (c.ins.op = e.ins.op) && (decide (c.ins.d = e.ins.d) && (decide (c.ins.s = e.ins.s) && decide (c.ins.n = e.ins.n))))) = decide (c = e) := by
  obtain ⟨b, i⟩ := c; obtain ⟨b', j⟩ := e; cases i; cases j; simp only [Cond.mk.injEq, Ins.mk.injEq, Bool.decide_and]
theorem ins_ext {i : Ins} (h : i.op = 0 ∧ (i.d = 0 ∧ (i.s = 0 ∧ i.n = 0))) : i = ⟨0, 0, 0, 0⟩ := by cases i; simp only [Ins.mk.injEq]; exact h
theorem ins_ne {i : Ins} (h : ¬ i.op = 0 ∨ (¬ i.d = 0 ∨ (¬ i.s = 0 ∨ ¬ i.n = 0))) : ¬ i = ⟨0, 0, 0, 0⟩ := by rintro rfl; simp at h
theorem cond_ext {c : Cond} (h : c.not = false ∧ (c.ins.op = 0 ∧ (c.ins.d = 0 ∧ (c.ins.s = 0 ∧ c.ins.n = 0)))) : c = ⟨false, ⟨0, 0, 0, 0⟩⟩ := by
  obtain ⟨b, i⟩ := c; cases i; simp only [Cond.mk.injEq, Ins.mk.injEq]; exact h
theorem cond_ne {c : Cond} (h : ¬ c.not = false ∨ (¬ c.ins.op = 0 ∨ (¬ c.ins.d = 0 ∨ (¬ c.ins.s = 0 ∨ ¬ c.ins.n = 0)))) : ¬ c = ⟨false, ⟨0, 0, 0, 0⟩⟩ := by rintro rfl; simp at h
/-- The reference's classes. -/
def cls (o : Int) : Int :=
  if o = 0 ∨ o = 24 ∨ o = 25 ∨ o = 26 then 1 else if o = 1 then 2 else if o = 2 then 3 else if o ≤ 7 then 4 else if o ≤ 21 then 5
  else if o = 22 then 6 else if o = 23 then 7 else if o ≤ 29 then 8 else if o = 30 then 9 else 0
def insB (i : Ins) : Bool :=
  if cls i.op = 1 then decide (i.d = 0) && (decide (i.s = 0) && decide (i.n = 0))
  else if cls i.op = 2 then bet i.d 0 6 && (bet i.s 0 6 && decide (i.n = 0))
  else if cls i.op = 3 then bet i.d 0 6 && (decide (i.s = 0) && bet i.n 0 255)
  else if cls i.op = 4 then bet i.d 0 6 && (decide (i.s = 0) && decide (i.n = 0))
  else if cls i.op = 5 then decide (i.d = 0) && ((bet i.s 0 6 && decide (i.n = 0)) || (decide (i.s = 7) && bet i.n 0 255))
  else if cls i.op = 6 then bet i.d 0 3 && (decide (i.s = 0) && bet i.n 0 255)
  else if cls i.op = 7 then decide (i.d = 0) && (decide (i.s = 0) && bet i.n 0 255)
  else if cls i.op = 8 ∨ cls i.op = 9 then decide (i.d = 0) && (decide (i.s = 0) && bet i.n 0 65535)
  else false
def insErr (i : Ins) : Int := if insB i = true then 0 else 110
structure Shape where
  known : Bool
  place : Int
  src : Bool
  operand : Bool
  number : Bool
  jump : Bool
  long : Bool
def shapeOf (o : Int) : Shape :=
  if o = 0 ∨ (24 ≤ o ∧ o ≤ 26) then ⟨true, -1, false, false, false, false, false⟩ else if o = 1 then ⟨true, 6, true, false, false, false, false⟩
  else if o = 2 then ⟨true, 6, false, false, true, false, false⟩ else if o ≤ 7 then ⟨true, 6, false, false, false, false, false⟩
  else if o ≤ 21 then ⟨true, -1, false, true, false, false, false⟩ else if o = 22 then ⟨true, 3, false, false, true, false, false⟩
  else if o = 23 then ⟨true, -1, false, false, true, false, false⟩ else if o ≤ 29 then ⟨true, -1, false, false, false, true, false⟩
  else if o = 30 then ⟨true, -1, false, false, false, false, true⟩ else ⟨false, 0, false, false, false, false, false⟩
def inC (n most : Int) (named : Bool) : Bool := decide (0 ≤ n) && decide (n ≤ if named = true then most else 0)
def rightC (i : Ins) : Bool :=
  (shapeOf i.op).known && (inC i.d (shapeOf i.op).place (decide (0 ≤ (shapeOf i.op).place)) &&
   (inC i.s (if (shapeOf i.op).operand = true then 7 else 6) ((shapeOf i.op).src || (shapeOf i.op).operand) &&
    inC i.n (if (shapeOf i.op).jump = true ∨ (shapeOf i.op).long = true then 65535 else 255)
      (((shapeOf i.op).jump || (shapeOf i.op).long) || ((shapeOf i.op).number || ((shapeOf i.op).operand && decide (i.s = 7))))))
theorem rightC_ins (i : Ins) (h : 0 ≤ i.op) : rightC i = insB i := by
  obtain ⟨o, d, s, n⟩ := i
  simp only at h
  rw [Bool.eq_iff_iff]
  by_cases h0 : o = 0
  · subst h0; simp [rightC, insB, shapeOf, cls, inC, bet]; omega
  by_cases h1 : o = 1
  · subst h1; simp [rightC, insB, shapeOf, cls, inC, bet]; omega
  by_cases h2 : o = 2
  · subst h2; simp [rightC, insB, shapeOf, cls, inC, bet]; omega
  by_cases h3 : o ≤ 7
  · have e1 : shapeOf o = ⟨true, 6, false, false, false, false, false⟩ := by unfold shapeOf; rw [if_neg (by omega), if_neg h1, if_neg h2, if_pos h3]
    have e2 : cls o = 4 := by unfold cls; rw [if_neg (by omega), if_neg h1, if_neg h2, if_pos h3]
    simp [rightC, insB, e1, e2, inC, bet]; omega
  by_cases h4 : o ≤ 21
  · have e1 : shapeOf o = ⟨true, -1, false, true, false, false, false⟩ := by unfold shapeOf; rw [if_neg (by omega), if_neg h1, if_neg h2, if_neg h3, if_pos h4]
    have e2 : cls o = 5 := by unfold cls; rw [if_neg (by omega), if_neg h1, if_neg h2, if_neg h3, if_pos h4]
    by_cases h7 : s = 7
    · simp [rightC, insB, e1, e2, inC, bet, h7]; omega
    · simp [rightC, insB, e1, e2, inC, bet, h7]; omega
  by_cases h5 : o = 22
  · subst h5; simp [rightC, insB, shapeOf, cls, inC, bet]; omega
  by_cases h6 : o = 23
  · subst h6; simp [rightC, insB, shapeOf, cls, inC, bet]; omega
  by_cases h7 : 24 ≤ o ∧ o ≤ 26
  · have e1 : shapeOf o = ⟨true, -1, false, false, false, false, false⟩ := by unfold shapeOf; rw [if_pos (by omega)]
    have e2 : cls o = 1 := by unfold cls; rw [if_pos (by omega)]
    simp [rightC, insB, e1, e2, inC, bet]; omega
  by_cases h8 : o ≤ 29
  · have e1 : shapeOf o = ⟨true, -1, false, false, false, true, false⟩ := by unfold shapeOf; rw [if_neg (by omega), if_neg h1, if_neg h2, if_neg h3, if_neg h4, if_neg h5, if_neg h6, if_pos h8]
    have e2 : cls o = 8 := by unfold cls; rw [if_neg (by omega), if_neg h1, if_neg h2, if_neg h3, if_neg h4, if_neg h5, if_neg h6, if_pos h8]
    simp [rightC, insB, e1, e2, inC, bet]; omega
  by_cases h9 : o = 30
  · subst h9; simp [rightC, insB, shapeOf, cls, inC, bet]; omega
  · have e1 : (shapeOf o).known = false := by unfold shapeOf; rw [if_neg (by omega), if_neg h1, if_neg h2, if_neg h3, if_neg h4, if_neg h5, if_neg h6, if_neg h8, if_neg h9]
    have e2 : cls o = 0 := by unfold cls; rw [if_neg (by omega), if_neg h1, if_neg h2, if_neg h3, if_neg h4, if_neg h5, if_neg h6, if_neg h8, if_neg h9]
    simp [rightC, insB, e1, e2]
def plainB (i : Ins) (post : Bool) : Bool :=
  insB i && ((decide (1 ≤ i.op) && decide (i.op ≤ 18)) || ((decide (22 ≤ i.op) && decide (i.op ≤ 25)) || (decide (i.op = 26) && post)))
def condB (c : Cond) : Bool := insB c.ins && (decide (19 ≤ c.ins.op) && decide (c.ins.op ≤ 21))
end Go.Proofs.Ytngdkgddeobiiaa
