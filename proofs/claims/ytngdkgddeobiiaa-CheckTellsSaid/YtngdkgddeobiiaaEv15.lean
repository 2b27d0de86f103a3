/- The evaluator is right: what it carries out, the model's code does. No program is named here. -/
import Derived.Test.YtngdkgddeobiiaaEv14
import Derived.LoopN
namespace Go.Ev
open Go Go.TL

/-! ## The same is equal -/
theorem beq_nat {m n : Nat} (h : Nat.beq m n = true) : m = n := Nat.eq_of_beq_eq_true h
theorem beqL_same {l m : List Nat} (h : beqL l m = true) : l = m := by rw [beqL_eq] at h; simpa using h
mutual
theorem V.same_eq : ∀ {x y : V}, V.same x y = true → x = y
  | .un, y, h => by cases y <;> first | rfl | (simp [V.same] at h)
  | .b x, y, h => by cases y <;> simp [V.same] at h <;> rw [h]
  | .i k a, y, h => by
    cases y <;> simp only [V.same, Bool.and_eq_true, Bool.false_eq_true] at h
    rw [ikn_inj h.1]
    have := h.2
    rw [ieq_eq] at this
    simp only [decide_eq_true_eq] at this
    rw [this]
  | .s n l, y, h => by
    cases y <;> simp only [V.same, Bool.and_eq_true, Bool.false_eq_true] at h
    rw [beq_nat h.1, beqL_same h.2]
  | .np, y, h => by cases y <;> first | rfl | (simp [V.same] at h)
  | .p i a, y, h => by
    cases y <;> simp only [V.same, Bool.and_eq_true, Bool.false_eq_true] at h
    rw [Id.inj (beq_nat h.1), beq_nat h.2]
  | .ns, y, h => by cases y <;> first | rfl | (simp [V.same] at h)
  | .sl i a n (.k c), y, h => by
    cases y with
    | sl j b m d =>
      cases d <;> simp only [V.same, Bool.and_eq_true, Bool.false_eq_true] at h
      rw [Id.inj (beq_nat h.1.1.1), beq_nat h.1.1.2, beq_nat h.1.2, beq_nat h.2]
    | _ => simp [V.same] at h
  | .sl i a n (.u c), y, h => by
    cases y with
    | sl j b m d =>
      cases d <;> simp only [V.same, Bool.and_eq_true, Bool.false_eq_true] at h
      rw [Id.inj (beq_nat h.1.1.1), beq_nat h.1.1.2, beq_nat h.1.2, beq_nat h.2]
    | _ => simp [V.same] at h
  | .nm, y, h => by cases y <;> first | rfl | (simp [V.same] at h)
  | .m i, y, h => by
    cases y <;> simp only [V.same, Bool.false_eq_true] at h
    rw [Id.inj (beq_nat h)]
  | .nf, y, h => by cases y <;> first | rfl | (simp [V.same] at h)
  | .fn f a b, y, h => by
    cases y <;> simp only [V.same, Bool.and_eq_true, Bool.false_eq_true] at h
    rw [Ix.inj (beq_nat h.1.1), Vs.same_eq h.1.2, Vs.same_eq h.2]
  | .ag a, y, h => by
    cases y <;> simp only [V.same, Bool.false_eq_true] at h
    rw [Vs.same_eq h]
  | .tu a, y, h => by
    cases y <;> simp only [V.same, Bool.false_eq_true] at h
    rw [Vs.same_eq h]
  | .ni, y, h => by cases y <;> first | rfl | (simp [V.same] at h)
  | .ifc t x, y, h => by
    cases y <;> simp only [V.same, Bool.and_eq_true, Bool.false_eq_true] at h
    rw [beq_nat h.1, V.same_eq h.2]
theorem Vs.same_eq : ∀ {x y : List V}, Vs.same x y = true → x = y
  | [], y, h => by cases y <;> first | rfl | (simp [Vs.same] at h)
  | a :: x, y, h => by
    cases y with
    | nil => simp [Vs.same] at h
    | cons b y =>
      simp only [Vs.same, Bool.and_eq_true] at h
      rw [V.same_eq h.1, Vs.same_eq h.2]
end
theorem Es.same_eq : ∀ {x y : List (V × V)}, Es.same x y = true → x = y
  | [], y, h => by cases y <;> first | rfl | (simp [Es.same] at h)
  | (a, b) :: x, y, h => by
    cases y with
    | nil => simp [Es.same] at h
    | cons q y =>
      obtain ⟨c, d⟩ := q
      simp only [Es.same, Bool.and_eq_true] at h
      rw [V.same_eq h.1.1, V.same_eq h.1.2, Es.same_eq h.2]
theorem O.same_eq : ∀ {x y : O}, O.same x y = true → x = y
  | .c t l, y, h => by
    cases y <;> simp only [O.same, Bool.and_eq_true, Bool.false_eq_true] at h
    rw [beq_nat h.1, Vs.same_eq h.2]
  | .g t s l, y, h => by
    cases y <;> simp only [O.same, Bool.and_eq_true, Bool.false_eq_true] at h
    rw [beq_nat h.1.1, beq_nat h.1.2, Vs.same_eq h.2]
  | .mp a b q, y, h => by
    cases y <;> simp only [O.same, Bool.and_eq_true, Bool.false_eq_true] at h
    rw [Es.same_eq h.1.1, beqL_same h.1.2, beq_nat h.2]
  | .it n l r p, y, h => by
    cases y <;> simp only [O.same, Bool.and_eq_true, Bool.false_eq_true] at h
    rw [beq_nat h.1.1.1, beqL_same h.1.1.2, beqL_same h.1.2, beq_nat h.2]
theorem Tr.same_eq {α : Type} {f : α → α → Bool} (hf : ∀ x y, f x y = true → x = y) : ∀ {x y : Tr α}, Tr.same f x y = true → x = y
  | .mt, y, h => by cases y <;> first | rfl | (simp [Tr.same] at h)
  | .lf x, y, h => by
    cases y <;> simp only [Tr.same, Bool.false_eq_true] at h
    rw [hf _ _ h]
  | .nd a b c d e g h' i, y, h => by
    cases y <;> simp only [Tr.same, Bool.and_eq_true, Bool.false_eq_true] at h
    obtain ⟨⟨⟨⟨⟨⟨⟨h1, h2⟩, h3⟩, h4⟩, h5⟩, h6⟩, h7⟩, h8⟩ := h
    rw [Tr.same_eq hf h1, Tr.same_eq hf h2, Tr.same_eq hf h3, Tr.same_eq hf h4, Tr.same_eq hf h5, Tr.same_eq hf h6, Tr.same_eq hf h7, Tr.same_eq hf h8]
end Go.Ev
