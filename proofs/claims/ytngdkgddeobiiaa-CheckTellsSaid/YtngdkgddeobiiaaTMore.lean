/- More rules of the program logic. No program is named here. -/
import Derived.Test.YtngdkgddeobiiaaTAppend
import Derived.Laws.MakeOwn
namespace Go.TL
open Go
section
variable {P : Program} {N : Nat} {I0 : Imm} {S : St} {dst : Option Tmp} {ty : TypeId} {pos : String} {af : Array Edge} {g : Option (Nat × Bool)}
theorem y_rem {x y : Operand} {t u : TypeId} {k : IntKind} {m n : Int} (hx : ev S.G x = some (.int k m)) (hy : ev S.G y = some (.int k n)) (h : n ≠ 0) :
    Yd P N I0 S ⟨dst, .binOp .rem t x y u, ty, pos, af, g⟩ (.int k (m.tmod n)) := fun a w hr => by
  simp [execOp, hr.ev hx, hr.ev hy, eqGuard, binOp, Op.intDiv, h]
end
/-- A slice type of which one may be made. -/
def MkP (P : Program) (t : TypeId) (bytes : Nat) : Prop := ∃ e i z, P.underlying t = some (.slice e) ∧ P.info? e = some i ∧ i.zero = some z ∧ i.bytes = bytes
theorem mkP_of {P : Program} {t e : TypeId} {i : TypeInfo} {z : Value} {bytes : Nat} (ht : P.underlying t = some (.slice e)) (hi : P.info? e = some i) (hz : i.zero = some z ∧ i.bytes = bytes) : MkP P t bytes := ⟨e, i, z, ht, hi, hz.1, hz.2⟩
section
variable {P : Program} {N : Nat} {I0 I : Imm} {F : OL} {bs : List (Nat × BI)} {ms : List Row} {ob : List (Nat × Obj)} {G : List (Nat × Value)} {K : Act → World → Prop} {Q : Exit → Act → World → Prop} {d : Nat} {ty : TypeId} {pos : String} {af : Array Edge}
/-- A slice is made; what it holds is not spoken of. -/
theorem e_mks {t : TypeId} {bytes : Nat} {x y : Operand} {k k' : IntKind} {m : Int} (hN : Nat.blt d N = true) (hp : MkP P t bytes) (hx : ev G x = some (.int k m)) (hy : ev G y = some (.int k' m)) (h0 : 0 ≤ m) (hb : m ≤ 1000000 ∧ bytes ≤ 1000)
    (h : ∀ b, SAT N I0 ⟨I, F, bs, ms, ob, (d, .slice (some ⟨b, 0, none⟩) m.toNat m.toNat) :: G⟩ K) :
    SAT N I0 ⟨I, F, bs, ms, ob, G⟩ fun a w => Oper.wp P ⟨some d, .makeSlice t x y, ty, pos, af, none⟩ a w K Q := fun a w hr => by
  obtain ⟨e, i, z, ht, hi, hz, rfl⟩ := hp
  have hmul : (i.bytes : Int) * m ≤ 281474976710656 := by
    have h1 : (i.bytes : Int) * m ≤ 1000 * m := Int.mul_le_mul_of_nonneg_right (by omega) h0
    omega
  have hrun := run_make (P := P) w t e i z ht hi hz k k' m m h0 (Int.le_refl _) hmul (by omega)
  show Oper.wp _ _ _ _ _ _
  unfold Oper.wp
  have e1 : (execOp a.eval ⟨some d, .makeSlice t x y, ty, pos, af, none⟩).run P w = .ok (.value (.slice (some ⟨w.heap.size, 0, none⟩) m.toNat m.toNat)) (w.alloc (.cells (madeCells z.cells (m.toNat * i.size)) e)) := by
    simp [execOp, hr.ev hx, hr.ev hy, hrun]
  rw [e1]
  obtain ⟨C, hl, hh⟩ := hr.mem
  have hh' := (hh.alloc (.cells (madeCells z.cells (m.toNat * i.size)) e)).sub (fun x hx => List.mem_cons_of_mem _ hx) hh.nd
  exact h _ _ _ (Rel.put ⟨hr.le, ⟨C, hl, hh'⟩, hr.size, hr.defers, hr.env⟩ hN)
end
end Go.TL
