/- A checked configuration and its model. -/
import Derived.Test.YtngdkgddeobiiaaPRef
import Derived.Test.YtngdkgddeobiiaaPDeep
namespace Go.Proofs.Ytngdkgddeobiiaa
open Go Go.TL
def pickI (x n : Int) : Int := if n < 1 then 0 else if x.tmod n < 0 then x.tmod n + n else x.tmod n
theorem tmod_bd {x n : Int} (h : 1 ≤ n) : -n < x.tmod n ∧ x.tmod n < n := by
  have h1 := Int.tmod_lt_of_pos x (show 0 < n by omega)
  have h2 := Int.lt_tmod_of_pos x (show 0 < n by omega)
  omega
theorem pick_bd {x n : Int} (h : 1 ≤ n) : 0 ≤ pickI x n ∧ pickI x n < n := by
  have := tmod_bd (x := x) h
  unfold pickI
  rw [if_neg (by omega)]
  split <;> omega
theorem check_model (c : Conf) (na nb : Nat) (h : checkE c ≠ 124) (hna : na ≤ 4096) (hnb : nb ≤ 4096) (hf : c.flag = true → 1 ≤ nb) : decide (checkE c = 0) = decide (modelE c.size c.cells c.sa c.sb c.parts na nb = 0) := by
  have hs : rightSyn c = true := by
    cases e : rightSyn c with
    | true => rfl
    | false => exact absurd (by simp [checkE, e]) h
  have e1 : inM (na : Int) 4096 = true := by simp [inM]; omega
  have e2 : inM (nb : Int) 4096 = true := by simp [inM]; omega
  have hq : ¬ (nb = 0 ∧ 0 < c.sa + c.sb) := by
    rintro ⟨q1, q2⟩
    cases hfl : c.flag with
    | true => have := hf hfl; omega
    | false =>
      simp only [rightSyn, hfl, Bool.false_or, Bool.and_eq_true, decide_eq_true_eq] at hs
      omega
  simp only [checkE, hs, modelE, e1, e2, Bool.and_true]
  by_cases hl : (inM c.size 8 && (inM c.sa 8 && (inM c.cells 12 && inM c.sb 12))) = true
  · simp only [hl, Bool.true_eq_false, if_false, hq, false_or]
    by_cases hr : rightParts c.parts = 0
    · simp only [hr, ne_eq, not_true_eq_false, if_false]
      by_cases hp : pow2 c.size.toNat < (c.parts.length : Int) <;> simp [hp]
    · simp only [ne_eq, hr, not_false_eq_true, if_true, decide_false]
      by_cases hp : pow2 c.size.toNat < (c.parts.length : Int) <;> simp [hp, hr]
  · simp only [Bool.not_eq_true] at hl
    simp [hl]
end Go.Proofs.Ytngdkgddeobiiaa
