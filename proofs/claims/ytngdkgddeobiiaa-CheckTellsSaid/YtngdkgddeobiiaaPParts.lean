/- Parts of models: plain functions and their laws. -/
import Derived.Test.YtngdkgddeobiiaaTlog
namespace Go.Proofs.Ytngdkgddeobiiaa
open Go Go.TL

structure Part where
  kind : Int
  size : Int
  a : Int
  b : Int
  c : Int
  rate : Int
  limit : Int
  deriving DecidableEq
def Part.cells (p : Part) : List Value := [.int .u8 p.kind, .int .i64 p.size, .int .i64 p.a, .int .i64 p.b, .int .i64 p.c, .int .i64 p.rate, .int .i64 p.limit]
def within (n a b : Int) : Bool := decide (a ≤ n) && decide (n ≤ b)
def most (k : Int) : Int := if k = 2 ∨ k = 3 ∨ k = 4 ∨ k = 6 ∨ k = 8 then 16 else if k = 7 then 12 else if k = 9 then 10 else -1
def pow2 : Nat → Int | 0 => 1 | n+1 => pow2 n * 2
theorem pow2_pos (n : Nat) : 0 < pow2 n := by induction n with | zero => decide | succ n ih => simp [pow2]; omega
theorem pow2_le {m n : Nat} (h : m ≤ n) : pow2 m ≤ pow2 n := by
  induction h with
  | refl => exact Int.le_refl _
  | step h ih => simp [pow2]; have := pow2_pos ‹_›; omega
def places (p : Part) : Int :=
  if within p.size (if p.kind = 4 then 4 else 0) (most p.kind) = true then
    if p.kind = 3 then pow2 p.size.toNat + 256 else if p.kind = 4 then 2 * pow2 p.size.toNat
    else if p.kind = 7 then (if within p.b 1 8 = true then p.b * pow2 p.size.toNat else 0)
    else if p.kind = 8 then pow2 p.size.toNat + 512 else if p.kind = 9 then 32 * pow2 p.size.toNat else pow2 p.size.toNat
  else 0
theorem within_le {n a b : Int} (h : within n a b = true) : a ≤ n ∧ n ≤ b := by simpa [within] using h
theorem most_le (k : Int) : most k ≤ 16 := by unfold most; repeat' split <;> omega
theorem pow_le {n : Int} (h : n ≤ 16) : pow2 n.toNat ≤ 65536 ∧ 0 < pow2 n.toNat := ⟨pow2_le (m := n.toNat) (n := 16) (by omega), pow2_pos _⟩
theorem mul_bd {b x : Int} (h : 1 ≤ b) (h' : b ≤ 8) (k : 0 < x) (k' : x ≤ 65536) : 0 < b * x ∧ b * x ≤ 524288 := by
  have h1 := Int.mul_le_mul h' k' (by omega) (by omega)
  have h2 := Int.mul_pos (show 0 < b by omega) k
  omega
def fieldsOf (p : Part) : Part :=
  if p.kind = 1 then ⟨p.kind, 0, 0, 0, p.c, 0, 0⟩ else if p.kind = 2 then ⟨p.kind, p.size, 0, 0, 0, 0, p.limit⟩
  else if p.kind = 3 ∨ p.kind = 4 then ⟨p.kind, p.size, 0, 0, 0, 0, 0⟩ else if p.kind = 5 then ⟨p.kind, 0, p.a, p.b, p.c, 0, 0⟩
  else if p.kind = 6 ∨ p.kind = 7 then ⟨p.kind, p.size, p.a, p.b, 0, p.rate, 0⟩ else if p.kind = 8 then ⟨p.kind, p.size, p.a, 0, 0, 0, 0⟩
  else if p.kind = 9 then ⟨p.kind, p.size, p.a, 0, 0, 0, p.limit⟩ else ⟨p.kind, 0, 0, 0, 0, 0, 0⟩
def oneB (p : Part) (i : Int) : Bool :=
  if fieldsOf p ≠ p then false
  else if p.kind = 1 then within p.c (-2047) 2047
  else if p.kind = 2 then decide (0 < places p) && within p.limit 1 1023
  else if p.kind = 3 ∨ p.kind = 4 then decide (0 < places p)
  else if p.kind = 5 then within p.a 0 (i - 1) && (within p.b 0 (i - 1) && within p.c 0 256)
  else if p.kind = 6 then decide (0 < places p) && (within p.a 0 (i - 1) && (within p.b 0 (i - 1) && within p.rate 1 64))
  else if p.kind = 7 then decide (0 < places p) && (within p.a 0 (i - 1) && (decide (p.a + p.b ≤ i) && within p.rate 1 64))
  else if p.kind = 8 then decide (0 < places p) && within p.a 0 (i - 1)
  else if p.kind = 9 then decide (0 < places p) && (within p.a 0 (i - 1) && within p.limit 1 1023)
  else false
theorem part_ext {p q : Part} (h : p.kind = q.kind ∧ (p.size = q.size ∧ (p.a = q.a ∧ (p.b = q.b ∧ (p.c = q.c ∧ (p.rate = q.rate ∧ p.limit = q.limit)))))) : p = q := by
  cases p; cases q; simp only [Part.mk.injEq]; exact h
theorem part_ne {p q : Part} (h : ¬ p.kind = q.kind ∨ (¬ p.size = q.size ∨ (¬ p.a = q.a ∨ (¬ p.b = q.b ∨ (¬ p.c = q.c ∨ (¬ p.rate = q.rate ∨ ¬ p.limit = q.limit)))))) : p ≠ q := by
  rintro rfl; simp at h
theorem places_b {p : Part} (h : 0 < places p) (hk : p.kind = 7) : 1 ≤ p.b ∧ p.b ≤ 8 := by
  have e : places p = if within p.size 0 12 = true then (if within p.b 1 8 = true then p.b * pow2 p.size.toNat else 0) else 0 := by simp [places, hk, most]
  rw [e] at h
  by_cases h1 : within p.b 1 8 = true
  · exact within_le h1
  · simp [h1] at h
theorem places_bd (p : Part) : 0 ≤ places p ∧ places p ≤ 2097152 := by
  unfold places
  by_cases h : within p.size (if p.kind = 4 then 4 else 0) (most p.kind) = true
  · rw [if_pos h]
    have h1 := within_le h
    have h2 := most_le p.kind
    have h3 := pow_le (n := p.size) (by omega)
    by_cases h7 : p.kind = 7
    · simp only [h7]
      by_cases h4 : within p.b 1 8 = true
      · have h5 := within_le h4
        have := mul_bd h5.1 h5.2 h3.2 h3.1
        simp [h4]; omega
      · simp [h4]
    · simp only [h7, if_false]
      repeat' split
      all_goals omega
  · rw [if_neg h]; omega
theorem part_zero (p : Part) : (decide (p.kind = 0) && (decide (p.size = 0) && (decide (p.a = 0) && (decide (p.b = 0) && (decide (p.c = 0) && (decide (p.rate = 0) && decide (p.limit = 0))))))) = decide (p = ⟨0, 0, 0, 0, 0, 0, 0⟩) := by
  cases p; simp only [Part.mk.injEq, Bool.decide_and]
def memory : List Part → Int
  | [] => 0
  | p :: r => places p + memory r
theorem memory_append (l m : List Part) : memory (l ++ m) = memory l + memory m := by induction l with | nil => simp [memory] | cons p r ih => simp [memory, ih]; omega
theorem memory_take (l : List Part) (k : Nat) (h : k < l.length) : memory (l.take (k + 1)) = memory (l.take k) + places l[k] := by
  rw [List.take_succ_eq_append_getElem h, memory_append]; simp [memory]
theorem memory_bd (l : List Part) : 0 ≤ memory l ∧ memory l ≤ 2097152 * l.length := by
  induction l with
  | nil => simp [memory]
  | cons p r ih => have := places_bd p; simp [memory]; omega
def allOne : List Part → Nat → Bool
  | [], _ => true
  | p :: r, i => oneB p i && allOne r (i + 1)
theorem allOne_drop (l : List Part) (k : Nat) (h : k < l.length) : allOne (l.drop k) k = (oneB l[k] k && allOne (l.drop (k + 1)) (k + 1)) := by
  rw [List.drop_eq_getElem_cons h]; rfl
def rightParts (l : List Part) : Int :=
  if l.length < 1 ∨ 16 < l.length then 100 else if allOne l 0 = false then 100 else if 1048576 < memory l then 101 else 0
structure Row' where
  least : Int
  most : Int
  a : Bool
  b : Bool
  low : Int
  high : Int
  rate : Bool
  limit : Bool
def rowOf (k : Int) : Row' :=
  if k = 1 then ⟨0, -1, false, false, -2047, 2047, false, false⟩ else if k = 2 then ⟨0, 16, false, false, 0, 0, false, true⟩
  else if k = 3 then ⟨0, 16, false, false, 0, 0, false, false⟩ else if k = 4 then ⟨4, 16, false, false, 0, 0, false, false⟩
  else if k = 5 then ⟨0, -1, true, true, 0, 256, false, false⟩ else if k = 6 then ⟨0, 16, true, true, 0, 0, true, false⟩
  else if k = 7 then ⟨0, 12, true, true, 0, 0, true, false⟩ else if k = 8 then ⟨0, 16, true, false, 0, 0, false, false⟩
  else if k = 9 then ⟨0, 10, true, false, 0, 0, false, true⟩ else ⟨0, 0, false, false, 0, 0, false, false⟩
def rowOk (k : Int) : Bool := decide (1 ≤ k) && decide (k ≤ 9)
def inR (n low high : Int) (named : Bool) : Bool := if named = true then decide (low ≤ n) && decide (n ≤ high) else decide (0 ≤ n) && decide (n ≤ 0)
theorem inR_le {n low high : Int} {b : Bool} (h : inR n low high b = true) : (low ≤ n ∧ n ≤ high) ∨ n = 0 := by
  unfold inR at h; cases b <;> simp at h <;> omega
def rightB (p : Part) (i : Int) : Bool :=
  rowOk p.kind && (inR p.size (rowOf p.kind).least (rowOf p.kind).most (decide (0 ≤ (rowOf p.kind).most)) && (inR p.c (rowOf p.kind).low (rowOf p.kind).high (decide (0 < (rowOf p.kind).high)) &&
   (inR p.rate 1 64 (rowOf p.kind).rate && (inR p.limit 1 1023 (rowOf p.kind).limit && (inR p.a 0 (i - 1) (rowOf p.kind).a &&
    (if p.kind = 7 then inR p.b 1 (min 8 (i - p.a)) true else inR p.b 0 (i - 1) (rowOf p.kind).b && !decide (p = ⟨0, 0, 0, 0, 0, 0, 0⟩)))))))
def allRight : List Part → Nat → Bool
  | [], _ => true
  | p :: r, i => rightB p i && allRight r (i + 1)
theorem allRight_drop (l : List Part) (k : Nat) (h : k < l.length) : allRight (l.drop k) k = (rightB l[k] k && allRight (l.drop (k + 1)) (k + 1)) := by
  rw [List.drop_eq_getElem_cons h]; rfl
theorem places_row (p : Part) : places p = if rowOk p.kind = false ∨ p.size < (rowOf p.kind).least ∨ (rowOf p.kind).most < p.size then 0 else
    if p.kind = 3 then pow2 p.size.toNat + 256 else if p.kind = 4 then 2 * pow2 p.size.toNat else if p.kind = 7 then (if p.b < 1 ∨ 8 < p.b then 0 else pow2 p.size.toNat * p.b)
    else if p.kind = 8 then pow2 p.size.toNat + 512 else if p.kind = 9 then pow2 p.size.toNat * 32 else pow2 p.size.toNat := by
  obtain ⟨k, s, a, b, c, r, l⟩ := p
  have hm : b * pow2 s.toNat = pow2 s.toNat * b := Int.mul_comm _ _
  by_cases hk : 1 ≤ k ∧ k ≤ 9
  · have : k = 1 ∨ k = 2 ∨ k = 3 ∨ k = 4 ∨ k = 5 ∨ k = 6 ∨ k = 7 ∨ k = 8 ∨ k = 9 := by omega
    rcases this with rfl | rfl | rfl | rfl | rfl | rfl | rfl | rfl | rfl
    all_goals simp [places, most, rowOk, rowOf, within]
    all_goals grind
  · have e1 : most k = -1 := by unfold most; repeat' split <;> omega
    have e2 : rowOk k = false := by simp [rowOk]; omega
    have e3 : within s (if k = 4 then 4 else 0) (-1) = false := by simp [within]; split <;> omega
    simp [places, e1, e2, e3]
def RowBd (r : Row') : Prop := 0 ≤ r.least ∧ r.most ≤ 16
theorem rowBd_ite {c : Prop} [Decidable c] {x y : Row'} (h : RowBd x) (k : RowBd y) : RowBd (if c then x else y) := by split <;> assumption
theorem row_bd (k : Int) : 0 ≤ (rowOf k).least ∧ (rowOf k).most ≤ 16 := by
  show RowBd (rowOf k)
  unfold rowOf
  repeat' (refine rowBd_ite ?_ ?_)
  all_goals exact ⟨by decide, by decide⟩
theorem rightB_one (p : Part) (i : Int) (hk : 0 ≤ p.kind) : rightB p i = oneB p i := by
  obtain ⟨k, s, a, b, c, r, l⟩ := p
  have hp := pow2_pos s.toNat
  simp only at hk
  by_cases hk9 : 1 ≤ k ∧ k ≤ 9
  · have : k = 1 ∨ k = 2 ∨ k = 3 ∨ k = 4 ∨ k = 5 ∨ k = 6 ∨ k = 7 ∨ k = 8 ∨ k = 9 := by omega
    rcases this with rfl | rfl | rfl | rfl | rfl | rfl | rfl | rfl | rfl
    case inr.inr.inr.inr.inr.inr.inl =>
      rw [Bool.eq_iff_iff]
      by_cases hb : 1 ≤ b ∧ b ≤ 8
      · have hq : 0 < b * pow2 s.toNat := Int.mul_pos (by omega) hp
        simp [rightB, oneB, rowOk, rowOf, inR, fieldsOf, places, within, most]
        grind
      · simp [rightB, oneB, rowOk, rowOf, inR, fieldsOf, places, within, most]
        grind
    all_goals
      rw [Bool.eq_iff_iff]
      simp [rightB, oneB, rowOk, rowOf, inR, fieldsOf, places, within, most]
      grind
  · have e2 : rowOk k = false := by simp [rowOk]; omega
    have h1 : ¬ k = 1 := by omega
    have h2 : ¬ k = 2 := by omega
    have h3 : ¬ k = 3 := by omega
    have h4 : ¬ k = 4 := by omega
    have h5 : ¬ k = 5 := by omega
    have h6 : ¬ k = 6 := by omega
    have h7 : ¬ k = 7 := by omega
    have h8 : ¬ k = 8 := by omega
    have h9 : ¬ k = 9 := by omega
    simp [rightB, oneB, e2, h1, h2, h3, h4, h5, h6, h7, h8, h9]
theorem allRight_one (l : List Part) (h : ∀ p ∈ l, 0 ≤ p.kind) : ∀ i, allRight l i = allOne l i := by
  induction l with
  | nil => intro i; rfl
  | cons p r ih => intro i; rw [allRight, allOne, rightB_one _ _ (h p (by simp)), ih (fun q hq => h q (by simp [hq]))]
theorem pow2_two (n : Nat) : (1 : Int) * 2 ^ n = pow2 n := by induction n with | zero => rfl | succ n ih => rw [pow2, ← ih, Int.pow_succ]; omega

end Go.Proofs.Ytngdkgddeobiiaa
