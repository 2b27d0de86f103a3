/- The reference's plain functions, and that they say the same. -/
import Derived.Test.YtngdkgddeobiiaaPConf
namespace Go.Proofs.Ytngdkgddeobiiaa
open Go Go.TL
def depth : Nat → List Stmt → Int
  | 0, l => if l.length = 0 then 0 else 1
  | n + 1, l => if l.length = 0 then 0 else l.foldl (fun d s => max (max d (depth n s.body)) (depth n s.els)) 0 + 1
def dfold (n : Nat) (l : List Stmt) : Int := l.foldl (fun d s => max (max d (depth n s.body)) (depth n s.els)) 0
theorem depth_nil {n : Nat} {l : List Stmt} (h : l.length = 0) : depth n l = 0 := by cases n <;> simp [depth, h]
theorem depth_zero {n : Nat} {l : List Stmt} (h : 0 < l.length) (hn : n < 1) : depth n l = 1 := by
  obtain rfl : n = 0 := by omega
  rw [depth, if_neg (by omega)]
theorem depth_step {n : Nat} {l : List Stmt} (h : 0 < l.length) (hn : 1 ≤ n) : depth n l = dfold (n - 1) l + 1 := by
  cases n with
  | zero => omega
  | succ n => rw [depth, if_neg (by omega)]; rfl
theorem fold_bd {n : Nat} (hd : ∀ l, 0 ≤ depth n l ∧ depth n l ≤ n + 1) : ∀ (l : List Stmt) (d : Int), 0 ≤ d ∧ d ≤ n + 1 → 0 ≤ l.foldl (fun d s => max (max d (depth n s.body)) (depth n s.els)) d ∧ l.foldl (fun d s => max (max d (depth n s.body)) (depth n s.els)) d ≤ n + 1
  | [], d, h => h
  | s :: r, d, h => fold_bd hd r _ (by have h1 := hd s.body; have h2 := hd s.els; show 0 ≤ max (max d _) _ ∧ max (max d _) _ ≤ _; omega)
theorem depth_bd : ∀ (n : Nat) (l : List Stmt), 0 ≤ depth n l ∧ depth n l ≤ n + 1
  | 0, l => by simp only [depth]; split <;> omega
  | n + 1, l => by
    simp only [depth]; split
    · omega
    · have := fold_bd (depth_bd n) l 0 (by omega); omega
theorem dfold_bd (n : Nat) (l : List Stmt) : 0 ≤ dfold n l ∧ dfold n l ≤ n + 1 := fold_bd (depth_bd n) l 0 (by omega)
theorem dfold_take (n : Nat) (l : List Stmt) (k : Nat) (h : k < l.length) : dfold n (l.take (k + 1)) = max (max (dfold n (l.take k)) (depth n (l[k]).body)) (depth n (l[k]).els) := by
  rw [List.take_succ_eq_append_getElem h, dfold, List.foldl_append]; rfl
theorem fold_le {n : Nat} : ∀ (l : List Stmt) (d b : Int), l.foldl (fun d s => max (max d (depth n s.body)) (depth n s.els)) d ≤ b ↔ d ≤ b ∧ ∀ s ∈ l, depth n s.body ≤ b ∧ depth n s.els ≤ b
  | [], d, b => by simp
  | s :: r, d, b => by
    rw [List.foldl_cons, fold_le r]
    simp only [List.mem_cons, forall_eq_or_imp]
    constructor
    · rintro ⟨h1, h2⟩; exact ⟨by omega, ⟨by omega, by omega⟩, h2⟩
    · rintro ⟨h1, ⟨h2, h3⟩, h4⟩; exact ⟨by omega, h4⟩
theorem depth_deep : ∀ (n : Nat) (l : List Stmt), depth (n + 1) l ≤ n ↔ deepOK n l = true
  | 0, l => by
    cases l with
    | nil => simp [depth, deepOK]
    | cons s r => have h := (dfold_bd 0 (s :: r)).1; rw [depth_step (by simp) (by omega)]; refine ⟨fun h' => ?_, fun h' => ?_⟩; · simp only [Nat.zero_add, Nat.sub_self] at h'; omega
                  · simp [deepOK] at h'
  | n + 1, l => by
    by_cases h : l.length = 0
    · obtain rfl := List.eq_nil_of_length_eq_zero h; simp [depth, deepOK]; omega
    · rw [depth_step (by omega) (by omega)]
      have e : dfold (n + 1 + 1 - 1) l + 1 ≤ ((n + 1 : Nat) : Int) ↔ dfold (n + 1) l ≤ n := by rw [Nat.add_sub_cancel]; omega
      rw [e, dfold, fold_le, deepOK, List.all_eq_true]
      simp only [Bool.and_eq_true, depth_deep n]
      exact ⟨fun h => h.2, fun h => ⟨by omega, h⟩⟩
theorem visit_all {n : Nat} {l : List Stmt} (f : Stmt → Bool) (h : l = [] ∨ 1 ≤ n) : (visit n l).all f = l.all fun s => f s && ((visit (n - 1) s.body).all f && (visit (n - 1) s.els).all f) := by
  rw [visit_eq h, List.all_flatMap]; simp
theorem deepOK_at {n : Nat} {l : List Stmt} (h : deepOK n l = true) (k : Nat) (hk : k < l.length) : 1 ≤ n ∧ deepOK (n - 1) (l[k]).body = true ∧ deepOK (n - 1) (l[k]).els = true := by
  cases n with
  | zero => simp [deepOK] at h; simp [h] at hk
  | succ n =>
    rw [deepOK, List.all_eq_true] at h
    have := h _ (List.getElem_mem hk)
    simp at this; exact ⟨by omega, this⟩
theorem deepOK_or {n : Nat} {l : List Stmt} (h : deepOK n l = true) : l = [] ∨ 1 ≤ n := by
  cases n with
  | zero => exact .inl (by simpa [deepOK] using h)
  | succ n => exact .inr (by omega)
theorem ins_dec (i : Ins) : (decide (i.op = 0) && (decide (i.d = 0) && (decide (i.s = 0) && decide (i.n = 0)))) = decide (i = ⟨0, 0, 0, 0⟩) := by
  rw [Bool.eq_iff_iff]; simp only [Bool.and_eq_true, decide_eq_true_eq]; exact ⟨ins_ext, fun h => by rw [h]; simp⟩
theorem cond_dec (c : Cond) : (decide (c.not = false) && decide (c.ins = ⟨0, 0, 0, 0⟩)) = decide (c = ⟨false, ⟨0, 0, 0, 0⟩⟩) := by
  cases c; rw [Bool.eq_iff_iff]; simp
theorem ref_ok (s : Stmt) (post : Bool) : (bif decide (s.kind = 1) then (bif (bif (bif plainB s.ins post then decide (s.cond = ⟨false, ⟨0, 0, 0, 0⟩⟩) else false) then decide (s.body.length = 0) else false) then decide (s.els.length = 0) else false)
    else bif decide (s.kind = 2) then (bif decide (s.ins = ⟨0, 0, 0, 0⟩) then condB s.cond else false)
    else bif decide (s.kind = 3) then (bif (bif decide (s.ins = ⟨0, 0, 0, 0⟩) then condB s.cond else false) then decide (s.els.length = 0) else false)
    else bif decide (s.kind = 4) then (bif (bif (bif decide (s.ins = ⟨0, 0, 0, 0⟩) then decide (s.cond = ⟨false, ⟨0, 0, 0, 0⟩⟩) else false) then decide (s.body.length = 0) else false) then decide (s.els.length = 0) else false) else false) = rightS s post := by
  have e : decide (s.body.length + s.els.length = 0) = (decide (s.body.length = 0) && decide (s.els.length = 0)) := by rw [Bool.eq_iff_iff]; simp
  unfold rightS
  rw [e]
  generalize decide (s.body.length = 0) = b
  generalize decide (s.els.length = 0) = e
  generalize decide (s.cond = ⟨false, ⟨0, 0, 0, 0⟩⟩) = c
  generalize decide (s.ins = ⟨0, 0, 0, 0⟩) = i
  generalize plainB s.ins post = pl
  generalize condB s.cond = cb
  by_cases h1 : s.kind = 1
  · simp [h1]; cases b <;> cases e <;> cases c <;> cases pl <;> rfl
  by_cases h2 : s.kind = 2
  · simp [h2]
  by_cases h3 : s.kind = 3
  · simp [h3]; cases e <;> cases i <;> cases cb <;> rfl
  by_cases h4 : s.kind = 4
  · simp [h4]; cases b <;> cases e <;> cases c <;> cases i <;> rfl
  · simp [h1, h2, h3, h4]
/-- What the model's check says. -/
def modelE (size cells sa sb : Int) (parts : List Part) (na nb : Nat) : Int :=
  if (inM size 8 && (inM sa 8 && (inM cells 12 && (inM sb 12 && (inM na 4096 && inM nb 4096))))) = false then 131
  else if (nb = 0 ∧ 0 < sa + sb) ∨ pow2 size.toNat < (parts.length : Int) then 131
  else rightParts parts
def mlim (size cells sa sb : Int) (na nb : Nat) : Nat → Int × Int
  | 0 => (size, 8)
  | 1 => (sa, 8)
  | 2 => (cells, 12)
  | 3 => (sb, 12)
  | 4 => (na, 4096)
  | _ => (nb, 4096)
theorem modelE_lim {size cells sa sb : Int} {parts : List Part} {na nb : Nat} (k : Nat) (hk : k < 6) (h : inM (mlim size cells sa sb na nb k).1 (mlim size cells sa sb na nb k).2 = false) : modelE size cells sa sb parts na nb = 131 := by
  rcases (by omega : k = 0 ∨ k = 1 ∨ k = 2 ∨ k = 3 ∨ k = 4 ∨ k = 5) with rfl | rfl | rfl | rfl | rfl | rfl <;> simp only [mlim] at h <;> simp [modelE, h]
theorem mlim_all (size cells sa sb : Int) (na nb : Nat) (h : ∀ j < 6, inM (mlim size cells sa sb na nb j).1 (mlim size cells sa sb na nb j).2 = true) : (inM size 8 && (inM sa 8 && (inM cells 12 && (inM sb 12 && (inM na 4096 && inM nb 4096))))) = true := by
  have h0 := h 0 (by omega); have h1 := h 1 (by omega); have h2 := h 2 (by omega); have h3 := h 3 (by omega); have h4 := h 4 (by omega); have h5 := h 5 (by omega)
  simp only [mlim] at h0 h1 h2 h3 h4 h5
  simp [h0, h1, h2, h3, h4, h5]
end Go.Proofs.Ytngdkgddeobiiaa
