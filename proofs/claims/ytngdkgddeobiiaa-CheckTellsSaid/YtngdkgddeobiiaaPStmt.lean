/- Statements: trees, how they lie in memory, plain functions and their laws. -/
import Derived.Test.YtngdkgddeobiiaaPCode
namespace Go.Proofs.Ytngdkgddeobiiaa
open Go Go.TL
inductive Stmt where
  | mk (kind : Int) (ins : Ins) (cond : Cond) (body els : List Stmt) (line : Int)
def Stmt.kind : Stmt → Int | .mk k _ _ _ _ _ => k
def Stmt.ins : Stmt → Ins | .mk _ i _ _ _ _ => i
def Stmt.cond : Stmt → Cond | .mk _ _ c _ _ _ => c
def Stmt.body : Stmt → List Stmt | .mk _ _ _ b _ _ => b
def Stmt.els : Stmt → List Stmt | .mk _ _ _ _ e _ => e
def Stmt.line : Stmt → Int | .mk _ _ _ _ _ l => l
mutual
def Stmt.size : Stmt → Nat
  | .mk _ _ _ b e _ => 1 + sizeL b + sizeL e
def sizeL : List Stmt → Nat
  | [] => 0
  | s :: r => s.size + sizeL r
end
theorem Stmt.size_eq (s : Stmt) : s.size = 1 + sizeL s.body + sizeL s.els := by cases s; simp [Stmt.size, Stmt.body, Stmt.els]
theorem sizeL_append (l m : List Stmt) : sizeL (l ++ m) = sizeL l + sizeL m := by induction l with | nil => simp [sizeL] | cons s r ih => simp [sizeL, ih]; omega
theorem sizeL_mem {l : List Stmt} {s : Stmt} (h : s ∈ l) : s.size ≤ sizeL l := by
  induction l with
  | nil => cases h
  | cons x r ih => rcases List.mem_cons.1 h with rfl | h <;> simp only [sizeL]; · omega
                   · have := ih h; omega
theorem length_sizeL (l : List Stmt) : l.length ≤ sizeL l := by induction l with | nil => simp | cons s r ih => have := s.size_eq; simp [sizeL]; omega
theorem sizeL_take (l : List Stmt) (k : Nat) (h : k < l.length) : sizeL (l.take (k + 1)) = sizeL (l.take k) + (l[k]).size ∧ sizeL (l.take k) + (l[k]).size ≤ sizeL l := by
  have e : sizeL l = sizeL (l.take (k + 1)) + sizeL (l.drop (k + 1)) := by rw [← sizeL_append, List.take_append_drop]
  have e2 : sizeL (l.take (k + 1)) = sizeL (l.take k) + (l[k]).size := by rw [List.take_succ_eq_append_getElem h, sizeL_append]; simp [sizeL]
  omega
def Stmt.cells (s : Stmt) (Ab : Option Addr) (cb : Nat) (Ae : Option Addr) (ce : Nat) : List Value :=
  [.int .u8 s.kind, .int .u8 s.ins.op, .int .i64 s.ins.d, .int .i64 s.ins.s, .int .i64 s.ins.n, .bool s.cond.not, .int .u8 s.cond.ins.op, .int .i64 s.cond.ins.d, .int .i64 s.cond.ins.s, .int .i64 s.cond.ins.n,
   .slice Ab s.body.length cb, .slice Ae s.els.length ce, .int .i64 s.line]
inductive SRep (I : Imm) : List Stmt → Option Addr → Prop
  | mk {l : List Stmt} {A : Option Addr} (Ab Ae : Nat → Option Addr) (cb ce : Nat → Nat)
    (hc : ∀ (i : Nat) (s : Stmt), l[i]? = some s → ∃ a, A = some a ∧ CellsI I (a.add (i * 13)) (s.cells (Ab i) (cb i) (Ae i) (ce i)))
    (hb : ∀ (i : Nat) (s : Stmt), l[i]? = some s → SRep I s.body (Ab i)) (he : ∀ (i : Nat) (s : Stmt), l[i]? = some s → SRep I s.els (Ae i)) : SRep I l A
theorem SRep.at {I : Imm} {l : List Stmt} {A : Option Addr} (h : SRep I l A) (k : Nat) (hk : k < l.length) : ∃ a Ab cb Ae ce, A = some a ∧ CellsI I (a.add (k * 13)) ((l[k]).cells Ab cb Ae ce) ∧ SRep I (l[k]).body Ab ∧ SRep I (l[k]).els Ae := by
  cases h with
  | mk Ab Ae cb ce hc hb he =>
    have e : l[k]? = some l[k] := List.getElem?_eq_getElem hk
    obtain ⟨a, h1, h2⟩ := hc k _ e
    exact ⟨a, _, _, _, _, h1, h2, hb k _ e, he k _ e⟩
theorem SRep.mono {I J : Imm} (hI : I.Le J) {l : List Stmt} {A : Option Addr} (h : SRep I l A) : SRep J l A := by
  induction h with
  | mk Ab Ae cb ce hc hb he ihb ihe => exact .mk Ab Ae cb ce (fun i s e => let ⟨a, h1, h2⟩ := hc i s e; ⟨a, h1, h2.mono hI⟩) ihb ihe
theorem SRep.nil {I : Imm} {A : Option Addr} : SRep I [] A := .mk (fun _ => none) (fun _ => none) (fun _ => 0) (fun _ => 0) (fun i s h => by simp at h) (fun i s h => by simp at h) (fun i s h => by simp at h)
/-- What the machine's kinds of numbers say. -/
inductive OkS : List Stmt → Prop
  | mk {l : List Stmt} (hn : l.length ≤ 4611686018427387904) (hk : ∀ s ∈ l, 0 ≤ s.kind ∧ 0 ≤ s.ins.op ∧ 0 ≤ s.cond.ins.op) (hb : ∀ s ∈ l, OkS s.body) (he : ∀ s ∈ l, OkS s.els) : OkS l
theorem OkS.at {l : List Stmt} (h : OkS l) (k : Nat) (hk : k < l.length) : 0 ≤ (l[k]).kind ∧ 0 ≤ (l[k]).ins.op ∧ 0 ≤ (l[k]).cond.ins.op ∧ OkS (l[k]).body ∧ OkS (l[k]).els := by
  cases h with
  | mk h0 h1 h2 h3 => have hm := List.getElem_mem hk; exact ⟨(h1 _ hm).1, (h1 _ hm).2.1, (h1 _ hm).2.2, h2 _ hm, h3 _ hm⟩
theorem OkS.len {l : List Stmt} (h : OkS l) : l.length ≤ 4611686018427387904 := by cases h with | mk h0 => exact h0
/-- Is a statement right, but for those within? -/
def rightS (s : Stmt) (post : Bool) : Bool :=
  if s.kind = 1 then (decide (s.cond = ⟨false, ⟨0, 0, 0, 0⟩⟩) && decide (s.body.length + s.els.length = 0)) && plainB s.ins post
  else if s.kind = 4 then (decide (s.cond = ⟨false, ⟨0, 0, 0, 0⟩⟩) && decide (s.body.length + s.els.length = 0)) && decide (s.ins = ⟨0, 0, 0, 0⟩)
  else if s.kind = 2 ∨ s.kind = 3 then decide (s.ins = ⟨0, 0, 0, 0⟩) && (condB s.cond && (decide (s.kind = 2) || decide (s.els.length = 0)))
  else false
def visit : Nat → List Stmt → List Stmt
  | 0, _ => []
  | n + 1, l => l.flatMap fun s => s :: (visit n s.body ++ visit n s.els)
def deepOK : Nat → List Stmt → Bool
  | 0, l => l.isEmpty
  | n + 1, l => l.all fun s => deepOK n s.body && deepOK n s.els
theorem visit_eq {n : Nat} {l : List Stmt} (h : l = [] ∨ 1 ≤ n) : visit n l = l.flatMap fun s => s :: (visit (n - 1) s.body ++ visit (n - 1) s.els) := by
  cases n with
  | zero => rcases h with rfl | h; · rfl
            · omega
  | succ n => rfl
theorem deepOK_eq {n : Nat} {l : List Stmt} (h : l = [] ∨ 1 ≤ n) : deepOK n l = l.all fun s => deepOK (n - 1) s.body && deepOK (n - 1) s.els := by
  cases n with
  | zero => rcases h with rfl | h; · rfl
            · omega
  | succ n => rfl
theorem visit_zero {n : Nat} {l : List Stmt} (h : n < 1) : visit n l = [] := by
  obtain rfl : n = 0 := by omega
  rfl
theorem deepOK_zero {n : Nat} {l : List Stmt} (h : n < 1) (hl : 0 < l.length) : deepOK n l = false := by
  obtain rfl : n = 0 := by omega
  cases l with
  | nil => simp at hl
  | cons x r => rfl
theorem flatMap_take {α β : Type} (l : List α) (f : α → List β) (k : Nat) (h : k < l.length) : (l.take (k + 1)).flatMap f = (l.take k).flatMap f ++ f l[k] := by
  rw [List.take_succ_eq_append_getElem h, List.flatMap_append]; simp
theorem all_take {α : Type} (l : List α) (f : α → Bool) (k : Nat) (h : k < l.length) : (l.take (k + 1)).all f = ((l.take k).all f && f l[k]) := by
  rw [List.take_succ_eq_append_getElem h, List.all_append]; simp
theorem visit_le : ∀ (n : Nat) (l : List Stmt), (visit n l).length ≤ sizeL l
  | 0, l => by simp [visit]
  | n + 1, l => by
    rw [visit]
    induction l with
    | nil => simp
    | cons s r ih =>
      have h1 := visit_le n s.body
      have h2 := visit_le n s.els
      have h3 := s.size_eq
      simp only [List.flatMap_cons, List.length_append, List.length_cons, sizeL]
      omega
theorem visit_take (l : List Stmt) (n k : Nat) : ((l.take k).flatMap fun s => s :: (visit n s.body ++ visit n s.els)).length ≤ sizeL (l.take k) := visit_le (n + 1) (l.take k)
def rightL (l : List Stmt) (post : Bool) : Bool := deepOK 20 l && ((visit 20 l).all (fun s => rightS s post) && decide ((visit 20 l).length ≤ 500))
end Go.Proofs.Ytngdkgddeobiiaa
