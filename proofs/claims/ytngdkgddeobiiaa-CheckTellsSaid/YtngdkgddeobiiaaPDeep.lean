/- How deep and how many: the kit's look. -/
import Derived.Test.YtngdkgddeobiiaaPRef
namespace Go.Proofs.Ytngdkgddeobiiaa
open Go Go.TL
def dp : Nat → Int → List Stmt → Int → Bool × Int
  | 0, m, l, n => (decide (n + l.length > m) || decide (0 < l.length), n + l.length)
  | v + 1, m, l, n => if n + l.length > m then (true, n + l.length) else
    l.foldl (fun st s => if st.1 = true then st else if (dp v m s.body st.2).1 = true then dp v m s.body st.2 else dp v m s.els (dp v m s.body st.2).2) (false, n + l.length)
def dstep (v : Nat) (m : Int) (st : Bool × Int) (s : Stmt) : Bool × Int := if st.1 = true then st else if (dp v m s.body st.2).1 = true then dp v m s.body st.2 else dp v m s.els (dp v m s.body st.2).2
theorem dp_great {v : Nat} {m n : Int} {l : List Stmt} (h : n + l.length > m ∨ (0 < l.length ∧ v < 1)) : dp v m l n = (true, n + l.length) := by
  cases v with
  | zero => rw [dp]; congr 1; rw [Bool.or_eq_true]; simp only [decide_eq_true_eq]; omega
  | succ v => rw [dp, if_pos (by omega)]
theorem dp_go {v : Nat} {m n : Int} {l : List Stmt} (h1 : n + l.length ≤ m) (h2 : l.length = 0 ∨ 1 ≤ v) : dp v m l n = l.foldl (dstep (v - 1) m) (false, n + l.length) := by
  cases v with
  | zero => obtain rfl := List.eq_nil_of_length_eq_zero (l := l) (by omega); rw [dp]; simp; simp at h1; omega
  | succ v => rw [dp, if_neg (by omega)]; rfl
theorem dstep_stop {v : Nat} {m : Int} : ∀ (l : List Stmt) (st : Bool × Int), st.1 = true → l.foldl (dstep v m) st = st
  | [], _, _ => rfl
  | s :: r, st, h => by rw [List.foldl_cons, dstep, if_pos h]; exact dstep_stop r st h
theorem dfold_succ (v : Nat) (m : Int) (a : Bool × Int) (l : List Stmt) (k : Nat) (h : k < l.length) : (l.take (k + 1)).foldl (dstep v m) a = dstep v m ((l.take k).foldl (dstep v m) a) l[k] := by
  rw [List.take_succ_eq_append_getElem h, List.foldl_append]; rfl
theorem dfold_split (v : Nat) (m : Int) (a : Bool × Int) (l : List Stmt) (k : Nat) : l.foldl (dstep v m) a = (l.drop k).foldl (dstep v m) ((l.take k).foldl (dstep v m) a) := by
  rw [← List.foldl_append, List.take_append_drop]
theorem dfold_stop {v : Nat} {m : Int} {a : Bool × Int} {l : List Stmt} {k : Nat} (h : k < l.length) (hs : (dstep v m ((l.take k).foldl (dstep v m) a) l[k]).1 = true) : l.foldl (dstep v m) a = dstep v m ((l.take k).foldl (dstep v m) a) l[k] := by
  rw [dfold_split v m a l (k + 1), dfold_succ v m a l k h]; exact dstep_stop _ _ hs
theorem dp_false : ∀ (v : Nat) (m : Int) (l : List Stmt) (n : Int), (dp v m l n).1 = false → (dp v m l n).2 = n + sizeL l ∧ (dp v m l n).2 ≤ m ∧ deepOK v l = true
  | 0, m, l, n, h => by
    simp [dp] at h
    obtain ⟨h1, rfl⟩ := h
    simp [dp, sizeL, deepOK]; simpa using h1
  | v + 1, m, l, n, h => by
    by_cases hg : n + l.length > m
    · rw [dp, if_pos hg] at h; simp at h
    rw [dp, if_neg hg] at h ⊢
    have inner : ∀ (l : List Stmt) (n : Int), n ≤ m → (l.foldl (dstep v m) (false, n)).1 = false → (l.foldl (dstep v m) (false, n)).2 + l.length = n + sizeL l ∧ (l.foldl (dstep v m) (false, n)).2 ≤ m ∧ l.all (fun s => deepOK v s.body && deepOK v s.els) = true := by
      intro l
      induction l with
      | nil => intro n hn h; simp [sizeL]; exact hn
      | cons s r ih =>
        intro n hn h
        by_cases hb : (dp v m s.body n).1 = true
        · rw [List.foldl_cons, dstep, if_neg (by simp), if_pos hb, dstep_stop _ _ hb] at h; simp [hb] at h
        by_cases he : (dp v m s.els (dp v m s.body n).2).1 = true
        · rw [List.foldl_cons, dstep, if_neg (by simp), if_neg hb, dstep_stop _ _ he] at h; simp [he] at h
        have hb' := dp_false v m s.body n (by simpa using hb)
        have he' := dp_false v m s.els _ (by simpa using he)
        have e : dstep v m (false, n) s = (false, (dp v m s.els (dp v m s.body n).2).2) := by rw [dstep, if_neg (by simp), if_neg hb]; ext <;> simp [he]
        rw [List.foldl_cons, e] at h ⊢
        have := ih _ (by omega) h
        have hz := s.size_eq
        simp only [sizeL, List.length_cons, List.all_cons, hb'.2.2, he'.2.2, this.2.2, Bool.and_self, and_true]
        omega
    have := inner l _ (by omega) h
    refine ⟨?_, this.2.1, by rw [deepOK]; exact this.2.2⟩
    have h1 := this.1
    show (l.foldl (dstep v m) _).2 = _
    omega
theorem dfold_false {v : Nat} {m n : Int} {l : List Stmt} (hn : 0 ≤ n) (hm : n ≤ m) : ∀ k, ((l.take k).foldl (dstep v m) (false, n)).1 = false → 0 ≤ ((l.take k).foldl (dstep v m) (false, n)).2 ∧ ((l.take k).foldl (dstep v m) (false, n)).2 ≤ m := by
  have go : ∀ (l : List Stmt) (n : Int), 0 ≤ n → n ≤ m → (l.foldl (dstep v m) (false, n)).1 = false → 0 ≤ (l.foldl (dstep v m) (false, n)).2 ∧ (l.foldl (dstep v m) (false, n)).2 ≤ m := by
    intro l
    induction l with
    | nil => intro n h1 h2 _; exact ⟨h1, h2⟩
    | cons s r ih =>
      intro n h1 h2 h
      by_cases hb : (dp v m s.body n).1 = true
      · rw [List.foldl_cons, dstep, if_neg (by simp), if_pos hb, dstep_stop _ _ hb] at h; simp [hb] at h
      by_cases he : (dp v m s.els (dp v m s.body n).2).1 = true
      · rw [List.foldl_cons, dstep, if_neg (by simp), if_neg hb, dstep_stop _ _ he] at h; simp [he] at h
      have hb' := dp_false v m s.body n (by simpa using hb)
      have he' := dp_false v m s.els _ (by simpa using he)
      have e : dstep v m (false, n) s = (false, (dp v m s.els (dp v m s.body n).2).2) := by rw [dstep, if_neg (by simp), if_neg hb]; ext <;> simp [he]
      rw [List.foldl_cons, e] at h ⊢
      exact ih _ (by omega) (by omega) h
  exact fun k => go (l.take k) n hn hm
theorem dp_stop1 {v : Nat} {m n : Int} {l : List Stmt} {k : Nat} (h1 : n + l.length ≤ m) (h2 : 1 ≤ v) (hk : k < l.length) (hst : ((l.take k).foldl (dstep (v - 1) m) (false, n + l.length)).1 = false)
    (h : (dp (v - 1) m (l[k]).body ((l.take k).foldl (dstep (v - 1) m) (false, n + l.length)).2).1 = true) : dp v m l n = dp (v - 1) m (l[k]).body ((l.take k).foldl (dstep (v - 1) m) (false, n + l.length)).2 := by
  have e : dstep (v - 1) m ((l.take k).foldl (dstep (v - 1) m) (false, n + l.length)) l[k] = dp (v - 1) m (l[k]).body ((l.take k).foldl (dstep (v - 1) m) (false, n + l.length)).2 := by
    rw [dstep, if_neg (by rw [hst]; simp), if_pos h]
  rw [dp_go h1 (.inr h2), dfold_stop hk (by rw [e]; exact h), e]
theorem dp_stop2 {v : Nat} {m n : Int} {l : List Stmt} {k : Nat} (h1 : n + l.length ≤ m) (h2 : 1 ≤ v) (hk : k < l.length) (hst : ((l.take k).foldl (dstep (v - 1) m) (false, n + l.length)).1 = false)
    (hb : (dp (v - 1) m (l[k]).body ((l.take k).foldl (dstep (v - 1) m) (false, n + l.length)).2).1 = false) (h : (dp (v - 1) m (l[k]).els (dp (v - 1) m (l[k]).body ((l.take k).foldl (dstep (v - 1) m) (false, n + l.length)).2).2).1 = true) :
    dp v m l n = dp (v - 1) m (l[k]).els (dp (v - 1) m (l[k]).body ((l.take k).foldl (dstep (v - 1) m) (false, n + l.length)).2).2 := by
  have e : dstep (v - 1) m ((l.take k).foldl (dstep (v - 1) m) (false, n + l.length)) l[k] = dp (v - 1) m (l[k]).els (dp (v - 1) m (l[k]).body ((l.take k).foldl (dstep (v - 1) m) (false, n + l.length)).2).2 := by
    rw [dstep, if_neg (by rw [hst]; simp), if_neg (by rw [hb]; simp)]
  rw [dp_go h1 (.inr h2), dfold_stop hk (by rw [e]; exact h), e]
/-- The look with a limit of levels and of statements. -/
def deepB (l : List Stmt) (v : Nat) (m : Int) : Bool := (dp v m l 0).1
def greatB (c : Conf) : Bool := decide ((c.parts.length : Int) > 300) || (deepB c.pre 60 3000 || deepB c.post 60 3000)
/-- What is known of a configuration handed in, before it is known not to be great. -/
structure Conf.In (I : Imm) (c : Conf) (Ap : Option Addr) (Aq : Option Addr) (Ar : Option Addr) : Prop where
  parts : SlI I 7 Ap (c.parts.map Part.cells)
  pre : SRep I c.pre Aq
  post : SRep I c.post Ar
  okq : OkS c.pre
  okr : OkS c.post
  kinds : ∀ p ∈ c.parts, 0 ≤ p.kind
theorem Conf.In.ok {I : Imm} {c : Conf} {Ap Aq Ar : Option Addr} (h : c.In I Ap Aq Ar) (hg : greatB c = false) : c.Ok I Ap Aq Ar := by
  simp only [greatB, Bool.or_eq_false_iff, decide_eq_false_iff_not, deepB] at hg
  have h1 := dp_false _ _ _ _ hg.2.1
  have h2 := dp_false _ _ _ _ hg.2.2
  exact ⟨h.parts, h.pre, h.post, h.okq, h.okr, h.kinds, by omega, by omega, by omega⟩
end Go.Proofs.Ytngdkgddeobiiaa
