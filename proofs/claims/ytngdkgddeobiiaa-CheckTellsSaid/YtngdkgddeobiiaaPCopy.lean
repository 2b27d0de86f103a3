/- Copies: rows that grew, read again. -/
import Derived.Test.YtngdkgddeobiiaaPDeep
import Derived.Test.YtngdkgddeobiiaaTMore
namespace Go.Proofs.Ytngdkgddeobiiaa
open Go Go.TL
theorem addr_add (a : Addr) (i j : Nat) : (a.add i).add j = a.add (i + j) := by
  unfold Addr.add
  by_cases hi : i = 0 <;> by_cases hj : j = 0 <;> simp [hi, hj, Nat.add_assoc]
theorem flatten_get {α : Type} {n : Nat} : ∀ {xs : List (List α)}, (∀ x ∈ xs, x.length = n) → ∀ {i : Nat} {c : List α}, xs[i]? = some c → ∀ {j : Nat} {u : α}, c[j]? = some u → xs.flatten[i * n + j]? = some u
  | [], _, i, c, h, _, _, _ => by simp at h
  | x :: r, hn, 0, c, h, j, u, hj => by
    simp only [List.getElem?_cons_zero, Option.some.injEq] at h
    subst h
    rw [List.flatten_cons, List.getElem?_append_left (by have := (List.getElem?_eq_some_iff.1 hj).1; omega)]
    simpa using hj
  | x :: r, hn, i + 1, c, h, j, u, hj => by
    have hx := hn x (by simp)
    have hi := flatten_get (xs := r) (fun y hy => hn y (by simp [hy])) (i := i) (c := c) (by simpa using h) hj
    rw [List.flatten_cons, List.getElem?_append_right (by rw [hx, Nat.succ_mul]; omega), hx, show (i + 1) * n + j - n = i * n + j by rw [Nat.succ_mul]; omega]
    exact hi
theorem okR_nil {e n : Nat} : okR e n none (.slice none 0 0) 0 [] := ⟨by simp, .inl ⟨rfl, rfl, rfl⟩⟩
theorem okR_snoc {e n k : Nat} {R : Option (Nat × Obj)} {v : Value} {ys : List (List Value)} {c : List Value} (h : okR e n R v k (ys.flatten ++ c)) : okR e n R v k (ys ++ [c]).flatten := by simpa using h
theorem okR.sl {I : Imm} {e n : Nat} {R : Option (Nat × Obj)} {v : Value} {xs : List (List Value)} (hn : ∀ x ∈ xs, x.length = n) (h : okR e n R v xs.length xs.flatten) : ∃ B cb, v = .slice B xs.length cb ∧ SlI (addR I R) n B xs := by
  obtain ⟨B, cb, rfl, hc⟩ := h.cells (I := I)
  refine ⟨B, cb, rfl, fun i c hi => ?_⟩
  obtain ⟨h1, _⟩ := List.getElem?_eq_some_iff.1 hi
  obtain ⟨a, rfl, ha⟩ := hc (by omega)
  exact ⟨a, rfl, fun j u hj => by rw [addr_add]; exact ha _ _ (flatten_get hn hi hj)⟩
theorem okR_parts {I : Imm} {e : Nat} {R : Option (Nat × Obj)} {v : Value} {l : List Part} (h : okR e 7 R v l.length (l.map Part.cells).flatten) : ∃ B cb, v = .slice B l.length cb ∧ SlI (addR I R) 7 B (l.map Part.cells) := by
  have := okR.sl (I := I) (xs := l.map Part.cells) (n := 7) (fun x hx => by obtain ⟨p, _, rfl⟩ := List.mem_map.1 hx; rfl) (by simpa using h)
  simpa using this
theorem take_cells (l : List Part) (k : Nat) (h : k < l.length) : ((l.take (k + 1)).map Part.cells).flatten = ((l.take k).map Part.cells).flatten ++ (l[k]).cells := by
  rw [List.take_succ_eq_append_getElem h, List.map_append, List.flatten_append]; simp
/-- The rows of a copy, as far as it has come. -/
def CopS (K : Imm) (m : List Stmt) (ys : List (List Value)) : Prop :=
  ys.length = m.length ∧ ∀ (i : Nat) (s : Stmt), m[i]? = some s → ∃ Ab cb Ae ce, ys[i]? = some (s.cells Ab cb Ae ce) ∧ SRep K s.body Ab ∧ SRep K s.els Ae
theorem CopS.nil {K : Imm} : CopS K [] [] := ⟨rfl, fun i s h => by simp at h⟩
theorem CopS.snoc {K J : Imm} {m : List Stmt} {ys : List (List Value)} {s : Stmt} {Ab Ae : Option Addr} {cb ce : Nat} (h : CopS K m ys) (hK : K.Le J) (hb : SRep J s.body Ab) (he : SRep J s.els Ae) : CopS J (m ++ [s]) (ys ++ [s.cells Ab cb Ae ce]) := by
  refine ⟨by simp [h.1], fun i t ht => ?_⟩
  rcases Nat.lt_or_ge i m.length with hi | hi
  · rw [List.getElem?_append_left hi] at ht
    obtain ⟨Ab', cb', Ae', ce', h1, h2, h3⟩ := h.2 i t ht
    exact ⟨Ab', cb', Ae', ce', by rw [List.getElem?_append_left (by rw [h.1]; exact hi)]; exact h1, h2.mono hK, h3.mono hK⟩
  · rw [List.getElem?_append_right hi] at ht
    have hz : i - m.length = 0 := by
      have := (List.getElem?_eq_some_iff.1 ht).1
      simp only [List.length_cons, List.length_nil] at this
      omega
    rw [hz] at ht
    simp only [List.getElem?_cons_zero, Option.some.injEq] at ht
    subst ht
    exact ⟨Ab, cb, Ae, ce, by rw [List.getElem?_append_right (by rw [h.1]; exact hi), h.1, hz]; rfl, hb, he⟩
theorem CopS.rep {K : Imm} {l : List Stmt} {ys : List (List Value)} {e : Nat} {R : Option (Nat × Obj)} {v : Value} (h : CopS K l ys) (hK : K.Le (addR K R)) (hok : okR e 13 R v l.length ys.flatten) : ∃ B cb, v = .slice B l.length cb ∧ SRep (addR K R) l B := by
  have hn : ∀ y ∈ ys, y.length = 13 := fun y hy => by
    obtain ⟨i, hi, rfl⟩ := List.getElem_of_mem hy
    have hi' : i < l.length := by rw [← h.1]; exact hi
    obtain ⟨Ab, cb, Ae, ce, h1, _⟩ := h.2 i l[i] (List.getElem?_eq_getElem hi')
    rw [List.getElem?_eq_getElem hi] at h1
    simp only [Option.some.injEq] at h1
    rw [h1]; rfl
  obtain ⟨B, cb, rfl, hB⟩ := okR.sl (I := K) hn (by rw [h.1]; exact hok)
  rw [h.1]
  have hx : ∀ i : Nat, ∃ x : (Option Addr × Nat) × (Option Addr × Nat), ∀ s, l[i]? = some s → ys[i]? = some (s.cells x.1.1 x.1.2 x.2.1 x.2.2) ∧ SRep K s.body x.1.1 ∧ SRep K s.els x.2.1 := fun i => by
    cases e : l[i]? with
    | none => exact ⟨((none, 0), (none, 0)), fun s hs => by cases hs⟩
    | some s =>
      obtain ⟨Ab, cb, Ae, ce, h1, h2, h3⟩ := h.2 i s e
      exact ⟨((Ab, cb), (Ae, ce)), fun t ht => by cases ht; exact ⟨h1, h2, h3⟩⟩
  obtain ⟨f, hf⟩ := Classical.skolem.1 hx
  exact ⟨B, cb, rfl, .mk (fun i => (f i).1.1) (fun i => (f i).2.1) (fun i => (f i).1.2) (fun i => (f i).2.2) (fun i s hs => hB i _ (hf i s hs).1) (fun i s hs => (hf i s hs).2.1.mono hK) (fun i s hs => (hf i s hs).2.2.mono hK)⟩
theorem Conf.Ok.mono {I J : Imm} {c : Conf} {Ap Aq Ar : Option Addr} (h : c.Ok I Ap Aq Ar) (hI : I.Le J) : c.Ok J Ap Aq Ar := ⟨h.parts.mono hI, h.pre.mono hI, h.post.mono hI, h.okq, h.okr, h.kinds, h.szq, h.szr, h.szp⟩
theorem Conf.Ok.copy {I J : Imm} {c : Conf} {Ap Aq Ar Bp Bq Br : Option Addr} (h : c.Ok I Ap Aq Ar) (hp : SlI J 7 Bp (c.parts.map Part.cells)) (hq : SRep J c.pre Bq) (hr : SRep J c.post Br) : c.Ok J Bp Bq Br := ⟨hp, hq, hr, h.okq, h.okr, h.kinds, h.szq, h.szr, h.szp⟩
end Go.Proofs.Ytngdkgddeobiiaa
