/- A small program logic over the kit's 'Code.wp': known immutable memory, blocks of one's own, known slots. No program is named here. -/
import Derived.WalkKit
import Derived.OrdersHeld
import Derived.Deep.Quiet
namespace Go.TL
open Go Go.RowKit

/-! ## Memory -/
structure Imm where
  os : Os
  tape : Nat → Question → Nat
  output : Array (Nat × ByteArray)
  m : Nat → Option Obj

structure Imm.Le (a b : Imm) : Prop where
  os : a.os = b.os
  tape : a.tape = b.tape
  output : a.output = b.output
  m : ∀ k o, a.m k = some o → b.m k = some o

theorem Imm.Le.refl (a : Imm) : a.Le a := ⟨rfl, rfl, rfl, fun _ _ h => h⟩
theorem Imm.Le.trans {a b c : Imm} (h : a.Le b) (k : b.Le c) : a.Le c :=
  ⟨h.os.trans k.os, h.tape.trans k.tape, h.output.trans k.output, fun i o e => k.m i o (h.m i o e)⟩

def Imm.cell? (I : Imm) (a : Addr) : Option Value :=
  match I.m a.block with
  | some (.cells c _ _) => if a.spot.isSome then none else c[a.off]?
  | _ => none
theorem Imm.Le.cell {I J : Imm} (h : I.Le J) {a : Addr} {v : Value} (hc : I.cell? a = some v) : J.cell? a = some v := by
  unfold Imm.cell? at *
  cases e : I.m a.block with
  | none => rw [e] at hc; cases hc
  | some o => rw [e] at hc; rw [h.m _ _ e]; exact hc

abbrev OL := List (Nat × Obj)

structure Holds (I : Imm) (L : OL) (w : World) : Prop where
  os : w.os = I.os
  tape : w.tape = I.tape
  output : w.output = I.output
  imm : ∀ k o, I.m k = some o → w.heap[k]? = some o
  own : ∀ x ∈ L, w.heap[x.1]? = some x.2
  nd : (L.map (·.1)).Nodup
  dj : ∀ x ∈ L, I.m x.1 = none

theorem Holds.cell {I : Imm} {L : OL} {w : World} (h : Holds I L w) {a : Addr} {v : Value} (hc : I.cell? a = some v) : w.cell? a = some v := by
  unfold Imm.cell? at hc
  unfold World.cell?
  cases e : I.m a.block with
  | none => rw [e] at hc; cases hc
  | some o => rw [e] at hc; rw [h.imm _ _ e]; exact hc

theorem Holds.drew {I : Imm} {L : OL} {w : World} (h : Holds I L w) : Holds I L w.drew := ⟨h.os, h.tape, h.output, h.imm, h.own, h.nd, h.dj⟩
theorem Holds.drew' {I : Imm} {L : OL} {w : World} (h : Holds I L w) : Holds I L { w with drawn := w.drawn + 1 } := ⟨h.os, h.tape, h.output, h.imm, h.own, h.nd, h.dj⟩
theorem Holds.mono {I J : Imm} {L : OL} {w : World} (h : Holds J L w) (hI : I.Le J) : Holds I L w :=
  ⟨h.os.trans hI.os.symm, h.tape.trans hI.tape.symm, h.output.trans hI.output.symm, fun k o e => h.imm k o (hI.m k o e), h.own, h.nd, fun x hx => by
    cases e : I.m x.1 with
    | none => rfl
    | some o => rw [← h.dj x hx, hI.m _ _ e]⟩
theorem Holds.sub {I : Imm} {L L' : OL} {w : World} (h : Holds I L w) (hs : ∀ x ∈ L', x ∈ L) (hn : (L'.map (·.1)).Nodup) : Holds I L' w :=
  ⟨h.os, h.tape, h.output, h.imm, fun x hx => h.own x (hs x hx), hn, fun x hx => h.dj x (hs x hx)⟩
theorem Holds.perm {I : Imm} {L L' : OL} {w : World} (h : Holds I L w) (hp : L.Perm L') : Holds I L' w :=
  h.sub (fun _ hx => hp.mem_iff.2 hx) ((hp.map (·.1)).nodup_iff.1 h.nd)
theorem lt_of_heap {w : World} {k : Nat} {o : Obj} (h : w.heap[k]? = some o) : k < w.heap.size := (Array.getElem?_eq_some_iff.1 h).1
theorem Holds.alloc {I : Imm} {L : OL} {w : World} (h : Holds I L w) (o : Obj) : Holds I ((w.heap.size, o) :: L) (w.alloc o) := by
  refine ⟨h.os, h.tape, h.output, fun k o' e => ?_, fun x hx => ?_, ?_, fun x hx => ?_⟩
  · have := h.imm k o' e
    exact (Below.heap_alloc w o k (lt_of_heap this)).trans this
  · rcases List.mem_cons.1 hx with rfl | hx
    · exact heap_alloc_new w o
    · have := h.own x hx
      exact (Below.heap_alloc w o _ (lt_of_heap this)).trans this
  · rw [List.map_cons, List.nodup_cons]
    refine ⟨fun hm => ?_, h.nd⟩
    obtain ⟨x, hx, hxe⟩ := List.mem_map.1 hm
    have := lt_of_heap (h.own x hx)
    simp only at hxe
    omega
  · rcases List.mem_cons.1 hx with rfl | hx
    · cases e : I.m w.heap.size with
      | none => rfl
      | some o' => have := lt_of_heap (h.imm _ _ e); omega
    · exact h.dj x hx
/-- A block of one's own is given a new content. -/
theorem Holds.put {I : Imm} {L : OL} {w w' : World} {b : Nat} {o o' : Obj} (h : Holds I ((b, o) :: L) w) (hos : w'.os = w.os) (ht : w'.tape = w.tape) (hout : w'.output = w.output)
    (hb : w'.heap[b]? = some o') (hoth : ∀ k, k ≠ b → k < w.heap.size → w'.heap[k]? = w.heap[k]?) : Holds I ((b, o') :: L) w' := by
  have hnd := h.nd
  rw [List.map_cons, List.nodup_cons] at hnd
  refine ⟨hos.trans h.os, ht.trans h.tape, hout.trans h.output, fun k o1 e => ?_, fun x hx => ?_, ?_, fun x hx => ?_⟩
  · have h1 := h.imm k o1 e
    rw [hoth k (fun e' => ?_) (lt_of_heap h1)]; exact h1
    subst e'
    have := h.dj (k, o) (by simp)
    simp only at this
    rw [this] at e; cases e
  · rcases List.mem_cons.1 hx with rfl | hx
    · exact hb
    · have h1 := h.own x (List.mem_cons_of_mem _ hx)
      rw [hoth x.1 (fun e' => hnd.1 (List.mem_map.2 ⟨x, hx, e'⟩)) (lt_of_heap h1)]; exact h1
  · rw [List.map_cons, List.nodup_cons]; exact hnd
  · rcases List.mem_cons.1 hx with rfl | hx
    · exact h.dj (b, o) (by simp)
    · exact h.dj x (List.mem_cons_of_mem _ hx)
def Imm.add (I : Imm) (b : Nat) (o : Obj) : Imm := { I with m := fun k => if k = b then some o else I.m k }
/-- A block of one's own becomes immutable. -/
theorem Holds.fix {I : Imm} {L : OL} {w : World} {b : Nat} {o : Obj} (h : Holds I ((b, o) :: L) w) : I.Le (I.add b o) ∧ Holds (I.add b o) L w := by
  have hnd := h.nd
  rw [List.map_cons, List.nodup_cons] at hnd
  have hb : I.m b = none := h.dj (b, o) (by simp)
  refine ⟨⟨rfl, rfl, rfl, fun k o' e => ?_⟩, h.os, h.tape, h.output, fun k o' e => ?_, fun x hx => h.own x (List.mem_cons_of_mem _ hx), hnd.2, fun x hx => ?_⟩
  · simp only [Imm.add]
    rw [if_neg (fun e' => by subst e'; rw [hb] at e; cases e)]; exact e
  · simp only [Imm.add] at e
    by_cases hk : k = b
    · subst hk; rw [if_pos rfl] at e; injection e with e; subst e; exact h.own (k, o) (by simp)
    · rw [if_neg hk] at e; exact h.imm k o' e
  · simp only [Imm.add]
    rw [if_neg (fun e' => hnd.1 (List.mem_map.2 ⟨x, hx, e'⟩))]
    exact h.dj x (List.mem_cons_of_mem _ hx)

/-! ## What a function's own part of the state is known to be -/
inductive BI where
  | cells (b : Nat) (T : TypeId) (n : Nat)
  | obj (b : Nat)
def BI.b : BI → Nat | .cells b _ _ => b | .obj b => b
def lookB {α : Type} : List (Nat × α) → Nat → Option α
  | [], _ => none
  | (j, x) :: r, i => bif Nat.beq i j then some x else lookB r i
/-- A row of cells: block key, first place, how many, what. -/
structure Row where
  i : Nat
  o : Nat
  n : Nat
  vs : List Value
def lookM : List Row → Nat → Nat → Option Value
  | [], _, _ => none
  | ⟨j, o, n, vs⟩ :: r, i, k => bif Nat.beq i j && (Nat.ble o k && Nat.blt k (o + n)) then vs[k - o]? else lookM r i k
structure St where
  I : Imm
  F : OL
  bs : List (Nat × BI)
  ms : List Row
  ob : List (Nat × Obj)
  G : List (Nat × Value)

/-- What stands behind one key. -/
def IsBlk (ms : List Row) (ob : List (Nat × Obj)) (i : Nat) (x : BI) (y : Nat × Obj) : Prop :=
  y.1 = x.b ∧ match x with
    | .cells _ T n => ∃ cs : Array Value, y.2 = .cells cs T (0, 0) ∧ cs.size = n ∧ ∀ k v, lookM ms i k = some v → cs[k]? = some v
    | .obj _ => ∀ o, lookB ob i = some o → y.2 = o
inductive Loc (ms : List Row) (ob : List (Nat × Obj)) : List (Nat × BI) → OL → Prop
  | nil : Loc ms ob [] []
  | cons {i : Nat} {x : BI} {y : Nat × Obj} {bs : List (Nat × BI)} {C : OL} (h : IsBlk ms ob i x y) (hi : lookB bs i = none) (hr : Loc ms ob bs C) : Loc ms ob ((i, x) :: bs) (y :: C)

structure Rel (N : Nat) (I0 : Imm) (S : St) (a : Act) (w : World) : Prop where
  le : I0.Le S.I
  mem : ∃ C, Loc S.ms S.ob S.bs C ∧ Holds S.I (C ++ S.F) w
  size : a.tmps.size = N
  defers : a.defers = []
  env : ∀ t v, lookB S.G t = some v → a.tmps[t]? = some v

def SAT (N : Nat) (I0 : Imm) (S : St) (K : Act → World → Prop) : Prop := ∀ a w, Rel N I0 S a w → K a w

theorem Loc.mem {ms : List Row} {ob : List (Nat × Obj)} {bs : List (Nat × BI)} {C : OL} (h : Loc ms ob bs C) {i : Nat} {x : BI} (hi : lookB bs i = some x) : ∃ y ∈ C, IsBlk ms ob i x y := by
  induction h with
  | nil => cases hi
  | @cons j x' y bs C h1 h2 h3 ih =>
    simp only [lookB] at hi
    by_cases e : i = j
    · subst e
      simp at hi
      subst hi
      exact ⟨y, by simp, h1⟩
    · have : Nat.beq i j = false := by rw [Bool.eq_false_iff]; exact fun h => e (Nat.eq_of_beq_eq_true h)
      rw [this] at hi
      obtain ⟨y', hy, hb⟩ := ih hi
      exact ⟨y', List.mem_cons_of_mem _ hy, hb⟩

theorem lookB_cons_ne {α : Type} {l : List (Nat × α)} {i j : Nat} {x : α} (h : i ≠ j) : lookB ((j, x) :: l) i = lookB l i := by
  have : Nat.beq i j = false := by rw [Bool.eq_false_iff]; exact fun h' => h (Nat.eq_of_beq_eq_true h')
  simp only [lookB, this, cond_false]
theorem lookB_cons_eq {α : Type} {l : List (Nat × α)} {i : Nat} {x : α} : lookB ((i, x) :: l) i = some x := by
  simp [lookB]

/-! ## Values -/
def ev (G : List (Nat × Value)) : Operand → Option Value
  | .tmp t => lookB G t
  | .const v => some v
  | .global g => some (.pointer (some ⟨g, 0, none⟩))
  | .func f => some (.func (.func f) #[] #[])
def evs (G : List (Nat × Value)) : List Operand → Option (List Value)
  | [] => some []
  | x :: r => match ev G x with
    | some v => match evs G r with
      | some l => some (v :: l)
      | none => none
    | none => none

section
variable {P : Program} {N : Nat} {I0 : Imm} {S : St} {a : Act} {w : World}
theorem getD_of {l : Array Value} {t : Nat} {v : Value} (h : l[t]? = some v) : l.getD t undef = v := by
  obtain ⟨hl, he⟩ := Array.getElem?_eq_some_iff.1 h
  simp [Array.getD, hl, he]
theorem Rel.ev {x : Operand} {v : Value} (h : Rel N I0 S a w) (e : ev S.G x = some v) : a.eval x = v := by
  cases x with
  | tmp t => exact getD_of (h.env t v e)
  | const v' => simpa [TL.ev, Act.eval] using e
  | global g => simpa [TL.ev, Act.eval] using e
  | func f => simpa [TL.ev, Act.eval] using e
theorem Rel.evs (h : Rel N I0 S a w) : ∀ {xs : List Operand} {vs : List Value}, evs S.G xs = some vs → xs.map a.eval = vs
  | [], _, e => by simp only [TL.evs, Option.some.injEq] at e; subst e; rfl
  | x :: r, vs, e => by
    simp only [TL.evs] at e
    cases e1 : TL.ev S.G x with
    | none => rw [e1] at e; cases e
    | some v =>
      rw [e1] at e
      simp only at e
      cases e2 : TL.evs S.G r with
      | none => rw [e2] at e; cases e
      | some l =>
        rw [e2] at e
        simp only [Option.some.injEq] at e
        subst e
        rw [List.map_cons, h.ev e1, Rel.evs h e2]
theorem Rel.put {d : Nat} {v : Value} {I : Imm} {F : OL} {bs : List (Nat × BI)} {ms : List Row} {ob : List (Nat × Obj)} {G : List (Nat × Value)} (h : Rel N I0 ⟨I, F, bs, ms, ob, G⟩ a w)
    (hd : Nat.blt d N = true) : Rel N I0 ⟨I, F, bs, ms, ob, (d, v) :: G⟩ (a.put (some d) v) w := by
  refine ⟨h.le, h.mem, by simp [Act.put, h.size], by simp [Act.put, h.defers], fun t u e => ?_⟩
  by_cases ht : t = d
  · subst ht
    rw [lookB_cons_eq] at e
    injection e with e
    subst e
    have hlt : t < a.tmps.size := by rw [h.size]; simpa using hd
    simp [Act.put, hlt]
  · rw [lookB_cons_ne ht] at e
    have := h.env t u e
    simp only [Act.put]
    rw [Array.getElem?_setIfInBounds_ne (fun e => ht e.symm)]
    exact this
theorem Rel.put' {d : Option Nat} {v : Value} {I : Imm} {F : OL} {bs : List (Nat × BI)} {ms : List Row} {ob : List (Nat × Obj)} {G : List (Nat × Value)} (h : Rel N I0 ⟨I, F, bs, ms, ob, G⟩ a w)
    (hd : d = none) : Rel N I0 ⟨I, F, bs, ms, ob, G⟩ (a.put d v) w := by subst hd; exact h
end

/-! ## The code that is left -/
inductive KI where
  | c (x : Code)
  | b (id : Nat)
  | l (J : Act → World → Prop)
def QK (P : Program) (R : Exit → Act → World → Prop) : List KI → Exit → Act → World → Prop
  | [], e => R e
  | .c x :: k, e => match e with
    | .normal => x.wp P (QK P R k)
    | e => QK P R k e
  | .b id :: k, e => match e with
    | .exit i => if i = id then QK P R k .normal else QK P R k (.exit i)
    | e => QK P R k e
  | .l J :: k, e => match e with
    | .normal => J
    | e => QK P R k e
def resK : List KI → Exit → Option (Code × List KI)
  | [], _ => none
  | .c x :: k, e => match e with
    | .normal => some (x, k)
    | e => resK k e
  | .b id :: k, e => match e with
    | .exit i => bif Nat.beq i id then resK k .normal else resK k (.exit i)
    | e => resK k e
  | .l _ :: k, e => match e with
    | .normal => none
    | e => resK k e
def resL : List KI → Exit → Option (Act → World → Prop)
  | [], _ => none
  | .c _ :: k, e => match e with
    | .normal => none
    | e => resL k e
  | .b id :: k, e => match e with
    | .exit i => bif Nat.beq i id then resL k .normal else resL k (.exit i)
    | e => resL k e
  | .l J :: k, e => match e with
    | .normal => some J
    | e => resL k e
/-- Does the way lead out of the body? -/
def resE : List KI → Exit → Option Exit
  | [], e => some e
  | .c _ :: k, e => match e with
    | .normal => none
    | e => resE k e
  | .b id :: k, e => match e with
    | .exit i => bif Nat.beq i id then resE k .normal else resE k (.exit i)
    | e => resE k e
  | .l _ :: k, e => match e with
    | .normal => none
    | e => resE k e

section
variable {P : Program} {R : Exit → Act → World → Prop}
theorem QK_b (id i : Nat) (k : List KI) : QK P R (.b id :: k) (.exit i) = bif Nat.beq i id then QK P R k .normal else QK P R k (.exit i) := by
  simp only [QK]
  by_cases h : i = id
  · subst h; simp
  · have : Nat.beq i id = false := by rw [Bool.eq_false_iff]; exact fun h' => h (Nat.eq_of_beq_eq_true h')
    rw [if_neg h, this]; rfl
theorem resK_sound : ∀ (k : List KI) (e : Exit) {x : Code} {k' : List KI}, resK k e = some (x, k') → QK P R k e = x.wp P (QK P R k')
  | [], _, _, _, h => by cases h
  | .c y :: k, e, x, k', h => by
    cases e with
    | normal => simp only [resK, Option.some.injEq, Prod.mk.injEq] at h; obtain ⟨rfl, rfl⟩ := h; rfl
    | _ => exact resK_sound k _ h
  | .b id :: k, e, x, k', h => by
    cases e with
    | exit i =>
      rw [QK_b]
      simp only [resK] at h
      cases hb : Nat.beq i id <;> simp only [hb, cond_true, cond_false] at h ⊢
      · exact resK_sound k _ h
      · exact resK_sound k _ h
    | _ => exact resK_sound k _ h
  | .l J :: k, e, x, k', h => by
    cases e with
    | normal => cases h
    | _ => exact resK_sound k _ h
theorem resL_sound : ∀ (k : List KI) (e : Exit) {J : Act → World → Prop}, resL k e = some J → QK P R k e = J
  | [], _, _, h => by cases h
  | .c y :: k, e, _, h => by
    cases e with
    | normal => cases h
    | _ => exact resL_sound k _ h
  | .b id :: k, e, _, h => by
    cases e with
    | exit i =>
      rw [QK_b]
      simp only [resL] at h
      cases hb : Nat.beq i id <;> simp only [hb, cond_true, cond_false] at h ⊢
      · exact resL_sound k _ h
      · exact resL_sound k _ h
    | _ => exact resL_sound k _ h
  | .l J :: k, e, _, h => by
    cases e with
    | normal => simp only [resL, Option.some.injEq] at h; exact h
    | _ => exact resL_sound k _ h
theorem resE_sound : ∀ (k : List KI) (e : Exit) {e' : Exit}, resE k e = some e' → QK P R k e = R e'
  | [], _, _, h => by simp only [resE, Option.some.injEq] at h; subst h; rfl
  | .c y :: k, e, _, h => by
    cases e with
    | normal => cases h
    | _ => exact resE_sound k _ h
  | .b id :: k, e, _, h => by
    cases e with
    | exit i =>
      rw [QK_b]
      simp only [resE] at h
      cases hb : Nat.beq i id <;> simp only [hb, cond_true, cond_false] at h ⊢
      · exact resE_sound k _ h
      · exact resE_sound k _ h
    | _ => exact resE_sound k _ h
  | .l J :: k, e, _, h => by
    cases e with
    | normal => cases h
    | _ => exact resE_sound k _ h
end

def T (P : Program) (N : Nat) (I0 : Imm) (R : Exit → Act → World → Prop) (S : St) (c : Code) (k : List KI) : Prop := SAT N I0 S (c.wp P (QK P R k))
def TL (P : Program) (N : Nat) (I0 : Imm) (R : Exit → Act → World → Prop) (S : St) (all : List Oper) (rest : List Oper) (k : List KI) : Prop :=
  SAT N I0 S (wpList P all.toArray (QK P R k) rest)
def TX (P : Program) (N : Nat) (I0 : Imm) (R : Exit → Act → World → Prop) (S : St) (e : Exit) (k : List KI) : Prop := SAT N I0 S (QK P R k e)

section
variable {P : Program} {N : Nat} {I0 : Imm} {R : Exit → Act → World → Prop} {S : St} {k : List KI}
theorem t_seq {x y : Code} (h : T P N I0 R S x (.c y :: k)) : T P N I0 R S (.seq x y) k := fun a w hr =>
  wp_seq (wp_mono (h a w hr) fun e a w q => by cases e <;> exact q)
theorem t_block {id : Nat} {x : Code} (h : T P N I0 R S x (.b id :: k)) : T P N I0 R S (.block id x) k := fun a w hr =>
  wp_block (wp_mono (h a w hr) fun e a w q => by
    cases e with
    | exit i =>
      simp only [QK] at q
      simp only [Exit.inBlock]
      by_cases hi : i = id
      · rw [if_pos hi] at q ⊢; exact q
      · rw [if_neg hi] at q ⊢; exact q
    | _ => exact q)
theorem t_if {c : Operand} {x y : Code} {b : Bool} (hc : ev S.G c = some (.bool b)) (ht : b = true → T P N I0 R S x k) (hf : b = false → T P N I0 R S y k) : T P N I0 R S (.cond c x y) k := fun a w hr =>
  wp_cond_split (hr.ev hc) (fun h => ht h a w hr) (fun h => hf h a w hr)
/-- What a Bool says, and what its contrary says. -/
class BoolP (b : Bool) (p q : outParam Prop) : Prop where
  yes : b = true → p
  no : b = false → q
instance (priority := low) boolP_any (b : Bool) : BoolP b (b = true) (b = false) := ⟨id, id⟩
instance boolP_decide (p : Prop) [d : Decidable p] : BoolP (@decide p d) p (¬ p) := ⟨of_decide_eq_true, of_decide_eq_false⟩
instance boolP_not (b : Bool) (p q : Prop) [h : BoolP b p q] : BoolP (!b) q p := ⟨fun e => h.no (by simpa using e), fun e => h.yes (by simpa using e)⟩
instance boolP_and (a b : Bool) (p q p' q' : Prop) [h : BoolP a p q] [h' : BoolP b p' q'] : BoolP (a && b) (p ∧ p') (q ∨ q') :=
  ⟨fun e => by rw [Bool.and_eq_true] at e; exact ⟨h.yes e.1, h'.yes e.2⟩, fun e => by rw [Bool.and_eq_false_iff] at e; exact e.imp h.no h'.no⟩
instance boolP_or (a b : Bool) (p q p' q' : Prop) [h : BoolP a p q] [h' : BoolP b p' q'] : BoolP (a || b) (p ∨ p') (q ∧ q') :=
  ⟨fun e => by rw [Bool.or_eq_true] at e; exact e.imp h.yes h'.yes, fun e => by rw [Bool.or_eq_false_iff] at e; exact ⟨h.no e.1, h'.no e.2⟩⟩
instance boolP_cand (a b : Bool) (p q p' q' : Prop) [h : BoolP a p q] [h' : BoolP b p' q'] : BoolP (bif a then b else false) (p ∧ p') (q ∨ q') where
  yes e := by
    cases a with
    | true => exact ⟨h.yes rfl, h'.yes e⟩
    | false => cases e
  no e := by
    cases a with
    | true => exact .inr (h'.no e)
    | false => exact .inl (h.no rfl)
instance boolP_cor (a b : Bool) (p q p' q' : Prop) [h : BoolP a p q] [h' : BoolP b p' q'] : BoolP (bif a then true else b) (p ∨ p') (q ∧ q') where
  yes e := by
    cases a with
    | true => exact .inl (h.yes rfl)
    | false => exact .inr (h'.yes e)
  no e := by
    cases a with
    | true => cases e
    | false => exact ⟨h.no rfl, h'.no e⟩
theorem t_ift {c : Operand} {x y : Code} (hc : ev S.G c = some (.bool true)) (ht : T P N I0 R S x k) : T P N I0 R S (.cond c x y) k := fun a w hr =>
  wp_cond_true (hr.ev hc) (ht a w hr)
theorem t_iff {c : Operand} {x y : Code} (hc : ev S.G c = some (.bool false)) (ht : T P N I0 R S y k) : T P N I0 R S (.cond c x y) k := fun a w hr =>
  wp_cond_false (hr.ev hc) (ht a w hr)
theorem t_skip (h : TX P N I0 R S .normal k) : T P N I0 R S .skip k := fun a w hr => wp_skip (h a w hr)
theorem t_label {l : Nat} (h : TX P N I0 R S .normal k) : T P N I0 R S (.label l) k := fun a w hr => wp_label (h a w hr)
theorem t_exit {id : Nat} (h : TX P N I0 R S (.exit id) k) : T P N I0 R S (.exit id) k := fun a w hr => wp_exit (h a w hr)
theorem t_ret (h : TX P N I0 R S .ret k) : T P N I0 R S .ret k := fun a w hr => wp_ret (h a w hr)
theorem t_region {id : Nat} {l : List Oper} (h : TL P N I0 R S l l k) : T P N I0 R S (.region id l.toArray false) k := fun a w hr => wp_region_lit (h a w hr)
theorem tl_end {all : List Oper} (h : TX P N I0 R S .normal k) : TL P N I0 R S all [] k := fun a w hr => wpList_nil (h a w hr)
theorem tx_go {e : Exit} {x : Code} {k' : List KI} (hk : resK k e = some (x, k')) (h : T P N I0 R S x k') : TX P N I0 R S e k := fun a w hr => by
  rw [resK_sound k e hk]; exact h a w hr
theorem tx_loop {e : Exit} {J : Act → World → Prop} (hk : resL k e = some J) (h : SAT N I0 S J) : TX P N I0 R S e k := fun a w hr => by
  rw [resL_sound k e hk]; exact h a w hr
theorem tx_end {e e' : Exit} (hk : resE k e = some e') (h : SAT N I0 S (R e')) : TX P N I0 R S e k := fun a w hr => by
  rw [resE_sound k e hk]; exact h a w hr

/-- A loop with a ghost state and a measure on it. -/
theorem wp_loop_ghost {α : Type} {c : Code} {Q : Exit → Act → World → Prop} {a : Act} {w : World} (J : α → Act → World → Prop) (μ : α → Nat) (x0 : α) (h₀ : J x0 a w)
    (round : ∀ x a w, J x a w → c.wp P (Exit.then (fun a' w' => ∃ x', μ x' < μ x ∧ J x' a' w') Q) a w) : (Code.loop c).wp P Q a w := by
  intro b k cs
  have key : ∀ n x a w, μ x = n → J x a w →
      ∃ e a' w', Q e a' w' ∧ Arrives P (lone (b.at a (.code c :: .inLoop c :: k)) cs w) b k cs e a' w' := by
    intro n
    induction n using Nat.strongRecOn with
    | _ n ih =>
      intro x a w hn hI
      obtain ⟨e, a₁, w₁, hq, harr⟩ := round x a w hI b (.inLoop c :: k) cs
      cases e with
      | normal =>
        obtain ⟨x₁, hlt, hI₁⟩ := hq
        obtain ⟨e₂, a₂, w₂, hq₂, harr₂⟩ := ih (μ x₁) (hn ▸ hlt) x₁ a₁ w₁ rfl hI₁
        exact ⟨e₂, a₂, w₂, hq₂, .of_steps (Steps.trans harr (.one step_inLoop)) harr₂⟩
      | exit id => exact ⟨_, a₁, w₁, hq, .pass (x := .inLoop c) rfl (fun _ _ => .inl (by simp)) harr⟩
      | goto l => exact ⟨_, a₁, w₁, hq, .pass (x := .inLoop c) rfl (fun _ _ => .inl (by simp)) harr⟩
      | ret => exact ⟨_, a₁, w₁, hq, .pass (x := .inLoop c) rfl (fun _ _ => .inl (by simp)) harr⟩
      | panic ch => exact ⟨_, a₁, w₁, hq, .pass (x := .inLoop c) rfl (fun _ _ => .inl (by simp)) harr⟩
      | outgrown => exact ⟨_, a₁, w₁, hq, .pass (x := .inLoop c) rfl (fun _ _ => .inl (by simp)) harr⟩
  obtain ⟨e, a', w', hq, harr⟩ := key _ x0 a w rfl h₀
  exact ⟨e, a', w', hq, .of_steps (.one step_loop) harr⟩
/-- What stands at the end of a round. -/
def Again {α : Type} (N : Nat) (I0 : Imm) (SS : α → St) (Inv : α → Prop) (μ : α → Nat) (x : α) (a : Act) (w : World) : Prop := ∃ x', μ x' < μ x ∧ Inv x' ∧ Rel N I0 (SS x') a w
theorem t_loop {α : Type} {c : Code} (SS : α → St) (Inv : α → Prop) (μ : α → Nat) (x0 : α) (hs : SAT N I0 S (Rel N I0 (SS x0))) (hi : Inv x0)
    (round : ∀ x, Inv x → T P N I0 R (SS x) c (.l (Again N I0 SS Inv μ x) :: k)) : T P N I0 R S (.loop c) k := fun a w hr =>
  wp_loop_ghost (fun x a w => Inv x ∧ Rel N I0 (SS x) a w) μ x0 ⟨hi, hs a w hr⟩ fun x a w ⟨hx, h⟩ =>
    wp_mono (round x hx a w h) fun e a w q => by
      cases e with
      | normal => obtain ⟨x', h1, h2, h3⟩ := q; exact ⟨x', h1, h2, h3⟩
      | _ => exact q
theorem t_again {α : Type} {SS : α → St} {Inv : α → Prop} {μ : α → Nat} {x : α} (x' : α) (hm : μ x' < μ x) (hi : Inv x') (hs : SAT N I0 S (Rel N I0 (SS x'))) : SAT N I0 S (Again N I0 SS Inv μ x) := fun a w hr =>
  ⟨x', hm, hi, hs a w hr⟩
end

/-! ## Operations that yield a value and leave the world alone -/
def Yd (P : Program) (N : Nat) (I0 : Imm) (S : St) (o : Oper) (v : Value) : Prop := ∀ a w, Rel N I0 S a w → (execOp a.eval o).run P w = .ok (.value v) w

structure TyCell (P : Program) (t : TypeId) : Prop where
  agg : ∀ w, (isAgg t).run P w = .ok false w
  size : ∀ w, (sizeOf t).run P w = .ok 1 w
structure TyAgg (P : Program) (t : TypeId) (n : Nat) : Prop where
  agg : ∀ w, (isAgg t).run P w = .ok true w
  size : ∀ w, (sizeOf t).run P w = .ok n w
/-- The address of a field. -/
def FieldOK (P : Program) (t : TypeId) (f off : Nat) : Prop := ∀ (a : Addr) (w : World), (Instr.fieldAt t (.pointer (some a)) f).run P w = .ok (.pointer (some (a.add off))) w
def CellsI (I : Imm) (p : Addr) (vs : List Value) : Prop := ∀ j v, vs[j]? = some v → I.cell? (p.add j) = some v
theorem CellsI.mono {I J : Imm} {p : Addr} {vs : List Value} (h : CellsI I p vs) (hI : I.Le J) : CellsI J p vs := fun j v hj => hI.cell (h j v hj)

def gatherM (ms : List Row) (i k : Nat) : Nat → Option (List Value)
  | 0 => some []
  | n + 1 => match lookM ms i k with
    | some v => match gatherM ms i (k + 1) n with
      | some l => some (v :: l)
      | none => none
    | none => none
theorem gatherM_get {ms : List Row} {i : Nat} : ∀ {n k : Nat} {vs : List Value}, gatherM ms i k n = some vs → vs.length = n ∧ ∀ j v, vs[j]? = some v → lookM ms i (k + j) = some v
  | 0, k, vs, h => by simp only [gatherM, Option.some.injEq] at h; subst h; exact ⟨rfl, fun j v h => by simp at h⟩
  | n + 1, k, vs, h => by
    simp only [gatherM] at h
    cases e1 : lookM ms i k with
    | none => rw [e1] at h; cases h
    | some v =>
      rw [e1] at h
      simp only at h
      cases e2 : gatherM ms i (k + 1) n with
      | none => rw [e2] at h; cases h
      | some l =>
        rw [e2] at h
        simp only [Option.some.injEq] at h
        subst h
        obtain ⟨h1, h2⟩ := gatherM_get e2
        refine ⟨by simp [h1], fun j u hj => ?_⟩
        cases j with
        | zero => simp at hj; subst hj; exact e1
        | succ j => simp at hj; rw [show k + (j + 1) = k + 1 + j by omega]; exact h2 j u hj

theorem run_loadCellsFrom_of {P : Program} {w : World} {a : Addr} : ∀ (vs : List Value) (i : Nat) (acc : Array Value), (∀ j v, vs[j]? = some v → w.cell? (a.add (i + j)) = some v) →
    (loadCellsFrom a i vs.length acc).run P w = .ok (acc ++ vs.toArray) w
  | [], i, acc, _ => by simp [loadCellsFrom]
  | v :: vs, i, acc, h => by
    have h0 := h 0 v (by simp)
    simp only [List.length_cons, loadCellsFrom, Sem.run_bind, run_load, Nat.add_zero] at h0 ⊢
    rw [h0]
    simp only [Result.andThen_ok]
    rw [run_loadCellsFrom_of vs (i + 1) (acc.push v) (fun j u hj => by rw [show i + 1 + j = i + (j + 1) by omega]; exact h (j + 1) u (by simpa using hj))]
    simp
theorem run_loadVar_cell {P : Program} {w : World} {t : TypeId} {a : Addr} {v : Value} (ht : TyCell P t) (h : w.cell? a = some v) : (loadVar t a).run P w = .ok v w := by
  simp only [loadVar, Sem.run_bind, ht.agg, Result.andThen_ok, Bool.false_eq_true, if_false, run_load, h]
theorem run_loadVar_agg {P : Program} {w : World} {t : TypeId} {a : Addr} {vs : List Value} {n : Nat} (ht : TyAgg P t n) (hn : vs.length = n) (h : ∀ j v, vs[j]? = some v → w.cell? (a.add j) = some v) :
    (loadVar t a).run P w = .ok (.agg vs.toArray) w := by
  subst hn
  simp only [loadVar, Sem.run_bind, ht.agg, Result.andThen_ok, if_true, ht.size, loadCells]
  rw [run_loadCellsFrom_of vs 0 #[] (fun j v hj => by rw [Nat.zero_add]; exact h j v hj)]
  simp

section
variable {P : Program} {N : Nat} {I0 : Imm} {S : St}
theorem Rel.local_ {a : Act} {w : World} {i b n : Nat} {t : TypeId} (h : Rel N I0 S a w) (hb : lookB S.bs i = some (.cells b t n)) :
    ∃ cs : Array Value, w.heap[b]? = some (.cells cs t (0, 0)) ∧ cs.size = n ∧ ∀ k v, lookM S.ms i k = some v → cs[k]? = some v := by
  obtain ⟨C, hl, hh⟩ := h.mem
  obtain ⟨y, hy, h1, cs, h2, h3, h4⟩ := hl.mem hb
  refine ⟨cs, ?_, h3, h4⟩
  have := hh.own y (List.mem_append_left _ hy)
  rw [h1, h2] at this
  exact this
theorem Rel.cellL {a : Act} {w : World} {i b n k : Nat} {t : TypeId} {v : Value} (h : Rel N I0 S a w) (hb : lookB S.bs i = some (.cells b t n)) (hv : lookM S.ms i k = some v) :
    w.cell? ⟨b, k, none⟩ = some v := by
  obtain ⟨cs, h1, _, h3⟩ := h.local_ hb
  simp [World.cell?, h1, h3 k v hv]
theorem Rel.holds {a : Act} {w : World} (h : Rel N I0 S a w) : ∃ L, Holds S.I L w := let ⟨_, _, hh⟩ := h.mem; ⟨_, hh⟩
theorem Rel.cellI {a : Act} {w : World} {p : Addr} {v : Value} (h : Rel N I0 S a w) (hv : S.I.cell? p = some v) : w.cell? p = some v :=
  let ⟨_, hh⟩ := h.holds; hh.cell hv

variable {dst : Option Tmp} {ty : TypeId} {pos : String} {af : Array Edge} {g : Option (Nat × Bool)}
theorem y_mv {x : Operand} {v : Value} (hx : ev S.G x = some v) : Yd P N I0 S ⟨dst, .move x, ty, pos, af, g⟩ v := fun a w h => by
  simp [execOp, h.ev hx]
theorem y_as {x : Operand} {v : Value} (hx : ev S.G x = some v) : Yd P N I0 S ⟨dst, .assign x, ty, pos, af, g⟩ v := fun a w h => by
  simp [execOp, h.ev hx]
theorem y_pick {c x y : Operand} {b : Bool} {v : Value} (hc : ev S.G c = some (.bool b)) (hv : (bif b then ev S.G x else ev S.G y) = some v) : Yd P N I0 S ⟨dst, .pick c x y, ty, pos, af, g⟩ v := fun a w h => by
  cases b
  · simp only [cond_false] at hv; simp [execOp, h.ev hc, asBool, h.ev hv]
  · simp only [cond_true] at hv; simp [execOp, h.ev hc, asBool, h.ev hv]
theorem y_ext {x : Operand} {ix : Nat} {vs : Array Value} {v : Value} (hx : ev S.G x = some (.tuple vs)) (hv : vs[ix]? = some v) : Yd P N I0 S ⟨dst, .extract x ix, ty, pos, af, g⟩ v := fun a w h => by
  simp [execOp, h.ev hx, Instr.extract, hv]
theorem y_nc {x : Operand} {p : Addr} (hx : ev S.G x = some (.pointer (some p))) : Yd P N I0 S ⟨dst, .nilCheck x, ty, pos, af, g⟩ (.pointer (some p)) := fun a w h => by
  simp [execOp, h.ev hx]
theorem y_ncf {x : Operand} {f : FuncId} {u v : Array Value} (hx : ev S.G x = some (.func (.func f) u v)) : Yd P N I0 S ⟨dst, .nilCheck x, ty, pos, af, g⟩ (.func (.func f) u v) := fun a w h => by
  simp [execOp, h.ev hx]
theorem y_fa {x : Operand} {t : TypeId} {f off : Nat} {p : Addr} (hx : ev S.G x = some (.pointer (some p))) (hf : FieldOK P t f off) : Yd P N I0 S ⟨dst, .fieldAddr t x f, ty, pos, af, g⟩ (.pointer (some (p.add off))) := fun a w h => by
  simp only [execOp, h.ev hx, Sem.run_bind, hf p w, Result.andThen_ok, Sem.run_pure]
theorem addr_add_add (a : Addr) (i j : Nat) : (a.add i).add j = a.add (i + j) := by
  unfold Addr.add
  by_cases hi : i = 0 <;> by_cases hj : j = 0 <;> simp [hi, hj, Nat.add_assoc]
theorem add_local (b k off : Nat) : (⟨b, k, none⟩ : Addr).add off = ⟨b, k + off, none⟩ := by
  unfold Addr.add; split
  · simp [*]
  · rfl
/-- The address of a field of a block of one's own. -/
theorem y_fal {x : Operand} {t : TypeId} {f off b k k' : Nat} (hx : ev S.G x = some (.pointer (some ⟨b, k, none⟩))) (hf : FieldOK P t f off) (hk : k + off = k') : Yd P N I0 S ⟨dst, .fieldAddr t x f, ty, pos, af, g⟩ (.pointer (some ⟨b, k', none⟩)) := by
  subst hk; rw [← add_local]; exact y_fa hx hf
theorem y_ld {x : Operand} {t : TypeId} {i b n k : Nat} {T' : TypeId} {v : Value} (hx : ev S.G x = some (.pointer (some ⟨b, k, none⟩))) (hb : lookB S.bs i = some (.cells b T' n)) (hv : lookM S.ms i k = some v) (ht : TyCell P t) :
    Yd P N I0 S ⟨dst, .load t x, ty, pos, af, g⟩ v := fun a w h => by
  simp only [execOp, h.ev hx, Instr.loadAt, Instr.sureAddr, Sem.run_bind, Sem.run_pure, Result.andThen_ok, run_loadVar_cell ht (h.cellL hb hv)]
theorem y_lda {x : Operand} {t : TypeId} {i b n k m : Nat} {T' : TypeId} {vs : List Value} (hx : ev S.G x = some (.pointer (some ⟨b, k, none⟩))) (hb : lookB S.bs i = some (.cells b T' n)) (ht : TyAgg P t m) (hv : gatherM S.ms i k m = some vs) :
    Yd P N I0 S ⟨dst, .load t x, ty, pos, af, g⟩ (.agg vs.toArray) := fun a w h => by
  obtain ⟨hl, hg⟩ := gatherM_get hv
  have := run_loadVar_agg (P := P) (w := w) (a := ⟨b, k, none⟩) ht hl (fun j v hj => by rw [add_local]; exact h.cellL hb (hg j v hj))
  simp only [execOp, h.ev hx, Instr.loadAt, Instr.sureAddr, Sem.run_bind, Sem.run_pure, Result.andThen_ok, this]
theorem y_ldi {x : Operand} {t : TypeId} {p : Addr} {v : Value} (hx : ev S.G x = some (.pointer (some p))) (hv : S.I.cell? p = some v) (ht : TyCell P t) :
    Yd P N I0 S ⟨dst, .load t x, ty, pos, af, g⟩ v := fun a w h => by
  simp only [execOp, h.ev hx, Instr.loadAt, Instr.sureAddr, Sem.run_bind, Sem.run_pure, Result.andThen_ok, run_loadVar_cell ht (h.cellI hv)]
theorem y_ldia {x : Operand} {t : TypeId} {m : Nat} {p : Addr} {vs : List Value} (hx : ev S.G x = some (.pointer (some p))) (ht : TyAgg P t m) (hn : vs.length = m) (hv : CellsI S.I p vs) :
    Yd P N I0 S ⟨dst, .load t x, ty, pos, af, g⟩ (.agg vs.toArray) := fun a w h => by
  have := run_loadVar_agg (P := P) (w := w) (a := p) ht hn (fun j v hj => h.cellI (hv j v hj))
  simp only [execOp, h.ev hx, Instr.loadAt, Instr.sureAddr, Sem.run_bind, Sem.run_pure, Result.andThen_ok, this]

/-! integers -/
def i64 (n : Int) : Prop := -9223372036854775808 ≤ n ∧ n < 9223372036854775808
theorem wrap_i64_of {n : Int} (h : -9223372036854775808 ≤ n ∧ n < 9223372036854775808) : IntKind.i64.wrap n = n := by
  rw [IntKind.wrap_i64]; omega
theorem y_add {x y : Operand} {t u : TypeId} {m n : Int} (hx : ev S.G x = some (.int .i64 m)) (hy : ev S.G y = some (.int .i64 n)) (hb : -9223372036854775808 ≤ m + n ∧ m + n < 9223372036854775808) :
    Yd P N I0 S ⟨dst, .binOp .add t x y u, ty, pos, af, g⟩ (.int .i64 (m + n)) := fun a w h => by
  simp [execOp, h.ev hx, h.ev hy, eqGuard, binOp, Op.intArith, wrap_i64_of hb]
theorem y_sub {x y : Operand} {t u : TypeId} {m n : Int} (hx : ev S.G x = some (.int .i64 m)) (hy : ev S.G y = some (.int .i64 n)) (hb : -9223372036854775808 ≤ m - n ∧ m - n < 9223372036854775808) :
    Yd P N I0 S ⟨dst, .binOp .sub t x y u, ty, pos, af, g⟩ (.int .i64 (m - n)) := fun a w h => by
  simp [execOp, h.ev hx, h.ev hy, eqGuard, binOp, Op.intArith, wrap_i64_of hb]
theorem y_mul {x y : Operand} {t u : TypeId} {m n : Int} (hx : ev S.G x = some (.int .i64 m)) (hy : ev S.G y = some (.int .i64 n)) (hb : -9223372036854775808 ≤ m * n ∧ m * n < 9223372036854775808) :
    Yd P N I0 S ⟨dst, .binOp .mul t x y u, ty, pos, af, g⟩ (.int .i64 (m * n)) := fun a w h => by
  simp [execOp, h.ev hx, h.ev hy, eqGuard, binOp, Op.intArith, wrap_i64_of hb]
/-- As the machine computes it, of whatever kind. -/
theorem y_addw {x y : Operand} {t u : TypeId} {kd : IntKind} {m n : Int} (hx : ev S.G x = some (.int kd m)) (hy : ev S.G y = some (.int kd n)) :
    Yd P N I0 S ⟨dst, .binOp .add t x y u, ty, pos, af, g⟩ (.int kd (kd.wrap (m + n))) := fun a w h => by
  simp [execOp, h.ev hx, h.ev hy, eqGuard, binOp, Op.intArith]
theorem y_subw {x y : Operand} {t u : TypeId} {kd : IntKind} {m n : Int} (hx : ev S.G x = some (.int kd m)) (hy : ev S.G y = some (.int kd n)) :
    Yd P N I0 S ⟨dst, .binOp .sub t x y u, ty, pos, af, g⟩ (.int kd (kd.wrap (m - n))) := fun a w h => by
  simp [execOp, h.ev hx, h.ev hy, eqGuard, binOp, Op.intArith]
theorem y_mulw {x y : Operand} {t u : TypeId} {kd : IntKind} {m n : Int} (hx : ev S.G x = some (.int kd m)) (hy : ev S.G y = some (.int kd n)) :
    Yd P N I0 S ⟨dst, .binOp .mul t x y u, ty, pos, af, g⟩ (.int kd (kd.wrap (m * n))) := fun a w h => by
  simp [execOp, h.ev hx, h.ev hy, eqGuard, binOp, Op.intArith]
theorem y_lt {x y : Operand} {t u : TypeId} {kd : IntKind} {m n : Int} (hx : ev S.G x = some (.int kd m)) (hy : ev S.G y = some (.int kd n)) :
    Yd P N I0 S ⟨dst, .binOp .lss t x y u, ty, pos, af, g⟩ (.bool (decide (m < n))) := fun a w h => by
  simp [execOp, h.ev hx, h.ev hy, eqGuard, binOp, Op.intCmp]
theorem y_le {x y : Operand} {t u : TypeId} {kd : IntKind} {m n : Int} (hx : ev S.G x = some (.int kd m)) (hy : ev S.G y = some (.int kd n)) :
    Yd P N I0 S ⟨dst, .binOp .leq t x y u, ty, pos, af, g⟩ (.bool (decide (m ≤ n))) := fun a w h => by
  simp [execOp, h.ev hx, h.ev hy, eqGuard, binOp, Op.intCmp]
theorem y_gt {x y : Operand} {t u : TypeId} {kd : IntKind} {m n : Int} (hx : ev S.G x = some (.int kd m)) (hy : ev S.G y = some (.int kd n)) :
    Yd P N I0 S ⟨dst, .binOp .gtr t x y u, ty, pos, af, g⟩ (.bool (decide (n < m))) := fun a w h => by
  simp [execOp, h.ev hx, h.ev hy, eqGuard, binOp, Op.intCmp]
theorem y_ge {x y : Operand} {t u : TypeId} {kd : IntKind} {m n : Int} (hx : ev S.G x = some (.int kd m)) (hy : ev S.G y = some (.int kd n)) :
    Yd P N I0 S ⟨dst, .binOp .geq t x y u, ty, pos, af, g⟩ (.bool (decide (n ≤ m))) := fun a w h => by
  simp [execOp, h.ev hx, h.ev hy, eqGuard, binOp, Op.intCmp]
theorem y_eq {x y : Operand} {t u : TypeId} {kd : IntKind} {m n : Int} (hx : ev S.G x = some (.int kd m)) (hy : ev S.G y = some (.int kd n)) :
    Yd P N I0 S ⟨dst, .binOp .eql t x y u, ty, pos, af, g⟩ (.bool (decide (m = n))) := fun a w h => by
  have : (m == n) = decide (m = n) := by by_cases e : m = n <;> simp [e]
  simp [execOp, h.ev hx, h.ev hy, eqGuard, binOp, Op.intCmp, this]
theorem y_ne {x y : Operand} {t u : TypeId} {kd : IntKind} {m n : Int} (hx : ev S.G x = some (.int kd m)) (hy : ev S.G y = some (.int kd n)) :
    Yd P N I0 S ⟨dst, .binOp .neq t x y u, ty, pos, af, g⟩ (.bool (!decide (m = n))) := fun a w h => by
  have : (m != n) = !decide (m = n) := by by_cases e : m = n <;> simp [e]
  simp [execOp, h.ev hx, h.ev hy, eqGuard, binOp, Op.intCmp, this]
theorem y_not {x : Operand} {t : TypeId} {b : Bool} (hx : ev S.G x = some (.bool b)) : Yd P N I0 S ⟨dst, .unOp .not t x, ty, pos, af, g⟩ (.bool (!b)) := fun a w h => by
  simp [execOp, h.ev hx, Op.unary]
theorem y_lens {x : Operand} {t : TypeId} {e : TypeId} {p : Option Addr} {n c : Nat} (ht : P.underlying t = some (.slice e)) (hx : ev S.G x = some (.slice p n c)) :
    Yd P N I0 S ⟨dst, .call ⟨.builtin .len, #[x], #[t]⟩, ty, pos, af, g⟩ (.int .i64 n) := fun a w h => by
  simp [execOp, resolve, invoke, builtin, Builtin.len_, h.ev hx, run_underlying ht, goInt]
theorem y_lenstr {x : Operand} {t : TypeId} {s : ByteArray} (ht : P.underlying t = some .string) (hx : ev S.G x = some (.string s)) :
    Yd P N I0 S ⟨dst, .call ⟨.builtin .len, #[x], #[t]⟩, ty, pos, af, g⟩ (.int .i64 s.size) := fun a w h => by
  simp [execOp, resolve, invoke, builtin, Builtin.len_, h.ev hx, run_underlying ht, goInt]
/-- The address of a slice's element. -/
def IdxOK (P : Program) (t : TypeId) (size : Nat) : Prop := ∀ (a : Addr) (len cap : Nat) (k : IntKind) (i : Int) (w : World), 0 ≤ i → i < len →
  (Instr.indexAt t (.slice (some a) len cap) (.int k i)).run P w = .ok (.pointer (some (a.add (i.toNat * size)))) w
theorem idxOK {t e : TypeId} {size : Nat} (ht : P.underlying t = some (.slice e)) (hs : ∀ w, (sizeOf e).run P w = .ok size w) : IdxOK P t size := fun a len cap k i w h0 h1 => by
  simp [Instr.indexAt, asIntOf, run_underlying ht, h0, h1, hs]
theorem y_ix {x y : Operand} {t : TypeId} {size : Nat} {p : Addr} {len cap : Nat} {kd : IntKind} {i : Int} (hx : ev S.G x = some (.slice (some p) len cap)) (hy : ev S.G y = some (.int kd i)) (ht : IdxOK P t size) (h0 : 0 ≤ i) (h1 : i < len) :
    Yd P N I0 S ⟨dst, .indexAddr t x y, ty, pos, af, g⟩ (.pointer (some (p.add (i.toNat * size)))) := fun a w h => by
  simp only [execOp, h.ev hx, h.ev hy, Sem.run_bind, ht p len cap kd i w h0 h1, Result.andThen_ok, Sem.run_pure]
end

/-! ## Steps within a region -/
section
variable {P : Program} {N : Nat} {I0 : Imm} {R : Exit → Act → World → Prop} {k : List KI} {all rest : List Oper}
variable {I : Imm} {F : OL} {bs : List (Nat × BI)} {ms : List Row} {ob : List (Nat × Obj)} {G : List (Nat × Value)}
variable {d : Nat} {op : Op} {ty : TypeId} {pos : String} {af : Array Edge}
theorem V {v : Value} (hN : Nat.blt d N = true) (hy : Yd P N I0 ⟨I, F, bs, ms, ob, G⟩ ⟨some d, op, ty, pos, af, none⟩ v) (h : TL P N I0 R ⟨I, F, bs, ms, ob, (d, v) :: G⟩ all rest k) :
    TL P N I0 R ⟨I, F, bs, ms, ob, G⟩ all (⟨some d, op, ty, pos, af, none⟩ :: rest) k := fun a w hr =>
  wpList_plain rfl fun K hK => by
    unfold Oper.wp
    rw [hy a w hr]
    exact hK _ _ (h _ _ (hr.put hN))
/-- An operation without a guard. -/
theorem Ef {dst : Option Nat} {S : St} (h : SAT N I0 S fun a w => Oper.wp P ⟨dst, op, ty, pos, af, none⟩ a w (wpList P all.toArray (QK P R k) rest) (QK P R k)) : TL P N I0 R S all (⟨dst, op, ty, pos, af, none⟩ :: rest) k := fun a w hr => by
  unfold wpList
  rw [if_pos (by simp [Region.wanted])]
  exact .inl (h a w hr)
variable {K : Act → World → Prop} {Q : Exit → Act → World → Prop}
theorem e_v {v : Value} (hN : Nat.blt d N = true) (hy : Yd P N I0 ⟨I, F, bs, ms, ob, G⟩ ⟨some d, op, ty, pos, af, none⟩ v) (h : SAT N I0 ⟨I, F, bs, ms, ob, (d, v) :: G⟩ K) :
    SAT N I0 ⟨I, F, bs, ms, ob, G⟩ fun a w => Oper.wp P ⟨some d, op, ty, pos, af, none⟩ a w K Q := fun a w hr => by
  show Oper.wp _ _ _ _ _ _
  unfold Oper.wp
  rw [hy a w hr]
  exact h _ _ (hr.put hN)
theorem yielded_of {j t : Nat} {b : Bool} {a : Act} {w : World} (hr : Rel N I0 ⟨I, F, bs, ms, ob, G⟩ a w) (hj : (all[j]?).bind (·.dst) = some t) (hb : lookB G t = some (.bool b)) : yielded all.toArray a.tmps j = some b := by
  have := hr.env t _ hb
  simp only [yielded, List.getElem?_toArray, hj, Option.bind_some, this]
/-- The guard says yes. -/
theorem Gt {j t : Nat} {b : Bool} {dst : Option Nat} (hj : (all[j]?).bind (·.dst) = some t) (hb : lookB G t = some (.bool b)) (h : TL P N I0 R ⟨I, F, bs, ms, ob, G⟩ all (⟨dst, op, ty, pos, af, none⟩ :: rest) k) :
    TL P N I0 R ⟨I, F, bs, ms, ob, G⟩ all (⟨dst, op, ty, pos, af, some (j, b)⟩ :: rest) k := fun a w hr => by
  have h1 := h a w hr
  have hy := yielded_of hr hj hb
  have e1 : Region.wanted ⟨dst, op, ty, pos, af, some (j, b)⟩ (yielded all.toArray a.tmps) = true := by simp [Region.wanted, hy]
  have e2 : Region.wanted ⟨dst, op, ty, pos, af, none⟩ (yielded all.toArray a.tmps) = true := rfl
  unfold wpList at h1 ⊢
  rw [if_pos e1]
  rw [if_pos e2] at h1
  exact h1
/-- The guard says no. -/
theorem Gf {j t : Nat} {b b' : Bool} (hN : Nat.blt d N = true) (hj : (all[j]?).bind (·.dst) = some t) (hb : lookB G t = some (.bool b')) (hne : (b' == b) = false) (h : TL P N I0 R ⟨I, F, bs, ms, ob, (d, undef) :: G⟩ all rest k) :
    TL P N I0 R ⟨I, F, bs, ms, ob, G⟩ all (⟨some d, op, ty, pos, af, some (j, b)⟩ :: rest) k := fun a w hr => by
  have hy := yielded_of hr hj hb
  have e1 : Region.wanted ⟨some d, op, ty, pos, af, some (j, b)⟩ (yielded all.toArray a.tmps) = false := by simp [Region.wanted, hy, hne]
  unfold wpList
  rw [if_neg (by rw [e1]; simp)]
  exact h _ _ (hr.put hN)
theorem Gf0 {j t : Nat} {b b' : Bool} (hj : (all[j]?).bind (·.dst) = some t) (hb : lookB G t = some (.bool b')) (hne : (b' == b) = false) (h : TL P N I0 R ⟨I, F, bs, ms, ob, G⟩ all rest k) :
    TL P N I0 R ⟨I, F, bs, ms, ob, G⟩ all (⟨none, op, ty, pos, af, some (j, b)⟩ :: rest) k := fun a w hr => by
  have hy := yielded_of hr hj hb
  have e1 : Region.wanted ⟨none, op, ty, pos, af, some (j, b)⟩ (yielded all.toArray a.tmps) = false := by simp [Region.wanted, hy, hne]
  unfold wpList
  rw [if_neg (by rw [e1]; simp)]
  exact h _ _ hr
theorem unyielded_of {j t : Nat} {a : Act} {w : World} (hr : Rel N I0 ⟨I, F, bs, ms, ob, G⟩ a w) (hj : (all[j]?).bind (·.dst) = some t) (hb : lookB G t = some undef) : yielded all.toArray a.tmps j = none := by
  have := hr.env t _ hb
  simp only [yielded, List.getElem?_toArray, hj, Option.bind_some, this, undef]
/-- The guard was itself passed over. -/
theorem Gu {j t : Nat} {b : Bool} (hN : Nat.blt d N = true) (hj : (all[j]?).bind (·.dst) = some t) (hb : lookB G t = some undef) (h : TL P N I0 R ⟨I, F, bs, ms, ob, (d, undef) :: G⟩ all rest k) :
    TL P N I0 R ⟨I, F, bs, ms, ob, G⟩ all (⟨some d, op, ty, pos, af, some (j, b)⟩ :: rest) k := fun a w hr => by
  have hy := unyielded_of hr hj hb
  have e1 : Region.wanted ⟨some d, op, ty, pos, af, some (j, b)⟩ (yielded all.toArray a.tmps) = false := by simp [Region.wanted, hy]
  unfold wpList
  rw [if_neg (by rw [e1]; simp)]
  exact h _ _ (hr.put hN)
theorem Gu0 {j t : Nat} {b : Bool} (hj : (all[j]?).bind (·.dst) = some t) (hb : lookB G t = some undef) (h : TL P N I0 R ⟨I, F, bs, ms, ob, G⟩ all rest k) :
    TL P N I0 R ⟨I, F, bs, ms, ob, G⟩ all (⟨none, op, ty, pos, af, some (j, b)⟩ :: rest) k := fun a w hr => by
  have hy := unyielded_of hr hj hb
  have e1 : Region.wanted ⟨none, op, ty, pos, af, some (j, b)⟩ (yielded all.toArray a.tmps) = false := by simp [Region.wanted, hy]
  unfold wpList
  rw [if_neg (by rw [e1]; simp)]
  exact h _ _ hr
theorem Rel.setG {a : Act} {w : World} {t : Nat} {v v' : Value} (hr : Rel N I0 ⟨I, F, bs, ms, ob, G⟩ a w) (hb : lookB G t = some v) (e : v = v') : Rel N I0 ⟨I, F, bs, ms, ob, (t, v') :: G⟩ a w := by
  subst e
  refine ⟨hr.le, hr.mem, hr.size, hr.defers, fun u x hx => ?_⟩
  by_cases hu : u = t
  · subst hu; rw [lookB_cons_eq] at hx; injection hx with hx; subst hx; exact hr.env u _ hb
  · rw [lookB_cons_ne hu] at hx; exact hr.env u x hx
/-- Both ways of a Bool in a slot. -/
theorem Sp (t : Nat) {b : Bool} {K : Act → World → Prop} (hb : lookB G t = some (.bool b)) (ht : b = true → SAT N I0 ⟨I, F, bs, ms, ob, (t, .bool true) :: G⟩ K) (hf : b = false → SAT N I0 ⟨I, F, bs, ms, ob, (t, .bool false) :: G⟩ K) :
    SAT N I0 ⟨I, F, bs, ms, ob, G⟩ K := fun a w hr => by
  cases b
  · exact hf rfl a w (hr.setG hb rfl)
  · exact ht rfl a w (hr.setG hb rfl)
/-- A slot's value, said otherwise. -/
theorem Re (t : Nat) {v : Value} (v' : Value) {K : Act → World → Prop} (hb : lookB G t = some v) (e : v = v') (h : SAT N I0 ⟨I, F, bs, ms, ob, (t, v') :: G⟩ K) :
    SAT N I0 ⟨I, F, bs, ms, ob, G⟩ K := fun a w hr => h a w (hr.setG hb e)

/-! blocks of one's own -/
def noKey : List Row → Nat → Bool
  | [], _ => true
  | r :: l, i => bif Nat.beq i r.i then false else noKey l i
theorem lookM_noKey : ∀ {ms : List Row} {i k : Nat}, noKey ms i = true → lookM ms i k = none
  | [], _, _, _ => rfl
  | ⟨j, o, n, vs⟩ :: r, i, k, h => by
    simp only [noKey] at h
    simp only [lookM]
    cases hb : Nat.beq i j
    · rw [hb] at h; simp only [cond_false] at h; simp only [Bool.false_and, cond_false]; exact lookM_noKey h
    · rw [hb] at h; simp at h
theorem IsBlk.other {i j : Nat} {x : BI} {y : Nat × Obj} {o n : Nat} {vs : List Value} (h : IsBlk ms ob i x y) (hne : i ≠ j) : IsBlk (⟨j, o, n, vs⟩ :: ms) ob i x y := by
  refine ⟨h.1, ?_⟩
  cases x with
  | obj b => exact h.2
  | cells b t m =>
    obtain ⟨cs, h1, h2, h3⟩ := h.2
    refine ⟨cs, h1, h2, fun k v hv => h3 k v ?_⟩
    have : Nat.beq i j = false := by rw [Bool.eq_false_iff]; exact fun h' => hne (Nat.eq_of_beq_eq_true h')
    simpa only [lookM, this, Bool.false_and, cond_false] using hv
theorem Loc.other {j o n : Nat} {vs : List Value} {C : OL} (h : Loc ms ob bs C) (hj : lookB bs j = none) : Loc (⟨j, o, n, vs⟩ :: ms) ob bs C := by
  induction h with
  | nil => exact .nil
  | @cons i x y bs C h1 h2 h3 ih =>
    have hne : i ≠ j := fun e => by subst e; rw [lookB_cons_eq] at hj; cases hj
    rw [lookB_cons_ne hne.symm] at hj
    exact .cons (h1.other hne) h2 (ih hj)
theorem lookM_row {i o n k : Nat} {vs : List Value} {v : Value} (hl : vs.length = n) (h : lookM (⟨i, o, n, vs⟩ :: ms) i k = some v) : (o ≤ k ∧ k < o + n ∧ vs[k - o]? = some v) ∨ ((k < o ∨ o + n ≤ k) ∧ lookM ms i k = some v) := by
  have e : Nat.beq i i = true := Nat.beq_refl i
  simp only [lookM, e, Bool.true_and] at h
  by_cases h1 : o ≤ k ∧ k < o + n
  · have e1 : (Nat.ble o k && Nat.blt k (o + n)) = true := by simp [h1.1, h1.2, Nat.ble_eq, Nat.blt_eq]
    rw [e1] at h
    exact .inl ⟨h1.1, h1.2, h⟩
  · have e1 : (Nat.ble o k && Nat.blt k (o + n)) = false := by
      rw [Bool.eq_false_iff]
      intro hh
      rw [Bool.and_eq_true, Nat.ble_eq, Nat.blt_eq] at hh
      exact h1 hh
    rw [e1] at h
    exact .inr ⟨by omega, h⟩
/-- A new block. -/
theorem Rel.new {a : Act} {w : World} {i n : Nat} {t : TypeId} {vs : List Value} (h : Rel N I0 ⟨I, F, bs, ms, ob, G⟩ a w) (hi : lookB bs i = none) (hk : noKey ms i = true) (hl : vs.length = n) :
    Rel N I0 ⟨I, F, (i, .cells w.heap.size t n) :: bs, ⟨i, 0, n, vs⟩ :: ms, ob, G⟩ a (w.alloc (.cells vs.toArray t)) := by
  obtain ⟨C, hl', hh⟩ := h.mem
  refine ⟨h.le, ⟨(w.heap.size, .cells vs.toArray t) :: C, .cons ⟨rfl, vs.toArray, rfl, by simpa using hl, fun k v hv => ?_⟩ hi (hl'.other hi), hh.alloc _⟩, h.size, h.defers, h.env⟩
  rcases lookM_row hl hv with ⟨_, _, h3⟩ | ⟨_, h3⟩
  · simpa using h3
  · rw [lookM_noKey hk] at h3; cases h3
theorem e_box {x : Operand} {t : TypeId} {v : Value} {vs : List Value} {n : Nat} (i : Nat) (hN : Nat.blt d N = true) (hx : ev G x = some v) (hc : v.cells = vs.toArray) (hl : vs.length = n) (hi : lookB bs i = none) (hk : noKey ms i = true)
    (h : ∀ b, SAT N I0 ⟨I, F, (i, .cells b t n) :: bs, ⟨i, 0, n, vs⟩ :: ms, ob, (d, .pointer (some ⟨b, 0, none⟩)) :: G⟩ K) :
    SAT N I0 ⟨I, F, bs, ms, ob, G⟩ fun a w => Oper.wp P ⟨some d, .box t x, ty, pos, af, none⟩ a w K Q := fun a w hr => by
    show Oper.wp _ _ _ _ _ _
    unfold Oper.wp
    have e : (execOp a.eval ⟨some d, .box t x, ty, pos, af, none⟩).run P w = .ok (.value (.pointer (some ⟨w.heap.size, 0, none⟩))) (w.alloc (.cells vs.toArray t)) := by
      simp [execOp, hr.ev hx, Instr.box, newVar, newRow, hc, run_newObj_alloc]
    rw [e]
    exact h _ _ _ ((hr.new hi hk hl).put hN)
theorem e_alloc {t : TypeId} {z : Value} {vs : List Value} {n : Nat} (i : Nat) (hN : Nat.blt d N = true) (hz : ∀ w, (zeroValue t).run P w = .ok z w) (hc : z.cells = vs.toArray) (hl : vs.length = n) (hi : lookB bs i = none) (hk : noKey ms i = true)
    (h : ∀ b, SAT N I0 ⟨I, F, (i, .cells b t n) :: bs, ⟨i, 0, n, vs⟩ :: ms, ob, (d, .pointer (some ⟨b, 0, none⟩)) :: G⟩ K) :
    SAT N I0 ⟨I, F, bs, ms, ob, G⟩ fun a w => Oper.wp P ⟨some d, .alloc t, ty, pos, af, none⟩ a w K Q := fun a w hr => by
    show Oper.wp _ _ _ _ _ _
    unfold Oper.wp
    have e : (execOp a.eval ⟨some d, .alloc t, ty, pos, af, none⟩).run P w = .ok (.value (.pointer (some ⟨w.heap.size, 0, none⟩))) (w.alloc (.cells vs.toArray t)) := by
      simp [execOp, Instr.alloc, newVar, newRow, hz, hc, run_newObj_alloc]
    rw [e]
    exact h _ _ _ ((hr.new hi hk hl).put hN)

/-- Cells of a block, written one behind the other. -/
def setRow (cs : Array Value) : Nat → List Value → Array Value
  | _, [] => cs
  | o, v :: r => setRow (cs.setIfInBounds o v) (o + 1) r
theorem setRow_size : ∀ (vs : List Value) (cs : Array Value) (o : Nat), (setRow cs o vs).size = cs.size
  | [], _, _ => rfl
  | v :: r, cs, o => by simp [setRow, setRow_size r]
theorem setRow_get : ∀ (vs : List Value) (cs : Array Value) (o k : Nat), o + vs.length ≤ cs.size → (setRow cs o vs)[k]? = if o ≤ k ∧ k < o + vs.length then vs[k - o]? else cs[k]?
  | [], cs, o, k, h => by simp [setRow]; omega
  | v :: r, cs, o, k, h => by
    simp only [List.length_cons] at h
    rw [setRow, setRow_get r _ _ k (by simp; omega)]
    by_cases h1 : o + 1 ≤ k ∧ k < o + 1 + r.length
    · rw [if_pos h1, if_pos (by simp; omega), show k - o = (k - (o + 1)) + 1 by omega]; simp
    · rw [if_neg h1]
      by_cases h2 : k = o
      · subst h2
        rw [if_pos (by simp), Array.getElem?_setIfInBounds_self]
        simp; omega
      · rw [if_neg (by simp; omega), Array.getElem?_setIfInBounds_ne (fun e => h2 e.symm)]
theorem run_storeCells_row {P : Program} {b : Nat} {t : TypeId} : ∀ (vs : List Value) (o i : Nat) (w : World) (cs : Array Value), w.heap[b]? = some (.cells cs t (0, 0)) → o + i + vs.length ≤ cs.size → (∀ v ∈ vs, v.oneCell' = true) →
    ∃ w', (storeCells ⟨b, o, none⟩ vs i).run P w = .ok () w' ∧ w'.os = w.os ∧ w'.tape = w.tape ∧ w'.output = w.output ∧ w'.heap[b]? = some (.cells (setRow cs (o + i) vs) t (0, 0)) ∧ ∀ k, k ≠ b → w'.heap[k]? = w.heap[k]?
  | [], o, i, w, cs, hb, _, _ => ⟨w, by simp [storeCells], rfl, rfl, rfl, hb, fun _ _ => rfl⟩
  | v :: r, o, i, w, cs, hb, hl, h1 => by
    simp only [List.length_cons] at hl
    have hc : w.cell? ⟨b, o + i, none⟩ = some cs[o + i] := by simp [World.cell?, hb]
    have hf : w.frozen? ⟨b, o + i, none⟩ = false := by simp [World.frozen?, hb]
    have hb1 : (w.setCell ⟨b, o + i, none⟩ v).heap[b]? = some (.cells (cs.setIfInBounds (o + i) v) t (0, 0)) := by
      simp [World.setCell, Array.getElem?_modify, hb]
    obtain ⟨w', e1, e2, e3, e4, e5, e6⟩ := run_storeCells_row r o (i + 1) (w.setCell ⟨b, o + i, none⟩ v) (cs.setIfInBounds (o + i) v) hb1 (by simp; omega) (fun u hu => h1 u (List.mem_cons_of_mem _ hu))
    refine ⟨w', ?_, e2, e3, e4, by rw [← Nat.add_assoc] at e5; exact e5, fun k hk => (e6 k hk).trans (Below.heap_setCell w _ v k hk)⟩
    have hs : (store (Addr.add ⟨b, o, none⟩ i) v).run P w = .ok () (w.setCell ⟨b, o + i, none⟩ v) := by
      rw [add_local, run_store P w _ v .plain (h1 v (by simp)), hc]; simp [hf]
    simp only [storeCells, Sem.run_bind, hs, Result.andThen_ok]
    exact e1
theorem Loc.split {C : OL} {i : Nat} {x : BI} (h : Loc ms ob bs C) (hi : lookB bs i = some x) : ∃ C1 y C2, C = C1 ++ y :: C2 ∧ IsBlk ms ob i x y ∧
    ∀ y' o n vs, IsBlk (⟨i, o, n, vs⟩ :: ms) ob i x y' → Loc (⟨i, o, n, vs⟩ :: ms) ob bs (C1 ++ y' :: C2) := by
  induction h with
  | nil => cases hi
  | @cons j x' y bs C h1 h2 h3 ih =>
    by_cases e : i = j
    · subst e
      rw [lookB_cons_eq] at hi
      injection hi with hi
      subst hi
      exact ⟨[], y, C, rfl, h1, fun y' o n vs hy' => .cons hy' h2 (h3.other h2)⟩
    · rw [lookB_cons_ne e] at hi
      obtain ⟨C1, y1, C2, rfl, hy, hh⟩ := ih hi
      exact ⟨y :: C1, y1, C2, rfl, hy, fun y' o n vs hy' => .cons (h1.other (fun e' => e e'.symm)) h2 (hh y' o n vs hy')⟩
theorem Rel.write {a : Act} {w w' : World} {i b n o m : Nat} {t : TypeId} {vs : List Value} (h : Rel N I0 ⟨I, F, bs, ms, ob, G⟩ a w) (hb : lookB bs i = some (.cells b t n)) (hm : vs.length = m)
    (hos : w'.os = w.os) (ht : w'.tape = w.tape) (hout : w'.output = w.output) (hw : ∀ cs, w.heap[b]? = some (.cells cs t (0, 0)) → w'.heap[b]? = some (.cells (setRow cs o vs) t (0, 0))) (hoth : ∀ k, k ≠ b → w'.heap[k]? = w.heap[k]?)
    (hn : o + m ≤ n) : Rel N I0 ⟨I, F, bs, ⟨i, o, m, vs⟩ :: ms, ob, G⟩ a w' := by
  obtain ⟨C, hl, hh⟩ := h.mem
  obtain ⟨C1, y, C2, rfl, ⟨hy1, cs, hy2, hy3, hy4⟩, hre⟩ := hl.split hb
  obtain ⟨yb, yo⟩ := y
  simp only [BI.b] at hy1 hy2
  subst hy1 hy2 hm
  refine ⟨h.le, ⟨C1 ++ (yb, .cells (setRow cs o vs) t (0, 0)) :: C2, hre _ o _ vs ⟨rfl, setRow cs o vs, rfl, by rw [setRow_size]; exact hy3, fun k v hv => ?_⟩, ?_⟩, h.size, h.defers, h.env⟩
  · rw [setRow_get vs cs o k (by omega)]
    rcases lookM_row rfl hv with ⟨h1, h2, h3⟩ | ⟨h1, h2⟩
    · rw [if_pos ⟨h1, h2⟩]; exact h3
    · rw [if_neg (by omega)]; exact hy4 k v h2
  · have p1 : (C1 ++ (yb, Obj.cells cs t (0, 0)) :: C2 ++ F).Perm ((yb, Obj.cells cs t (0, 0)) :: (C1 ++ C2 ++ F)) := by
      simp only [List.append_assoc, List.cons_append]; exact List.perm_middle
    have p2 : ((yb, Obj.cells (setRow cs o vs) t (0, 0)) :: (C1 ++ C2 ++ F)).Perm (C1 ++ (yb, Obj.cells (setRow cs o vs) t (0, 0)) :: C2 ++ F) := by
      simp only [List.append_assoc, List.cons_append]; exact List.perm_middle.symm
    have h0 := hh.own (yb, .cells cs t (0, 0)) (by simp)
    exact ((hh.perm p1).put hos ht hout (hw cs h0) (fun k hk _ => hoth k hk)).perm p2
theorem e_store_core {x y : Operand} {t T' : TypeId} {v : Value} {vs : List Value} {b o n m i : Nat} (hx : ev G x = some (.pointer (some ⟨b, o, none⟩))) (hv : ev G y = some v) (hvc : v.cells = vs.toArray) (hm : vs.length = m)
    (h1 : ∀ u ∈ vs, u.oneCell' = true) (hb : lookB bs i = some (.cells b T' n)) (hn : Nat.ble (o + m) n = true) (hs : ∀ w, (sizeOf t).run P w = .ok m w)
    (h : SAT N I0 ⟨I, F, bs, ⟨i, o, m, vs⟩ :: ms, ob, G⟩ K) : SAT N I0 ⟨I, F, bs, ms, ob, G⟩ fun a w => Oper.wp P ⟨none, .store t x y, ty, pos, af, none⟩ a w K Q := fun a w hr => by
    have hn' : o + m ≤ n := Nat.le_of_ble_eq_true hn
    obtain ⟨cs, e1, e2, e3⟩ := hr.local_ hb
    obtain ⟨w', s1, s2, s3, s4, s5, s6⟩ := run_storeCells_row (P := P) vs o 0 w cs e1 (by omega) h1
    have e : (execOp a.eval ⟨none, .store t x y, ty, pos, af, none⟩).run P w = .ok .skip w' := by
      simp only [execOp, hr.ev hx, hr.ev hv, Instr.storeAt, Instr.sureAddr, storeVar, hvc, Sem.run_bind, Sem.run_pure, hs, Result.andThen_ok]
      simp only [List.size_toArray, hm, ne_eq, not_true_eq_false, if_false, Sem.run_pure, Result.andThen_ok, Sem.run_bind, s1]
    show Oper.wp _ _ _ _ _ _
    unfold Oper.wp
    rw [e]
    refine h _ _ ((hr.write hb hm s2 s3 s4 (fun cs' h' => ?_) s6 hn').put' rfl)
    rw [e1] at h'
    simp only [Option.some.injEq, Obj.cells.injEq] at h'
    obtain ⟨rfl, _, _⟩ := h'
    exact s5
theorem cells_one {v : Value} (h : v.oneCell' = true) : v.cells = [v].toArray := by cases v <;> first | rfl | (simp [Value.oneCell'] at h)
/-- A store into a cell of a block of one's own. -/
theorem e_st {x y : Operand} {t T' : TypeId} {v : Value} {b o n : Nat} (i : Nat) (hx : ev G x = some (.pointer (some ⟨b, o, none⟩))) (hv : ev G y = some v) (h1 : v.oneCell' = true)
    (hb : lookB bs i = some (.cells b T' n)) (hn : Nat.ble (o + 1) n = true) (hs : TyCell P t)
    (h : SAT N I0 ⟨I, F, bs, ⟨i, o, 1, [v]⟩ :: ms, ob, G⟩ K) : SAT N I0 ⟨I, F, bs, ms, ob, G⟩ fun a w => Oper.wp P ⟨none, .store t x y, ty, pos, af, none⟩ a w K Q :=
  e_store_core hx hv (cells_one h1) rfl (by simpa using h1) hb hn hs.size h
/-- .. of a struct or an array. -/
theorem e_sta {x y : Operand} {t T' : TypeId} {vs : List Value} {b o n m : Nat} (i : Nat) (hx : ev G x = some (.pointer (some ⟨b, o, none⟩))) (hv : ev G y = some (.agg vs.toArray)) (hm : vs.length = m) (h1 : vs.all (·.oneCell') = true)
    (hb : lookB bs i = some (.cells b T' n)) (hn : Nat.ble (o + m) n = true) (hs : TyAgg P t m)
    (h : SAT N I0 ⟨I, F, bs, ⟨i, o, m, vs⟩ :: ms, ob, G⟩ K) : SAT N I0 ⟨I, F, bs, ms, ob, G⟩ fun a w => Oper.wp P ⟨none, .store t x y, ty, pos, af, none⟩ a w K Q :=
  e_store_core hx hv rfl hm (List.all_eq_true.1 h1) hb hn hs.size h
end

/-! ## Functions -/
/-- What a call comes to: a value, more memory known, one's own blocks. -/
def RP (I0 : Imm) (Post : Value → Imm → OL → Prop) (e : Ending) (w' : World) : Prop := ∃ v I' L', e = .returned v ∧ I0.Le I' ∧ Holds I' L' w' ∧ Post v I' L'
def Fn (P : Program) (f : FuncId) (args : List Value) (I : Imm) (L : OL) (Post : Value → Imm → OL → Prop) : Prop := ∀ w, Holds I L w → Calls P f args.toArray w (RP I Post)
/-- A call that hands back just this, and leaves what is known of memory. -/
def PAt (P : Program) (I : Imm) (f : FuncId) (args : List Value) (v : Value) : Prop := ∀ L w, Holds I L w → Calls P f args.toArray w fun e w' => e = .returned v ∧ Holds I L w'
theorem PAt.fn {P : Program} {I : Imm} {f : FuncId} {args : List Value} {v : Value} (h : PAt P I f args v) (L : OL) : Fn P f args I L fun v' I' L' => v' = v ∧ I' = I ∧ L' = L := fun w hw =>
  (h L w hw).mono fun _ _ ⟨he, hh⟩ => ⟨v, I, L, he, .refl I, hh, rfl, rfl, rfl⟩
theorem pat_of {P : Program} {I : Imm} {f : FuncId} {args : List Value} {v : Value} (h : ∀ L, Fn P f args I L fun v' _ L' => v' = v ∧ L' = L) : PAt P I f args v := fun L w hw =>
  (h L w hw).mono fun _ _ ⟨_, _, _, he, hI, hh, e1, e2⟩ => by subst e1 e2; exact ⟨he, hh.mono hI⟩
theorem Fn.mono {P : Program} {f : FuncId} {args : List Value} {I : Imm} {L : OL} {Post Post' : Value → Imm → OL → Prop} (h : Fn P f args I L Post) (hp : ∀ v I' L', I.Le I' → Post v I' L' → Post' v I' L') : Fn P f args I L Post' := fun w hw =>
  (h w hw).mono fun _ _ ⟨v, I', L', he, hI, hh, q⟩ => ⟨v, I', L', he, hI, hh, hp v I' L' hI q⟩

def argG : Nat → List Value → List (Nat × Value)
  | _, [] => []
  | i, v :: r => (i, v) :: argG (i + 1) r
theorem argG_get : ∀ {l : List Value} {i t : Nat} {v : Value}, lookB (argG i l) t = some v → i ≤ t ∧ l[t - i]? = some v
  | [], _, _, _, h => by cases h
  | u :: r, i, t, v, h => by
    simp only [argG] at h
    by_cases e : t = i
    · subst e; rw [lookB_cons_eq] at h; simpa using h
    · rw [lookB_cons_ne e] at h
      obtain ⟨h1, h2⟩ := argG_get h
      refine ⟨by omega, ?_⟩
      rw [show t - i = (t - (i + 1)) + 1 by omega]
      simpa using h2
section
variable {P : Program}
theorem fn_enter {f : FuncId} {fn : Func} {c : Code} {N : Nat} {args : List Value} {I : Imm} {L : OL} {Post : Value → Imm → OL → Prop} (hf : P.funcs[f]? = some fn) (hb : fn.body = some c) (hN : fn.ntmps = N)
    (hl : Nat.ble args.length N = true) (h : T P N I (bodyPost P fn (RP I Post)) ⟨I, L, [], [], [], argG 0 args⟩ c []) : Fn P f args I L Post := fun w hw => by
  refine calls_of_wp hf hb (h _ w ⟨.refl I, ⟨[], .nil, by simpa using hw⟩, ?_, rfl, fun t v e => ?_⟩)
  · have := Nat.le_of_ble_eq_true hl
    simp [hN]; omega
  · obtain ⟨_, h2⟩ := argG_get e
    simp only [Nat.sub_zero] at h2
    have hlt : t < args.length := (List.getElem?_eq_some_iff.1 h2).1
    rw [Array.getElem?_append_left (by simpa using hlt)]
    simpa using h2

variable {N : Nat} {I0 : Imm} {fn : Func} {Post : Value → Imm → OL → Prop}
variable {I : Imm} {F : OL} {bs : List (Nat × BI)} {ms : List Row} {ob : List (Nat × Obj)} {G : List (Nat × Value)}
/-- One result variable, read. -/
def rdRes (tmps : Array Value) : ResultVar → Sem Value
  | .tmp t => pure (tmps.getD t undef)
  | .cell x t => do loadVar t (← asAddr (tmps.getD x undef))
theorem results_rd (fn : Func) (tmps : Array Value) : results fn tmps = (do let vs ← fn.results.mapM (rdRes tmps); pure (if h : vs.size = 1 then vs[0] else .tuple vs)) := by
  have h : ∀ (f g : ResultVar → Sem Value), f = g → (do let vs ← fn.results.mapM f; pure (if h : vs.size = 1 then vs[0] else .tuple vs) : Sem Value) = (do let vs ← fn.results.mapM g; pure (if h : vs.size = 1 then vs[0] else .tuple vs)) :=
    fun f g e => by rw [e]
  exact h _ _ (by funext r; cases r <;> rfl)
def RV (P : Program) (N : Nat) (I0 : Imm) (S : St) (r : ResultVar) (v : Value) : Prop := ∀ a w, Rel N I0 S a w → (rdRes a.tmps r).run P w = .ok v w
theorem rv_t {t : Nat} {v : Value} (h : lookB G t = some v) : RV P N I0 ⟨I, F, bs, ms, ob, G⟩ (.tmp t) v := fun a w hr => by
  simp [rdRes, getD_of (hr.env t v h)]
theorem rv_a {x : Nat} {t T' : TypeId} {i b o n m : Nat} {vs : List Value} (hx : lookB G x = some (.pointer (some ⟨b, o, none⟩))) (hb : lookB bs i = some (.cells b T' n)) (ht : TyAgg P t m) (hv : gatherM ms i o m = some vs) :
    RV P N I0 ⟨I, F, bs, ms, ob, G⟩ (.cell x t) (.agg vs.toArray) := fun a w hr => by
  obtain ⟨hl, hg⟩ := gatherM_get hv
  have := run_loadVar_agg (P := P) (w := w) (a := ⟨b, o, none⟩) ht hl (fun j v hj => by rw [add_local]; exact hr.cellL hb (hg j v hj))
  simp [rdRes, getD_of (hr.env x _ hx), asAddr, this]
theorem rv_c {x : Nat} {t T' : TypeId} {i b o n : Nat} {v : Value} (hx : lookB G x = some (.pointer (some ⟨b, o, none⟩))) (hb : lookB bs i = some (.cells b T' n)) (ht : TyCell P t) (hv : lookM ms i o = some v) :
    RV P N I0 ⟨I, F, bs, ms, ob, G⟩ (.cell x t) v := fun a w hr => by
  have := run_loadVar_cell (P := P) ht (hr.cellL hb hv)
  simp [rdRes, getD_of (hr.env x _ hx), asAddr, this]
/-- All results. -/
def Res (P : Program) (N : Nat) (I0 : Imm) (S : St) (fn : Func) (v : Value) : Prop := ∀ a w, Rel N I0 S a w → (results fn a.tmps).run P w = .ok v w
theorem res0 {S : St} (h : fn.results = #[]) : Res P N I0 S fn (.tuple #[]) := fun a w _ => by simp [results, h]
theorem res1 {S : St} {r : ResultVar} {v : Value} (h : fn.results = #[r]) (hv : RV P N I0 S r v) : Res P N I0 S fn v := fun a w hr => by
  simp [results_rd, h, hv a w hr]
theorem res2 {S : St} {r s : ResultVar} {v u : Value} (h : fn.results = #[r, s]) (hv : RV P N I0 S r v) (hu : RV P N I0 S s u) : Res P N I0 S fn (.tuple #[v, u]) := fun a w hr => by
  simp [results_rd, h, hv a w hr, hu a w hr]
theorem res3 {S : St} {r s t : ResultVar} {v u x : Value} (h : fn.results = #[r, s, t]) (hv : RV P N I0 S r v) (hu : RV P N I0 S s u) (hx : RV P N I0 S t x) : Res P N I0 S fn (.tuple #[v, u, x]) := fun a w hr => by
  simp [results_rd, h, hv a w hr, hu a w hr, hx a w hr]
theorem res4 {S : St} {r s t q : ResultVar} {v u x y : Value} (h : fn.results = #[r, s, t, q]) (hv : RV P N I0 S r v) (hu : RV P N I0 S s u) (hx : RV P N I0 S t x) (hy : RV P N I0 S q y) : Res P N I0 S fn (.tuple #[v, u, x, y]) := fun a w hr => by
  simp [results_rd, h, hv a w hr, hu a w hr, hx a w hr, hy a w hr]
/-- The end of a function, with what memory is known to hold then. -/
theorem ret_core {S : St} {v : Value} {e : Exit} (he : e = .ret ∨ e = .normal) (hres : Res P N I0 S fn v) (hp : ∀ a w, Rel N I0 S a w → ∃ I' L', I0.Le I' ∧ Holds I' L' w ∧ Post v I' L') :
    SAT N I0 S (bodyPost P fn (RP I0 Post) e) := fun a w hr => by
  obtain ⟨I', L', h1, h2, h3⟩ := hp a w hr
  rcases he with rfl | rfl
  · exact ⟨hr.defers, v, hres a w hr, v, I', L', rfl, h1, h2, h3⟩
  · exact ⟨hr.defers, v, hres a w hr, v, I', L', rfl, h1, h2, h3⟩
/-- .. all blocks of one's own are let go. -/
theorem ret {v : Value} (hres : Res P N I0 ⟨I, F, bs, ms, ob, G⟩ fn v) (hp : I0.Le I → Post v I F) : SAT N I0 ⟨I, F, bs, ms, ob, G⟩ (bodyPost P fn (RP I0 Post) .ret) :=
  ret_core (.inl rfl) hres fun a w hr => by
    obtain ⟨C, _, hh⟩ := hr.mem
    refine ⟨I, F, hr.le, hh.sub (fun x hx => List.mem_append_right _ hx) ?_, hp hr.le⟩
    have := hh.nd
    rw [List.map_append] at this
    exact this.sublist (List.sublist_append_right _ _)
theorem retn {v : Value} (hres : Res P N I0 ⟨I, F, bs, ms, ob, G⟩ fn v) (hp : I0.Le I → Post v I F) : SAT N I0 ⟨I, F, bs, ms, ob, G⟩ (bodyPost P fn (RP I0 Post) .normal) :=
  ret_core (.inr rfl) hres fun a w hr => by
    obtain ⟨C, _, hh⟩ := hr.mem
    refine ⟨I, F, hr.le, hh.sub (fun x hx => List.mem_append_right _ hx) ?_, hp hr.le⟩
    have := hh.nd
    rw [List.map_append] at this
    exact this.sublist (List.sublist_append_right _ _)

variable {R : Exit → Act → World → Prop} {k : List KI} {all rest : List Oper} {d : Nat} {ty : TypeId} {pos : String} {af : Array Edge}
/-- That a function has a body to be entered. -/
def Enters (P : Program) (f : FuncId) : Prop := ∀ args w, (callFunc f args).run P w = .ok (.enter f args) w
theorem run_call {a : Act} {w : World} {ao : List Operand} {at_ : Array TypeId} {vs : List Value} {f : FuncId} {dst : Option Nat} (hr : Rel N I0 ⟨I, F, bs, ms, ob, G⟩ a w) (ha : evs G ao = some vs) (hf : Enters P f) :
    (execOp a.eval ⟨dst, .call ⟨.value (.func f), ao.toArray, at_⟩, ty, pos, af, none⟩).run P w = .ok (.enter f vs.toArray) w := by
  have hm := hr.evs ha
  have hf' := hf vs.toArray w
  simp [execOp, resolve, Deferred.ofValue, Act.eval, invoke, hm, hf']
/-- A call through a function value. -/
theorem run_callv {a : Act} {w : World} {x : Operand} {ao : List Operand} {at_ : Array TypeId} {vs fi ca : List Value} {f : FuncId} {dst : Option Nat} (hr : Rel N I0 ⟨I, F, bs, ms, ob, G⟩ a w) (hx : ev G x = some (.func (.func f) fi.toArray ca.toArray)) (ha : evs G ao = some vs) (hf : Enters P f) :
    (execOp a.eval ⟨dst, .call ⟨.value x, ao.toArray, at_⟩, ty, pos, af, none⟩).run P w = .ok (.enter f (fi ++ vs ++ ca).toArray) w := by
  have hm := hr.evs ha
  have hf' := hf (fi ++ (vs ++ ca)).toArray w
  simp [execOp, resolve, Deferred.ofValue, hr.ev hx, invoke, hm, hf']
variable {K : Act → World → Prop} {Q : Exit → Act → World → Prop}
theorem call_core {a : Act} {w : World} {o : Oper} {f : FuncId} {vs : List Value} (hdst : o.dst = some d) (hrun : (execOp a.eval o).run P w = .ok (.enter f vs.toArray) w)
    {Qc : Value → Imm → OL → Prop} (C : OL) (hh : Holds I (C ++ F) w) (hc : Fn P f vs I (C ++ F) Qc)
    (h : ∀ v I' L' w', I.Le I' → Holds I' L' w' → Qc v I' L' → K (a.put (some d) v) w') : o.wp P a w K Q := by
  unfold Oper.wp
  rw [hrun]
  refine (hc w hh).mono fun e w' ⟨v, I', L', he, hI, hh', q⟩ => ?_
  subst he
  rw [hdst]
  exact h v I' L' w' hI hh' q
/-- A call that hands back just this value. -/
theorem e_call {f : FuncId} {ao : List Operand} {at_ : Array TypeId} {vs : List Value} {v : Value} (hN : Nat.blt d N = true) (hf : Enters P f) (ha : evs G ao = some vs) (hc : PAt P I f vs v) (h : SAT N I0 ⟨I, F, bs, ms, ob, (d, v) :: G⟩ K) :
    SAT N I0 ⟨I, F, bs, ms, ob, G⟩ fun a w => Oper.wp P ⟨some d, .call ⟨.value (.func f), ao.toArray, at_⟩, ty, pos, af, none⟩ a w K Q := fun a w hr => by
  obtain ⟨C, hl, hh⟩ := hr.mem
  refine call_core rfl (run_call hr ha hf) C hh (hc.fn _) fun v' I' L' w' hI hh' q => ?_
  obtain ⟨rfl, rfl, rfl⟩ := q
  exact h _ _ (Rel.put ⟨hr.le, ⟨C, hl, hh'⟩, hr.size, hr.defers, hr.env⟩ hN)
theorem e_callv {x : Operand} {f : FuncId} {ao : List Operand} {at_ : Array TypeId} {vs fi ca : List Value} {v : Value} (hN : Nat.blt d N = true) (hx : ev G x = some (.func (.func f) fi.toArray ca.toArray)) (hf : Enters P f) (ha : evs G ao = some vs) (hc : PAt P I f (fi ++ vs ++ ca) v) (h : SAT N I0 ⟨I, F, bs, ms, ob, (d, v) :: G⟩ K) :
    SAT N I0 ⟨I, F, bs, ms, ob, G⟩ fun a w => Oper.wp P ⟨some d, .call ⟨.value x, ao.toArray, at_⟩, ty, pos, af, none⟩ a w K Q := fun a w hr => by
  obtain ⟨C, hl, hh⟩ := hr.mem
  refine call_core rfl (run_callv hr hx ha hf) C hh (hc.fn _) fun v' I' L' w' hI hh' q => ?_
  obtain ⟨rfl, rfl, rfl⟩ := q
  exact h _ _ (Rel.put ⟨hr.le, ⟨C, hl, hh'⟩, hr.size, hr.defers, hr.env⟩ hN)
/-- A call behind which more memory is known; one's own blocks stay. -/
theorem e_calli {f : FuncId} {ao : List Operand} {at_ : Array TypeId} {vs : List Value} {Qc : Value → Imm → Prop} (hN : Nat.blt d N = true) (hf : Enters P f) (ha : evs G ao = some vs) (hc : ∀ L, Fn P f vs I L fun v I' L' => L' = L ∧ Qc v I')
    (h : ∀ v I', I.Le I' → Qc v I' → SAT N I0 ⟨I', F, bs, ms, ob, (d, v) :: G⟩ K) :
    SAT N I0 ⟨I, F, bs, ms, ob, G⟩ fun a w => Oper.wp P ⟨some d, .call ⟨.value (.func f), ao.toArray, at_⟩, ty, pos, af, none⟩ a w K Q := fun a w hr => by
  obtain ⟨C, hl, hh⟩ := hr.mem
  refine call_core rfl (run_call hr ha hf) C hh (hc _) fun v' I' L' w' hI hh' q => ?_
  obtain ⟨rfl, q⟩ := q
  exact h v' I' hI q _ _ (Rel.put ⟨hr.le.trans hI, ⟨C, hl, hh'⟩, hr.size, hr.defers, hr.env⟩ hN)

/-! what is known, made less -/
def subG (G : List (Nat × Value)) : List (Nat × Value) → Prop
  | [] => True
  | (t, v) :: r => lookB G t = some v ∧ subG G r
def subRow (ms : List Row) (i o : Nat) : List Value → Prop
  | [] => True
  | v :: r => lookM ms i o = some v ∧ subRow ms i (o + 1) r
def subM (ms : List Row) : List Row → Prop
  | [] => True
  | r :: l => (r.vs.length = r.n ∧ subRow ms r.i r.o r.vs) ∧ subM ms l
def subB (bs : List (Nat × BI)) : List (Nat × BI) → Prop
  | [] => True
  | (i, x) :: r => lookB bs i = some x ∧ subB bs r
def keysND : List (Nat × BI) → Bool
  | [] => true
  | (i, _) :: r => (match lookB r i with | none => true | some _ => false) && keysND r
theorem subG_get {G' : List (Nat × Value)} (h : subG G G') {t : Nat} {v : Value} (e : lookB G' t = some v) : lookB G t = some v := by
  induction G' with
  | nil => cases e
  | cons x r ih =>
    obtain ⟨j, u⟩ := x
    by_cases ht : t = j
    · subst ht; rw [lookB_cons_eq] at e; injection e with e; subst e; exact h.1
    · rw [lookB_cons_ne ht] at e; exact ih h.2 e
theorem subRow_get {i : Nat} : ∀ {vs : List Value} {o j : Nat} {v : Value}, subRow ms i o vs → vs[j]? = some v → lookM ms i (o + j) = some v
  | [], _, _, _, _, e => by simp at e
  | u :: r, o, 0, v, h, e => by simp at e; subst e; exact h.1
  | u :: r, o, j + 1, v, h, e => by
    have := subRow_get (j := j) h.2 (by simpa using e)
    rw [show o + (j + 1) = o + 1 + j by omega]; exact this
theorem subM_get {ms' : List Row} (h : subM ms ms') {i k : Nat} {v : Value} (e : lookM ms' i k = some v) : lookM ms i k = some v := by
  induction ms' with
  | nil => cases e
  | cons x r ih =>
    obtain ⟨j, o, n, vs⟩ := x
    by_cases hj : i = j
    · subst hj
      rcases lookM_row h.1.1 e with ⟨h1, h2, h3⟩ | ⟨_, h2⟩
      · have := subRow_get h.1.2 h3
        simp only at this
        rwa [show o + (k - o) = k by omega] at this
      · exact ih h.2 h2
    · have : Nat.beq i j = false := by rw [Bool.eq_false_iff]; exact fun h' => hj (Nat.eq_of_beq_eq_true h')
      simp only [lookM, this, Bool.false_and, cond_false] at e
      exact ih h.2 e
theorem IsBlk.less {ms' : List Row} {i : Nat} {x : BI} {y : Nat × Obj} (hm : subM ms ms') (h : IsBlk ms ob i x y) : IsBlk ms' ob i x y := by
  refine ⟨h.1, ?_⟩
  cases x with
  | obj b => exact h.2
  | cells b t m =>
    obtain ⟨cs, h1, h2, h3⟩ := h.2
    exact ⟨cs, h1, h2, fun k v hv => h3 k v (subM_get hm hv)⟩
theorem Loc.less {ms' : List Row} {bs' : List (Nat × BI)} {C : OL} (h : Loc ms ob bs C) (hm : subM ms ms') (hb : subB bs bs') (hk : keysND bs' = true) : ∃ C', Loc ms' ob bs' C' ∧ (∀ y ∈ C', y ∈ C) ∧ C'.length = bs'.length := by
  induction bs' with
  | nil => exact ⟨[], .nil, by simp, rfl⟩
  | cons x r ih =>
    obtain ⟨i, x⟩ := x
    simp only [keysND, Bool.and_eq_true] at hk
    obtain ⟨C', h1, h2, h3⟩ := ih hb.2 hk.2
    obtain ⟨y, hy, hyb⟩ := h.mem hb.1
    have hn : lookB r i = none := by
      cases e : lookB r i with
      | none => rfl
      | some _ => rw [e] at hk; simp at hk
    exact ⟨y :: C', .cons (hyb.less hm) hn h1, fun z hz => by
      rcases List.mem_cons.1 hz with rfl | hz
      · exact hy
      · exact h2 z hz, by simp [h3]⟩
theorem Loc.fst {C : OL} (h : Loc ms ob bs C) : C.map (·.1) = bs.map (·.2.b) := by
  induction h with
  | nil => rfl
  | cons h1 _ _ ih => simp [h1.1, ih]
theorem Loc.less' {ms' : List Row} {C : OL} (h : Loc ms ob bs C) (hm : subM ms ms') : Loc ms' ob bs C := by
  induction h with
  | nil => exact .nil
  | cons h1 h2 _ ih => exact .cons (h1.less hm) h2 ih
/-- The same blocks in the same order; less of what they hold, and of the slots. -/
theorem Less {ms' : List Row} {G' : List (Nat × Value)} (hm : subM ms ms') (hg : subG G G') : SAT N I0 ⟨I, F, bs, ms, ob, G⟩ (Rel N I0 ⟨I, F, bs, ms', ob, G'⟩) := fun a w hr => by
  obtain ⟨C, hl, hh⟩ := hr.mem
  exact ⟨hr.le, ⟨C, hl.less' hm, hh⟩, hr.size, hr.defers, fun t v e => hr.env t v (subG_get hg e)⟩
theorem sub_append {α : Type} : ∀ (n : Nat) (l : List α), (l.drop n).Sublist l := fun n l => List.drop_sublist n l
/-- .. and the newest n blocks let go. -/
theorem LessB (n : Nat) {ms' : List Row} {G' : List (Nat × Value)} (hm : subM ms ms') (hg : subG G G') : SAT N I0 ⟨I, F, bs, ms, ob, G⟩ (Rel N I0 ⟨I, F, bs.drop n, ms', ob, G'⟩) := fun a w hr => by
  obtain ⟨C, hl, hh⟩ := hr.mem
  have key : ∀ (n : Nat) {bs : List (Nat × BI)} {C : OL}, Loc ms ob bs C → Loc ms' ob (bs.drop n) (C.drop n) := by
    intro n
    induction n with
    | zero =>
      intro bs C h
      induction h with
      | nil => exact .nil
      | cons h1 h2 _ ih => exact .cons (h1.less hm) h2 ih
    | succ n ih =>
      intro bs C h
      cases h with
      | nil => exact .nil
      | cons h1 h2 h3 => simpa using ih h3
  refine ⟨hr.le, ⟨C.drop n, key n hl, hh.sub (fun x hx => ?_) ?_⟩, hr.size, hr.defers, fun t v e => hr.env t v (subG_get hg e)⟩
  · rcases List.mem_append.1 hx with hx | hx
    · exact List.mem_append_left _ (List.mem_of_mem_drop hx)
    · exact List.mem_append_right _ hx
  · have := hh.nd
    rw [List.map_append] at this ⊢
    exact this.sublist ((List.Sublist.map _ (sub_append n C)).append (List.Sublist.refl _))

/-! loops: slots and rows that a round turns, everything else as it was -/
def keysOf (l : List (Nat × Value)) : List Nat := l.map (·.1)
def inL : List Nat → Nat → Bool
  | [], _ => false
  | j :: r, i => bif Nat.beq i j then true else inL r i
theorem inL_lookB {l : List (Nat × Value)} {t : Nat} (h : inL (keysOf l) t = false) : lookB l t = none := by
  induction l with
  | nil => rfl
  | cons x r ih =>
    obtain ⟨j, u⟩ := x
    simp only [keysOf, List.map_cons, inL] at h
    cases hb : Nat.beq t j
    · rw [hb] at h; simp only [cond_false] at h; simp only [lookB, hb, cond_false]; exact ih h
    · rw [hb] at h; simp at h
theorem inL_lookB' {l : List (Nat × Value)} {t : Nat} (h : inL (keysOf l) t = true) : ∃ v, lookB l t = some v := by
  induction l with
  | nil => cases h
  | cons x r ih =>
    obtain ⟨j, u⟩ := x
    simp only [keysOf, List.map_cons, inL] at h
    cases hb : Nat.beq t j
    · rw [hb] at h; simp only [cond_false] at h; simp only [lookB, hb, cond_false]; exact ih h
    · exact ⟨u, by simp [lookB, hb]⟩
theorem lookB_append {α : Type} : ∀ (l r : List (Nat × α)) (t : Nat), lookB (l ++ r) t = match lookB l t with | some v => some v | none => lookB r t
  | [], _, _ => rfl
  | (j, u) :: l, r, t => by
    simp only [List.cons_append, lookB]
    cases hb : Nat.beq t j
    · simp only [cond_false]; exact lookB_append l r t
    · rfl
/-- No slot of G has been written, but for those in 'ks'. -/
def freshG (top : List (Nat × Value)) (ks : List Nat) : List (Nat × Value) → Bool
  | [] => true
  | (t, _) :: r => (inL ks t || !inL (keysOf top) t) && freshG top ks r
theorem freshG_get {top : List (Nat × Value)} {ks : List Nat} {G : List (Nat × Value)} (h : freshG top ks G = true) {t : Nat} {v : Value} (e : lookB G t = some v) : inL ks t = true ∨ inL (keysOf top) t = false := by
  induction G with
  | nil => cases e
  | cons x r ih =>
    obtain ⟨j, u⟩ := x
    simp only [freshG, Bool.and_eq_true, Bool.or_eq_true, Bool.not_eq_true'] at h
    by_cases ht : t = j
    · subst ht; exact h.1
    · rw [lookB_cons_ne ht] at e; exact ih h.2 e
def coversR (rows : List Row) (bs : List (Nat × BI)) (ms : List Row) (i : Nat) : Bool :=
  match lookB bs i with
  | some (.cells _ _ n) => rows.any (fun r => Nat.beq r.i i && (Nat.beq r.o 0 && Nat.beq r.n n)) && ms.all (fun r => !Nat.beq r.i i || Nat.ble (r.o + r.n) n)
  | _ => false
/-- Every block that was written is told whole, or is no longer spoken of. -/
def freshM (top rows : List Row) (bs : List (Nat × BI)) (ms : List Row) : Bool :=
  top.all fun r => (match lookB bs r.i with | none => true | some _ => false) || coversR rows bs ms r.i
theorem lookM_append : ∀ (l r : List Row) (i k : Nat), (∀ x ∈ l, x.vs.length = x.n) → lookM (l ++ r) i k = match lookM l i k with | some v => some v | none => lookM r i k
  | [], _, _, _, _ => rfl
  | ⟨j, o, n, vs⟩ :: l, r, i, k, h => by
    simp only [List.cons_append, lookM]
    cases hb : (Nat.beq i j && (Nat.ble o k && Nat.blt k (o + n)))
    · simp only [cond_false]; exact lookM_append l r i k fun x hx => h x (List.mem_cons_of_mem _ hx)
    · simp only [cond_true]
      simp only [Bool.and_eq_true, Nat.ble_eq, Nat.blt_eq] at hb
      have hl : vs.length = n := h ⟨j, o, n, vs⟩ (by simp)
      rw [List.getElem?_eq_getElem (by omega)]
theorem subM_len {ms ms' : List Row} (h : subM ms ms') : ∀ x ∈ ms', x.vs.length = x.n := by
  induction ms' with
  | nil => simp
  | cons y r ih =>
    intro x hx
    rcases List.mem_cons.1 hx with rfl | hx
    · exact h.1.1
    · exact ih h.2 x hx
theorem lookM_key : ∀ {ms : List Row} {i k : Nat} {v : Value}, lookM ms i k = some v → ∃ r ∈ ms, r.i = i ∧ r.o ≤ k ∧ k < r.o + r.n
  | [], _, _, _, h => by cases h
  | ⟨j, o, n, vs⟩ :: l, i, k, v, h => by
    simp only [lookM] at h
    cases hb : (Nat.beq i j && (Nat.ble o k && Nat.blt k (o + n)))
    · rw [hb] at h
      simp only [cond_false] at h
      obtain ⟨r, hr, h1⟩ := lookM_key h
      exact ⟨r, List.mem_cons_of_mem _ hr, h1⟩
    · simp only [Bool.and_eq_true, Nat.ble_eq, Nat.blt_eq, Nat.beq_eq] at hb
      exact ⟨_, List.mem_cons_self, hb.1.symm, hb.2.1, hb.2.2⟩
theorem lookM_hit : ∀ {l : List Row} {r : Row} {i k : Nat}, r ∈ l → (∀ x ∈ l, x.vs.length = x.n) → r.i = i → r.o ≤ k → k < r.o + r.n → ∃ v, lookM l i k = some v
  | [], _, _, _, h, _, _, _, _ => by cases h
  | ⟨j, o, n, vs⟩ :: l, r, i, k, h, hl, h1, h2, h3 => by
    simp only [lookM]
    cases hb : (Nat.beq i j && (Nat.ble o k && Nat.blt k (o + n)))
    · simp only [cond_false]
      rcases List.mem_cons.1 h with rfl | h
      · simp only at h1 h2 h3
        subst h1
        have : (Nat.beq j j && (Nat.ble o k && Nat.blt k (o + n))) = true := by simp [h2, h3, Nat.ble_eq, Nat.blt_eq]
        rw [this] at hb; cases hb
      · exact lookM_hit h (fun x hx => hl x (List.mem_cons_of_mem _ hx)) h1 h2 h3
    · simp only [cond_true]
      simp only [Bool.and_eq_true, Nat.ble_eq, Nat.blt_eq] at hb
      have hl' : vs.length = n := hl ⟨j, o, n, vs⟩ (by simp)
      exact ⟨_, List.getElem?_eq_getElem (by omega)⟩
theorem lookM_top {top l : List Row} {i k : Nat} (h : ∀ r ∈ top, r.i ≠ i) : lookM (top ++ l) i k = lookM l i k := by
  induction top with
  | nil => rfl
  | cons r t ih =>
    obtain ⟨j, o, n, vs⟩ := r
    have h0 : j ≠ i := h ⟨j, o, n, vs⟩ (by simp)
    have : Nat.beq i j = false := by rw [Bool.eq_false_iff]; exact fun h' => h0 (Nat.eq_of_beq_eq_true h').symm
    simp only [List.cons_append, lookM, this, Bool.false_and, cond_false]
    exact ih fun r hr => h r (List.mem_cons_of_mem _ hr)
theorem Loc.lessK {ms' : List Row} {C : OL} (h : Loc ms ob bs C) (hs : ∀ i k v, lookM ms' i k = some v → lookM ms i k = some v) : Loc ms' ob bs C := by
  induction h with
  | nil => exact .nil
  | @cons i x y bs C h1 h2 h3 ih =>
    refine .cons ⟨h1.1, ?_⟩ h2 ih
    cases x with
    | obj b => exact h1.2
    | cells b t m =>
      obtain ⟨cs, e1, e2, e3⟩ := h1.2
      exact ⟨cs, e1, e2, fun k v hv => e3 k v (hs i k v hv)⟩
/-- The state at a loop's head. -/
def LS {α : Type} (F : OL) (bs : List (Nat × BI)) (ms : List Row) (ob : List (Nat × Obj)) (G : List (Nat × Value)) (Ix : α → Imm) (rw : α → List Row) (sl : α → List (Nat × Value)) (x : α) : St := ⟨Ix x, F, bs, rw x ++ ms, ob, sl x ++ G⟩
theorem t_loopG {α : Type} {c : Code} (Ix : α → Imm) (rw : α → List Row) (sl : α → List (Nat × Value)) (Inv : α → Prop) (μ : α → Nat) (x0 : α) (hi : Inv x0) (hI : Ix x0 = I) (hs : subG G (sl x0)) (hm : subM ms (rw x0))
    (round : ∀ x, Inv x → T P N I0 R ⟨Ix x, F, bs, rw x ++ ms, ob, sl x ++ G⟩ c (.l (Again N I0 (LS F bs ms ob G Ix rw sl) Inv μ x) :: k)) : T P N I0 R ⟨I, F, bs, ms, ob, G⟩ (.loop c) k :=
  t_loop (LS F bs ms ob G Ix rw sl) Inv μ x0 (fun a w hr => by
    obtain ⟨C, hl, hh⟩ := hr.mem
    subst hI
    refine ⟨hr.le, ⟨C, ?_, hh⟩, hr.size, hr.defers, fun t v e => ?_⟩
    · have hsub : ∀ i k v, lookM (rw x0 ++ ms) i k = some v → lookM ms i k = some v := fun i k v e => by
        rw [lookM_append _ _ _ _ (subM_len hm)] at e
        cases e1 : lookM (rw x0) i k with
        | none => rw [e1] at e; exact e
        | some u => rw [e1] at e; simp only [Option.some.injEq] at e; subst e; exact subM_get hm e1
      exact hl.lessK hsub
    · simp only [LS, lookB_append] at e
      cases e1 : lookB (sl x0) t with
      | none => rw [e1] at e; exact hr.env t v e
      | some u => rw [e1] at e; simp only [Option.some.injEq] at e; subst e; exact hr.env t u (subG_get hs e1)) hi
    fun x hx => round x hx
theorem again {α : Type} {Ix : α → Imm} {rw : α → List Row} {sl : α → List (Nat × Value)} {Inv : α → Prop} {μ : α → Nat} {x : α} {I' : Imm} {bs' : List (Nat × BI)} {ms' : List Row} {G' : List (Nat × Value)}
    (x' : α) (nb nm ng : Nat) (hμ : μ x' < μ x) (hi : Inv x') (hI : Ix x' = I') (hb : bs'.drop nb = bs) (hmd : ms'.drop nm = rw x ++ ms) (hgd : G'.drop ng = sl x ++ G) (hg : subG G' (sl x')) (hm : subM ms' (rw x'))
    (hks : keysOf (sl x') = keysOf (sl x)) (hfg : freshG (G'.take ng) (keysOf (sl x')) G = true) (hfm : freshM (ms'.take nm ++ rw x) (rw x') bs ms = true) :
    SAT N I0 ⟨I', F, bs', ms', ob, G'⟩ (Again N I0 (LS F bs ms ob G Ix rw sl) Inv μ x) := fun a w hr => by
  refine ⟨x', hμ, hi, ?_⟩
  subst hI
  obtain ⟨C, hl, hh⟩ := hr.mem
  have keyB : ∀ (n : Nat) {bs1 : List (Nat × BI)} {C : OL}, Loc ms' ob bs1 C → Loc ms' ob (bs1.drop n) (C.drop n) := by
    intro n
    induction n with
    | zero => intro bs C h; exact h
    | succ n ih =>
      intro bs C h
      cases h with
      | nil => exact .nil
      | cons h1 h2 h3 => simpa using ih h3
  have hl1 := keyB nb hl
  rw [hb] at hl1
  have hsub : ∀ i x, lookB bs i = some x → ∀ k v, lookM (rw x' ++ ms) i k = some v → lookM ms' i k = some v := fun i xb hib k v e => by
    rw [lookM_append _ _ _ _ (subM_len hm)] at e
    cases e1 : lookM (rw x') i k with
    | some u => rw [e1] at e; simp only [Option.some.injEq] at e; subst e; exact subM_get hm e1
    | none =>
      rw [e1] at e
      simp only at e
      have hall : ∀ r ∈ ms'.take nm ++ rw x, r.i ≠ i := by
        intro r hr' he
        have := List.all_eq_true.1 hfm r hr'
        rw [he, hib] at this
        simp only [Bool.false_or, coversR, hib] at this
        cases xb with
        | obj b => simp at this
        | cells b t n =>
          simp only [Bool.and_eq_true, List.any_eq_true, List.all_eq_true, Nat.beq_eq, Bool.or_eq_true, Bool.not_eq_true', Nat.ble_eq] at this
          obtain ⟨⟨r', hr1, h1, h2, h3⟩, h4⟩ := this
          obtain ⟨r2, q1, q2, q3, q4⟩ := lookM_key e
          have h5 := (h4 r2 q1).resolve_left (by rw [q2]; simp)
          obtain ⟨u, hu⟩ := lookM_hit hr1 (subM_len hm) h1 (by omega) (show k < r'.o + r'.n by omega)
          rw [hu] at e1; cases e1
      have : ms' = (ms'.take nm ++ rw x) ++ ms := by rw [List.append_assoc, ← hmd, List.take_append_drop]
      rw [this, lookM_top hall]; exact e
  refine ⟨hr.le, ⟨C.drop nb, ?_, hh.sub (fun y hy => ?_) ?_⟩, hr.size, hr.defers, fun t v e => ?_⟩
  · show Loc (rw x' ++ ms) ob bs (C.drop nb)
    clear hh hfm hb hr hl keyB hmd hgd hg hm hks hfg
    generalize C.drop nb = C1 at hl1
    have : ∀ {bs1 : List (Nat × BI)} {C1 : OL}, Loc ms' ob bs1 C1 → (∀ i x, lookB bs1 i = some x → ∀ k v, lookM (rw x' ++ ms) i k = some v → lookM ms' i k = some v) → Loc (rw x' ++ ms) ob bs1 C1 := by
      intro bs1 C1 hl2
      induction hl2 with
      | nil => intro _; exact .nil
      | @cons i x y bs C h1 h2 h3 ih =>
        intro hs
        refine .cons ⟨h1.1, ?_⟩ h2 (ih fun j x hj => hs j x ?_)
        · cases x with
          | obj b => exact h1.2
          | cells b t m =>
            obtain ⟨cs, e1, e2, e3⟩ := h1.2
            exact ⟨cs, e1, e2, fun k v hv => e3 k v (hs i _ lookB_cons_eq k v hv)⟩
        · rw [lookB_cons_ne]; exact hj
          intro e; subst e; rw [h2] at hj; cases hj
    exact this hl1 hsub
  · rcases List.mem_append.1 hy with hy | hy
    · exact List.mem_append_left _ (List.mem_of_mem_drop hy)
    · exact List.mem_append_right _ hy
  · have := hh.nd
    rw [List.map_append] at this ⊢
    exact this.sublist ((List.Sublist.map _ (sub_append nb C)).append (List.Sublist.refl _))
  · simp only [LS, lookB_append] at e
    cases e1 : lookB (sl x') t with
    | some u => rw [e1] at e; simp only [Option.some.injEq] at e; subst e; exact hr.env t u (subG_get hg e1)
    | none =>
      rw [e1] at e
      simp only at e
      refine hr.env t v ?_
      have h1 := freshG_get hfg e
      have h0 : inL (keysOf (sl x')) t = false := by
        cases hq : inL (keysOf (sl x')) t with
        | false => rfl
        | true => obtain ⟨u, hu⟩ := inL_lookB' hq; rw [hu] at e1; cases e1
      have h2 : inL (keysOf (G'.take ng)) t = false := h1.resolve_left (by rw [h0]; simp)
      have h3 : lookB (sl x) t = none := inL_lookB (by rw [← hks]; exact h0)
      show lookB G' t = some v
      rw [← List.take_append_drop ng G', lookB_append, inL_lookB h2]
      simp only [hgd, lookB_append, h3]
      exact e

/-- Both ways of a test on a slot; behind it the slot is known. -/
theorem If {t : Nat} {x y : Code} {b : Bool} {p q : Prop} [hbp : BoolP b p q] (hc : lookB G t = some (.bool b)) (ht : p → T P N I0 R ⟨I, F, bs, ms, ob, (t, .bool true) :: G⟩ x k) (hf : q → T P N I0 R ⟨I, F, bs, ms, ob, (t, .bool false) :: G⟩ y k) :
    T P N I0 R ⟨I, F, bs, ms, ob, G⟩ (.cond (.tmp t) x y) k := fun a w hr => by
  cases b with
  | true => exact wp_cond_true (hr.ev (x := .tmp t) hc) (ht (hbp.yes rfl) a w (hr.setG hc rfl))
  | false => exact wp_cond_false (hr.ev (x := .tmp t) hc) (hf (hbp.no rfl) a w (hr.setG hc rfl))
theorem Spl (t : Nat) {b : Bool} {p q : Prop} [hbp : BoolP b p q] (hb : lookB G t = some (.bool b)) (ht : p → TL P N I0 R ⟨I, F, bs, ms, ob, (t, .bool true) :: G⟩ all rest k) (hf : q → TL P N I0 R ⟨I, F, bs, ms, ob, (t, .bool false) :: G⟩ all rest k) :
    TL P N I0 R ⟨I, F, bs, ms, ob, G⟩ all rest k := fun a w hr => by
  cases b
  · exact hf (hbp.no rfl) a w (hr.setG hb rfl)
  · exact ht (hbp.yes rfl) a w (hr.setG hb rfl)
/-- The end of a region, and what is next. -/
theorem go {x : Code} {k' : List KI} {S : St} (hk : resK k .normal = some (x, k')) (h : T P N I0 R S x k') : TL P N I0 R S all [] k := tl_end (tx_go hk h)
theorem skipgo {x : Code} {k' : List KI} {S : St} (hk : resK k .normal = some (x, k')) (h : T P N I0 R S x k') : T P N I0 R S .skip k := t_skip (tx_go hk h)
theorem exitgo {x : Code} {k' : List KI} {S : St} {id : Nat} (hk : resK k (.exit id) = some (x, k')) (h : T P N I0 R S x k') : T P N I0 R S (.exit id) k := t_exit (tx_go hk h)
theorem sr {id : Nat} {l : List Oper} {y : Code} {S : St} (h : TL P N I0 R S l l (.c y :: k)) : T P N I0 R S (.seq (.region id l.toArray false) y) k := t_seq (t_region h)

/-! ## A region that draws its order, in which nothing is written: in the text's order -/
structure QS (N : Nat) (I0 : Imm) (S : St) (a : Act) (C : OL) : Prop where
  le : I0.Le S.I
  loc : Loc S.ms S.ob S.bs C
  size : a.tmps.size = N
  defers : a.defers = []
  env : ∀ t v, lookB S.G t = some v → a.tmps[t]? = some v
theorem QS.rel {S : St} {a : Act} {C : OL} {w : World} (h : QS N I0 S a C) (hw : Holds S.I (C ++ S.F) w) : Rel N I0 S a w := ⟨h.le, ⟨C, h.loc, hw⟩, h.size, h.defers, h.env⟩
def TQ (P : Program) (N : Nat) (I0 : Imm) (R : Exit → Act → World → Prop) (S : St) (all rest : List Oper) (k : List KI) : Prop := ∀ a C, QS N I0 S a C →
  wpQuiet P all.toArray (Holds S.I (C ++ S.F)) (fun a' => ∀ w', Holds S.I (C ++ S.F) w' → QK P R k .normal a' w') rest a
theorem t_quiet {id : Nat} {l : List Oper} {S : St} (hm : P.follows .mixedOrders = true) (hB : Region.lexB .any l.toArray = true) (h : TQ P N I0 R S l l k) : T P N I0 R S (.region id l.toArray true) k := fun a w hr => by
  obtain ⟨C, hl, hh⟩ := hr.mem
  exact wp_region_quiet (C := Holds S.I (C ++ S.F)) hm hB hh.drew' (by simpa using h a C ⟨hr.le, hl, hr.size, hr.defers, hr.env⟩)
theorem QS.put {d : Nat} {v : Value} {a : Act} {C : OL} (h : QS N I0 ⟨I, F, bs, ms, ob, G⟩ a C) (hd : Nat.blt d N = true) : QS N I0 ⟨I, F, bs, ms, ob, (d, v) :: G⟩ (a.put (some d) v) C := by
  refine ⟨h.le, h.loc, by simp [Act.put, h.size], by simp [Act.put, h.defers], fun t u e => ?_⟩
  by_cases ht : t = d
  · subst ht
    rw [lookB_cons_eq] at e
    injection e with e
    subst e
    have hlt : t < a.tmps.size := by rw [h.size]; simpa using hd
    simp [Act.put, hlt]
  · rw [lookB_cons_ne ht] at e
    have := h.env t u e
    simp only [Act.put]
    rw [Array.getElem?_setIfInBounds_ne (fun e => ht e.symm)]
    exact this
theorem QS.setG {a : Act} {C : OL} {t : Nat} {v v' : Value} (hr : QS N I0 ⟨I, F, bs, ms, ob, G⟩ a C) (hb : lookB G t = some v) (e : v = v') : QS N I0 ⟨I, F, bs, ms, ob, (t, v') :: G⟩ a C := by
  subst e
  refine ⟨hr.le, hr.loc, hr.size, hr.defers, fun u x hx => ?_⟩
  by_cases hu : u = t
  · subst hu; rw [lookB_cons_eq] at hx; injection hx with hx; subst hx; exact hr.env u _ hb
  · rw [lookB_cons_ne hu] at hx; exact hr.env u x hx
variable {op : Op}
theorem W {v : Value} (hN : Nat.blt d N = true) (hy : Yd P N I0 ⟨I, F, bs, ms, ob, G⟩ ⟨some d, op, ty, pos, af, none⟩ v) (h : TQ P N I0 R ⟨I, F, bs, ms, ob, (d, v) :: G⟩ all rest k) :
    TQ P N I0 R ⟨I, F, bs, ms, ob, G⟩ all (⟨some d, op, ty, pos, af, none⟩ :: rest) k := fun a C hq => by
  unfold wpQuiet
  rw [if_pos (by simp [Region.wanted])]
  exact ⟨v, fun w hw => by unfold Oper.quietAt; rw [hy a w (hq.rel hw)]; exact ⟨rfl, rfl⟩, h _ C (hq.put hN)⟩
theorem tq_call {f : FuncId} {ao : List Operand} {at_ : Array TypeId} {vs : List Value} {v : Value} (hN : Nat.blt d N = true) (hf : Enters P f) (ha : evs G ao = some vs) (hc : PAt P I f vs v) (h : TQ P N I0 R ⟨I, F, bs, ms, ob, (d, v) :: G⟩ all rest k) :
    TQ P N I0 R ⟨I, F, bs, ms, ob, G⟩ all (⟨some d, .call ⟨.value (.func f), ao.toArray, at_⟩, ty, pos, af, none⟩ :: rest) k := fun a C hq => by
  unfold wpQuiet
  rw [if_pos (by simp [Region.wanted])]
  exact ⟨v, fun w hw => by unfold Oper.quietAt; rw [run_call (hq.rel hw) ha hf]; exact ⟨rfl, hc (C ++ F) w hw⟩, h _ C (hq.put hN)⟩
theorem tq_callv {x : Operand} {f : FuncId} {ao : List Operand} {at_ : Array TypeId} {vs fi ca : List Value} {v : Value} (hN : Nat.blt d N = true) (hx : ev G x = some (.func (.func f) fi.toArray ca.toArray)) (hf : Enters P f) (ha : evs G ao = some vs) (hc : PAt P I f (fi ++ vs ++ ca) v) (h : TQ P N I0 R ⟨I, F, bs, ms, ob, (d, v) :: G⟩ all rest k) :
    TQ P N I0 R ⟨I, F, bs, ms, ob, G⟩ all (⟨some d, .call ⟨.value x, ao.toArray, at_⟩, ty, pos, af, none⟩ :: rest) k := fun a C hq => by
  unfold wpQuiet
  rw [if_pos (by simp [Region.wanted])]
  exact ⟨v, fun w hw => by unfold Oper.quietAt; rw [run_callv (hq.rel hw) hx ha hf]; exact ⟨rfl, hc (C ++ F) w hw⟩, h _ C (hq.put hN)⟩
theorem yieldedq_of {j t : Nat} {b : Bool} {a : Act} {C : OL} (hr : QS N I0 ⟨I, F, bs, ms, ob, G⟩ a C) (hj : (all[j]?).bind (·.dst) = some t) (hb : lookB G t = some (.bool b)) : yielded all.toArray a.tmps j = some b := by
  have := hr.env t _ hb
  simp only [yielded, List.getElem?_toArray, hj, Option.bind_some, this]
theorem Gtq {j t : Nat} {b : Bool} {dst : Option Nat} (hj : (all[j]?).bind (·.dst) = some t) (hb : lookB G t = some (.bool b)) (h : TQ P N I0 R ⟨I, F, bs, ms, ob, G⟩ all (⟨dst, op, ty, pos, af, none⟩ :: rest) k) :
    TQ P N I0 R ⟨I, F, bs, ms, ob, G⟩ all (⟨dst, op, ty, pos, af, some (j, b)⟩ :: rest) k := fun a C hr => by
  have h1 := h a C hr
  have hy := yieldedq_of hr hj hb
  have e1 : Region.wanted ⟨dst, op, ty, pos, af, some (j, b)⟩ (yielded all.toArray a.tmps) = true := by simp [Region.wanted, hy]
  have e2 : Region.wanted ⟨dst, op, ty, pos, af, none⟩ (yielded all.toArray a.tmps) = true := rfl
  unfold wpQuiet at h1 ⊢
  rw [if_pos e1]
  rw [if_pos e2] at h1
  exact h1
theorem Gfq {j t : Nat} {b b' : Bool} (hN : Nat.blt d N = true) (hj : (all[j]?).bind (·.dst) = some t) (hb : lookB G t = some (.bool b')) (hne : (b' == b) = false) (h : TQ P N I0 R ⟨I, F, bs, ms, ob, (d, undef) :: G⟩ all rest k) :
    TQ P N I0 R ⟨I, F, bs, ms, ob, G⟩ all (⟨some d, op, ty, pos, af, some (j, b)⟩ :: rest) k := fun a C hr => by
  have hy := yieldedq_of hr hj hb
  have e1 : Region.wanted ⟨some d, op, ty, pos, af, some (j, b)⟩ (yielded all.toArray a.tmps) = false := by simp [Region.wanted, hy, hne]
  unfold wpQuiet
  rw [if_neg (by rw [e1]; simp)]
  exact h _ C (hr.put hN)
theorem Guq {j t : Nat} {b : Bool} (hN : Nat.blt d N = true) (hj : (all[j]?).bind (·.dst) = some t) (hb : lookB G t = some undef) (h : TQ P N I0 R ⟨I, F, bs, ms, ob, (d, undef) :: G⟩ all rest k) :
    TQ P N I0 R ⟨I, F, bs, ms, ob, G⟩ all (⟨some d, op, ty, pos, af, some (j, b)⟩ :: rest) k := fun a C hr => by
  have hy : yielded all.toArray a.tmps j = none := by
    have := hr.env t _ hb
    simp only [yielded, List.getElem?_toArray, hj, Option.bind_some, this, undef]
  have e1 : Region.wanted ⟨some d, op, ty, pos, af, some (j, b)⟩ (yielded all.toArray a.tmps) = false := by simp [Region.wanted, hy]
  unfold wpQuiet
  rw [if_neg (by rw [e1]; simp)]
  exact h _ C (hr.put hN)
theorem Splq (t : Nat) {b : Bool} {p q : Prop} [hbp : BoolP b p q] (hb : lookB G t = some (.bool b)) (ht : p → TQ P N I0 R ⟨I, F, bs, ms, ob, (t, .bool true) :: G⟩ all rest k) (hf : q → TQ P N I0 R ⟨I, F, bs, ms, ob, (t, .bool false) :: G⟩ all rest k) :
    TQ P N I0 R ⟨I, F, bs, ms, ob, G⟩ all rest k := fun a C hr => by
  cases b
  · exact hf (hbp.no rfl) a C (hr.setG hb rfl)
  · exact ht (hbp.yes rfl) a C (hr.setG hb rfl)
theorem Req (t : Nat) {v : Value} (v' : Value) (hb : lookB G t = some v) (e : v = v') (h : TQ P N I0 R ⟨I, F, bs, ms, ob, (t, v') :: G⟩ all rest k) :
    TQ P N I0 R ⟨I, F, bs, ms, ob, G⟩ all rest k := fun a C hr => h a C (hr.setG hb e)
theorem tq_end {S : St} (h : TX P N I0 R S .normal k) : TQ P N I0 R S all [] k := fun a C hq => wpQuiet_nil fun w' hw' => h a w' (hq.rel hw')
theorem goq {x : Code} {k' : List KI} {S : St} (hk : resK k .normal = some (x, k')) (h : T P N I0 R S x k') : TQ P N I0 R S all [] k := tq_end (tx_go hk h)

/-! more values -/
theorem CellsI.sub {p : Addr} {vs : List Value} (h : CellsI I p vs) (o n : Nat) : CellsI I (p.add o) ((vs.drop o).take n) := fun j v hj => by
  rw [addr_add_add]
  refine h (o + j) v ?_
  rw [List.getElem?_take] at hj
  split at hj
  · rw [List.getElem?_drop] at hj; exact hj
  · cases hj
variable {S : St} {dst : Option Tmp} {g : Option (Nat × Bool)}
/-- A row with others written into it. -/
def setL : List Value → Nat → List Value → List Value
  | cs, _, [] => cs
  | cs, o, v :: r => setL (cs.set o v) (o + 1) r
def fillP (pl : List (Nat × Nat)) : List Value → List (Nat × Value) → Option (List Value)
  | cs, [] => some cs
  | cs, (i, v) :: r => match pl[i]? with
    | some (o, s) => bif Nat.beq v.cells.size s && Nat.ble (o + s) cs.length then fillP pl (setL cs o v.cells.toList) r else none
    | none => none
theorem setL_toArray : ∀ (vs : List Value) (cs : List Value) (o : Nat), setRow cs.toArray o vs = (setL cs o vs).toArray
  | [], _, _ => rfl
  | v :: r, cs, o => by rw [setRow, setL, ← setL_toArray r]; simp
theorem setRow_fold : ∀ (l : List Value) (n o : Nat) (cs : Array Value), (l.zipIdx n).foldl (fun cs (x : Value × Nat) => cs.setIfInBounds (o + x.2) x.1) cs = setRow cs (o + n) l
  | [], _, _, _ => rfl
  | v :: r, n, o, cs => by rw [List.zipIdx_cons, List.foldl_cons, setRow, setRow_fold r (n + 1) o, Nat.add_assoc]
theorem fill_P (place : Nat → Option (Nat × Nat)) (pl : List (Nat × Nat)) (hp : ∀ i, place i = pl[i]?) : ∀ (parts : List (Nat × Value)) (cs vs : List Value), fillP pl cs parts = some vs → Instr.fill place cs.toArray parts = some vs.toArray
  | [], cs, vs, h => by simp only [fillP, Option.some.injEq] at h; subst h; rfl
  | (i, v) :: r, cs, vs, h => by
    simp only [fillP] at h
    simp only [Instr.fill, hp i]
    cases e : pl[i]? with
    | none => rw [e] at h; cases h
    | some x =>
      obtain ⟨o, s⟩ := x
      rw [e] at h
      simp only at h ⊢
      cases hc : (Nat.beq v.cells.size s && Nat.ble (o + s) cs.length)
      · rw [hc] at h; cases h
      · rw [hc] at h
        simp only [cond_true] at h
        simp only [Bool.and_eq_true, Nat.beq_eq, Nat.ble_eq] at hc
        have e1 : (decide (v.cells.size ≠ s) || decide (o + v.cells.size > cs.toArray.size)) = false := by simp [hc.1]; omega
        simp only [e1, Bool.false_eq_true, if_false]
        have e2 : (v.cells.zipIdx.foldl (fun cs (x : Value × Nat) => cs.setIfInBounds (o + x.2) x.1) cs.toArray) = (setL cs o v.cells.toList).toArray := by
          rw [← setL_toArray, ← Array.foldl_toList, Array.toList_zipIdx]
          have := setRow_fold v.cells.toList 0 o cs.toArray
          simpa using this
        rw [show (fun (cs : Array Value) (x : Value × Nat) => match x with | (c, j) => cs.setIfInBounds (o + j) c) = (fun cs x => cs.setIfInBounds (o + x.2) x.1) from rfl, e2]
        exact fill_P place pl hp r _ vs h
def BuildP (P : Program) (t : TypeId) (zs : List Value) (pl : List (Nat × Nat)) : Prop := ∀ parts vs w, fillP pl zs parts = some vs → (Instr.build t parts.toArray).run P w = .ok (.agg vs.toArray) w
theorem buildP_struct {t : TypeId} {fs : Array Field} {zs : List Value} {pl : List (Nat × Nat)} (hz : ∀ w, (zeroValue t).run P w = .ok (.agg zs.toArray) w) (hu : P.underlying t = some (.struct fs))
    (hp : ∀ w, (fs.mapM fun f => do pure (f.offset, ← sizeOf f.type) : Sem (Array (Nat × Nat))).run P w = .ok pl.toArray w) : BuildP P t zs pl := fun parts vs w h => by
  have := fill_P (fun i => pl.toArray[i]?) pl (fun i => by simp) parts zs vs h
  simp only [Instr.build, Sem.run_bind, hz, Result.andThen_ok, run_underlying hu, hp, Value.cells, this, Sem.run_pure]
theorem buildP_array {t e : TypeId} {n sz : Nat} {zs : List Value} {pl : List (Nat × Nat)} (hz : ∀ w, (zeroValue t).run P w = .ok (.agg zs.toArray) w) (hu : P.underlying t = some (.array n e))
    (hs : ∀ w, (sizeOf e).run P w = .ok sz w) (hp : pl = (List.range n).map fun i => (i * sz, sz)) : BuildP P t zs pl := fun parts vs w h => by
  have key : ∀ (parts : List (Nat × Value)) (cs : List Value), fillP pl cs parts = some vs → Instr.fill (fun i => some (i * sz, sz)) cs.toArray parts = some vs.toArray := by
    intro parts
    induction parts with
    | nil => intro cs h; simp only [fillP, Option.some.injEq] at h; subst h; rfl
    | cons p r ih =>
      obtain ⟨i, v⟩ := p
      intro cs h
      simp only [fillP] at h
      cases e : pl[i]? with
      | none => rw [e] at h; cases h
      | some x =>
        obtain ⟨o, s⟩ := x
        have e' := e
        rw [hp] at e'
        simp only [List.getElem?_map] at e'
        have hi : i < n := by
          rcases Nat.lt_or_ge i n with h1 | h1
          · exact h1
          · rw [List.getElem?_eq_none (by simpa using h1)] at e'; cases e'
        rw [List.getElem?_range hi] at e'
        simp only [Option.map_some, Option.some.injEq, Prod.mk.injEq] at e'
        obtain ⟨rfl, rfl⟩ := e'
        rw [e] at h
        simp only at h
        cases hc : (Nat.beq v.cells.size sz && Nat.ble (i * sz + sz) cs.length)
        · rw [hc] at h; cases h
        · rw [hc] at h
          simp only [cond_true] at h
          simp only [Bool.and_eq_true, Nat.beq_eq, Nat.ble_eq] at hc
          simp only [Instr.fill]
          have e1 : (decide (v.cells.size ≠ sz) || decide (i * sz + v.cells.size > cs.toArray.size)) = false := by simp [hc.1]; omega
          simp only [e1, Bool.false_eq_true, if_false]
          have e2 : (v.cells.zipIdx.foldl (fun cs (x : Value × Nat) => cs.setIfInBounds (i * sz + x.2) x.1) cs.toArray) = (setL cs (i * sz) v.cells.toList).toArray := by
            rw [← setL_toArray, ← Array.foldl_toList, Array.toList_zipIdx]
            have := setRow_fold v.cells.toList 0 (i * sz) cs.toArray
            simpa using this
          rw [show (fun (cs : Array Value) (x : Value × Nat) => match x with | (c, j) => cs.setIfInBounds (i * sz + j) c) = (fun cs x => cs.setIfInBounds (i * sz + x.2) x.1) from rfl, e2]
          exact ih _ h
  have := key parts zs h
  simp only [Instr.build, Sem.run_bind, hz, Result.andThen_ok, run_underlying hu, hs, Value.cells, this, Sem.run_pure]
theorem y_build {t : TypeId} {ps : List (Nat × Operand)} {xs zs : List Value} {vs : List Value} {pl : List (Nat × Nat)} (hx : evs S.G (ps.map (·.2)) = some xs) (hb : BuildP P t zs pl) (hf : fillP pl zs ((ps.map (·.1)).zip xs) = some vs) :
    Yd P N I0 S ⟨dst, .build t ps.toArray, ty, pos, af, g⟩ (.agg vs.toArray) := fun a w h => by
  have he := h.evs hx
  have hb' := hb _ _ w hf
  have : (ps.toArray.map fun (i, x) => (i, a.eval x)) = ((ps.map (·.1)).zip xs).toArray := by
    rw [← he]
    clear hx hb hb' hf he
    induction ps with
    | nil => simp
    | cons p r ih => simpa using ih
  simp only [execOp, this, Sem.run_bind, hb', Result.andThen_ok, Sem.run_pure]
theorem y_mkf {f : FuncId} {fo co : List Operand} {fi ca : List Value} (h1 : evs S.G fo = some fi) (h2 : evs S.G co = some ca) : Yd P N I0 S ⟨dst, .makeFunc (.func f) fo.toArray co.toArray, ty, pos, af, g⟩ (.func (.func f) fi.toArray ca.toArray) := fun a w h => by
  simp [execOp, Instr.makeFunc, h.evs h1, h.evs h2]
/-- A fixed place of an array. -/
def FieldIdx (P : Program) (t : TypeId) (i off : Nat) : Prop := ∀ (a : Addr) (w : World), (Instr.indexAt t (.pointer (some a)) (.int .i64 i)).run P w = .ok (.pointer (some (a.add off))) w
theorem y_ial {x : Operand} {t : TypeId} {i off b o o' : Nat} (hx : ev S.G x = some (.pointer (some ⟨b, o, none⟩))) (hf : FieldIdx P t i off) (hk : o + off = o') : Yd P N I0 S ⟨dst, .indexAddr t x (.const (.int .i64 i)), ty, pos, af, g⟩ (.pointer (some ⟨b, o', none⟩)) := fun a w h => by
  subst hk
  have hc : a.eval (.const (.int .i64 i)) = .int .i64 i := rfl
  simp only [execOp, h.ev hx, hc, Sem.run_bind, hf _ w, Result.andThen_ok, Sem.run_pure, add_local]

/-- A place, found by number, of an array's value. -/
theorem y_iva {x y : Operand} {t e : TypeId} {size len : Nat} {cs vs : List Value} {kd : IntKind} {i : Int} (hx : ev S.G x = some (.agg cs.toArray)) (hy : ev S.G y = some (.int kd i)) (ht : P.underlying t = some (.array len e)) (ha : TyAgg P e size)
    (h0 : 0 ≤ i) (h1 : i < len) (hv : (cs.drop (i.toNat * size)).take size = vs) : Yd P N I0 S ⟨dst, .index t x y, ty, pos, af, g⟩ (.agg vs.toArray) := fun a w h => by
  obtain ⟨ha1, ha2⟩ := ha
  subst hv
  simp [execOp, h.ev hx, h.ev hy, Instr.index, asIntOf, run_underlying ht, h0, h1, part, ha1, ha2, List.extract_eq_take_drop]
theorem y_ivc {x y : Operand} {t e : TypeId} {len : Nat} {cs : List Value} {v : Value} {kd : IntKind} {i : Int} (hx : ev S.G x = some (.agg cs.toArray)) (hy : ev S.G y = some (.int kd i)) (ht : P.underlying t = some (.array len e)) (ha : TyCell P e)
    (h0 : 0 ≤ i) (h1 : i < len) (hv : cs[i.toNat]? = some v) : Yd P N I0 S ⟨dst, .index t x y, ty, pos, af, g⟩ v := fun a w h => by
  obtain ⟨ha1, ha2⟩ := ha
  simp [execOp, h.ev hx, h.ev hy, Instr.index, asIntOf, run_underlying ht, h0, h1, part, ha1, ha2, hv]

/-! ## A region that draws its order, with effects: what only reads is taken first -/
def dropKeys (ks : List Nat) : List Row → List Row
  | [] => []
  | r :: l => bif inL ks r.i then dropKeys ks l else r :: dropKeys ks l
theorem lookM_dropKeys {ks : List Nat} : ∀ {ms : List Row} {i k : Nat} {v : Value}, lookM (dropKeys ks ms) i k = some v → lookM ms i k = some v ∧ inL ks i = false
  | [], _, _, _, h => by cases h
  | ⟨j, o, n, vs⟩ :: r, i, k, v, h => by
    simp only [dropKeys] at h
    cases hj : inL ks j
    · rw [hj] at h
      simp only [cond_false, lookM] at h ⊢
      cases hb : (Nat.beq i j && (Nat.ble o k && Nat.blt k (o + n)))
      · rw [hb] at h; simp only [cond_false] at h ⊢; exact lookM_dropKeys h
      · rw [hb] at h
        simp only [cond_true] at h ⊢
        simp only [Bool.and_eq_true, Nat.beq_eq] at hb
        exact ⟨h, by rw [hb.1]; exact hj⟩
    · rw [hj] at h
      simp only [cond_true] at h
      obtain ⟨h1, h2⟩ := lookM_dropKeys h
      refine ⟨?_, h2⟩
      have : Nat.beq i j = false := by
        rw [Bool.eq_false_iff]; intro h'
        have := Nat.eq_of_beq_eq_true h'
        subst this; rw [h2] at hj; cases hj
      simp only [lookM, this, Bool.false_and, cond_false]
      exact h1
/-- What holds through the whole region. -/
def SC (I : Imm) (F : OL) (bs : List (Nat × BI)) (ms : List Row) (w : World) : Prop := ∃ C, Loc ms [] bs C ∧ Holds I (C ++ F) w
theorem Loc.noOb {ob' : List (Nat × Obj)} {C : OL} (h : Loc ms ob' bs C) : Loc ms [] bs C := by
  induction h with
  | nil => exact .nil
  | @cons i x y bs C h1 h2 h3 ih =>
    refine .cons ⟨h1.1, ?_⟩ h2 ih
    cases x with
    | obj b => intro o ho; cases ho
    | cells b t m => exact h1.2
def topOK (ks : List Nat) (bs : List (Nat × BI)) (top : List Row) : Bool := top.all fun r => inL ks r.i || (match lookB bs r.i with | none => true | some _ => false)
/-- The condition, out of a later state. -/
theorem sc_of {I' : Imm} {bs' : List (Nat × BI)} {ms' : List Row} {ob' : List (Nat × Obj)} {G' : List (Nat × Value)} (ks : List Nat) (nb nm : Nat) (hI : I.Le I') (hb : bs'.drop nb = bs) (hm : ms'.drop nm = ms) (ht : topOK ks bs (ms'.take nm) = true)
    {a : Act} {w : World} (hr : Rel N I0 ⟨I', F, bs', ms', ob', G'⟩ a w) : SC I F bs (dropKeys ks ms) w := by
  obtain ⟨C, hl, hh⟩ := hr.mem
  have keyB : ∀ (n : Nat) {bs1 : List (Nat × BI)} {C : OL}, Loc ms' ob' bs1 C → Loc ms' ob' (bs1.drop n) (C.drop n) := by
    intro n
    induction n with
    | zero => intro bs C h; exact h
    | succ n ih =>
      intro bs C h
      cases h with
      | nil => exact .nil
      | cons h1 h2 h3 => simpa using ih h3
  have hl1 := keyB nb hl
  rw [hb] at hl1
  refine ⟨C.drop nb, ?_, (hh.mono hI).sub (fun y hy => ?_) ?_⟩
  · have hl2 := hl1.noOb
    have key : ∀ {bs1 : List (Nat × BI)} {C1 : OL}, Loc ms' [] bs1 C1 → (∀ i x, lookB bs1 i = some x → ∃ y, lookB bs i = some y) → Loc (dropKeys ks ms) [] bs1 C1 := by
      intro bs1 C1 h
      induction h with
      | nil => intro _; exact .nil
      | @cons i x y bs2 C2 h1 h2 h3 ih =>
        intro hs
        refine .cons ⟨h1.1, ?_⟩ h2 (ih fun j x hj => hs j x ?_)
        · cases x with
          | obj b => intro o ho; cases ho
          | cells b t m =>
            obtain ⟨cs, e1, e2, e3⟩ := h1.2
            refine ⟨cs, e1, e2, fun k v hv => e3 k v ?_⟩
            obtain ⟨g1, g2⟩ := lookM_dropKeys hv
            obtain ⟨yb, hyb⟩ := hs i _ lookB_cons_eq
            rw [← List.take_append_drop nm ms', lookM_top, hm]
            · exact g1
            · intro r hr' he
              have := List.all_eq_true.1 ht r hr'
              rw [he, g2, hyb] at this
              simp at this
        · rw [lookB_cons_ne]; exact hj
          intro e; subst e; rw [h2] at hj; cases hj
    exact key hl2 fun i x h => ⟨x, h⟩
  · rcases List.mem_append.1 hy with hy | hy
    · exact List.mem_append_left _ (List.mem_of_mem_drop hy)
    · exact List.mem_append_right _ hy
  · have := hh.nd
    rw [List.map_append] at this ⊢
    exact this.sublist ((List.Sublist.map _ (sub_append nb C)).append (List.Sublist.refl _))
def NP (R : Exit → Act → World → Prop) : Prop := ∀ c a w, ¬ R (.panic c) a w
theorem np {fn : Func} {Post : Value → Imm → OL → Prop} : NP (bodyPost P fn (RP I0 Post)) := fun c a w h => by
  obtain ⟨_, v, _, _, he, _⟩ := h
  cases he
theorem QK_panic (hR : NP R) : ∀ (k : List KI) (c : List PanicEntry) (a : Act) (w : World), ¬ QK P R k (.panic c) a w
  | [], c, a, w, h => hR c a w h
  | .c _ :: k, c, a, w, h => QK_panic hR k c a w h
  | .b _ :: k, c, a, w, h => QK_panic hR k c a w h
  | .l _ :: k, c, a, w, h => QK_panic hR k c a w h
abbrev TH (P : Program) (N : Nat) (I0 : Imm) (R : Exit → Act → World → Prop) (S : St) (all : List Oper) (sc : World → Prop) (fuel : Nat) (listed : List Bool) (k : List KI) : Prop :=
  SAT N I0 S fun a w => sc w ∧ wpAnyH P .any all.toArray (QK P R k) sc fuel listed.toArray a w
theorem t_held {id : Nat} {l : List Oper} (ks : List Nat) (hm : P.follows .mixedOrders = true) (n : Nat) (hn : l.length = n) (lst : List Bool) (hl : List.replicate n false = lst) (hs : Region.noSelect l.toArray = true)
    (h : I0.Le I → Region.noSelect l.toArray = true → TH P N I0 R ⟨I, F, bs, ms, ob, G⟩ l (SC I F bs (dropKeys ks ms)) n lst k) : T P N I0 R ⟨I, F, bs, ms, ob, G⟩ (.region id l.toArray true) k := fun a w hr => by
  subst hn hl
  refine wp_region_held (S := SC I F bs (dropKeys ks ms)) hm ?_
  have hr' : Rel N I0 ⟨I, F, bs, ms, ob, G⟩ a { w with drawn := w.drawn + 1 } := ⟨hr.le, let ⟨C, h1, h2⟩ := hr.mem; ⟨C, h1, h2.drew'⟩, hr.size, hr.defers, hr.env⟩
  have := (h hr.le hs a _ hr').2
  simpa using this
theorem th_and_ {S : St} {sc : World → Prop} {fuel : Nat} {listed : List Bool} (h1 : SAT N I0 S fun _ w => sc w) (h2 : SAT N I0 S fun a w => wpAnyH P .any all.toArray (QK P R k) sc fuel listed.toArray a w) : TH P N I0 R S all sc fuel listed k := fun a w hr => ⟨h1 a w hr, h2 a w hr⟩
/-- An operation that only reads, taken first. -/
theorem Tk {I' : Imm} {bs' : List (Nat × BI)} {ms' : List Row} {ob' : List (Nat × Obj)} {v : Value} {fuel : Nat} {listed : List Bool} {bs0 : List (Nat × BI)} {ms0 : List Row} (i : Nat) (hR : NP R) (hi : all[i]? = some ⟨some d, op, ty, pos, af, none⟩) (hN : Nat.blt d N = true) (hs : Region.noSelect all.toArray = true)
    (hf : Region.free .any all.toArray listed.toArray i = true) (hrd : (Region.ready .any all.toArray listed.toArray).contains i = true) (hy : Yd P N I0 ⟨I, F, bs0, ms0, [], G⟩ ⟨some d, op, ty, pos, af, none⟩ v)
    (hI0 : I0.Le I) (lst : List Bool) (hl : listed.set i true = lst) (h : TH P N I0 R ⟨I', F, bs', ms', ob', (d, v) :: G⟩ all (SC I F bs0 ms0) fuel lst k) :
    TH P N I0 R ⟨I', F, bs', ms', ob', G⟩ all (SC I F bs0 ms0) (fuel + 1) listed k := fun a w hr => by
  subst hl
  have h' := h (a.put (some d) v) w (hr.put hN)
  refine ⟨h'.1, wpAnyH_take (v := v) (by simpa using hi) hs hf hrd (fun c a w hq => absurd hq (QK_panic hR k c _ w)) (.inl ⟨by simp [Region.wanted], fun w' hw' => ?_⟩) h'.1 ?_⟩
  · obtain ⟨C, h1, h2⟩ := hw'
    exact hy a w' ⟨hI0, ⟨C, h1, h2⟩, hr.size, hr.defers, hr.env⟩
  · have := h'.2
    simpa using this
theorem Tkf {I' : Imm} {bs' : List (Nat × BI)} {ms' : List Row} {ob' : List (Nat × Obj)} {j t : Nat} {b b' : Bool} {fuel : Nat} {listed : List Bool} {sc : World → Prop} (i : Nat) (hR : NP R) (hi : all[i]? = some ⟨some d, op, ty, pos, af, some (j, b)⟩) (hN : Nat.blt d N = true) (hs : Region.noSelect all.toArray = true)
    (hf : Region.free .any all.toArray listed.toArray i = true) (hrd : (Region.ready .any all.toArray listed.toArray).contains i = true) (hj : (all[j]?).bind (·.dst) = some t) (hb : lookB G t = some (.bool b')) (hne : (b' == b) = false)
    (lst : List Bool) (hl : listed.set i true = lst) (h : TH P N I0 R ⟨I', F, bs', ms', ob', (d, undef) :: G⟩ all sc fuel lst k) : TH P N I0 R ⟨I', F, bs', ms', ob', G⟩ all sc (fuel + 1) listed k := fun a w hr => by
  subst hl
  have h' := h (a.put (some d) undef) w (hr.put hN)
  have hy := yielded_of hr hj hb
  refine ⟨h'.1, wpAnyH_take (v := undef) (by simpa using hi) hs hf hrd (fun c a w hq => absurd hq (QK_panic hR k c _ w)) (.inr ⟨by simp [Region.wanted, hy, hne], rfl⟩) h'.1 ?_⟩
  have := h'.2
  simpa using this
/-- The one operation that may come up. -/
theorem On {S : St} {dst : Option Nat} {fuel : Nat} {listed : List Bool} {sc : World → Prop} (i : Nat) (hsc : SAT N I0 S fun _ w => sc w) (hi : all[i]? = some ⟨dst, op, ty, pos, af, none⟩) (hrd : Region.ready .any all.toArray listed.toArray = [i])
    (lst : List Bool) (hl : listed.set i true = lst) (h : SAT N I0 S fun a w => Oper.wp P ⟨dst, op, ty, pos, af, none⟩ a w (fun a' w' => sc w' ∧ wpAnyH P .any all.toArray (QK P R k) sc fuel lst.toArray a' w') (QK P R k)) : TH P N I0 R S all sc (fuel + 1) listed k := fun a w hr => by
  subst hl
  refine ⟨hsc a w hr, wpAnyH_all hrd (by simp) fun j hj => ?_⟩
  simp only [List.mem_singleton] at hj
  subst hj
  unfold wpOp
  rw [show all.toArray[j]? = some ⟨dst, op, ty, pos, af, none⟩ by simpa using hi]
  simp only
  rw [if_pos (by simp [Region.wanted])]
  have := h a w hr
  simp only [List.setIfInBounds_toArray]
  exact .inl this
/-- One of two. -/
theorem On2 {S : St} {fuel : Nat} {listed : List Bool} {sc : World → Prop} (i j : Nat) {o o' : Oper} (hsc : SAT N I0 S fun _ w => sc w) (hi : all[i]? = some o) (hj : all[j]? = some o') (hgi : o.guard = none) (hgj : o'.guard = none) (hrd : Region.ready .any all.toArray listed.toArray = [i, j])
    (lst lst' : List Bool) (hl : listed.set i true = lst) (hl' : listed.set j true = lst')
    (h : SAT N I0 S fun a w => Oper.wp P o a w (fun a' w' => sc w' ∧ wpAnyH P .any all.toArray (QK P R k) sc fuel lst.toArray a' w') (QK P R k))
    (h' : SAT N I0 S fun a w => Oper.wp P o' a w (fun a' w' => sc w' ∧ wpAnyH P .any all.toArray (QK P R k) sc fuel lst'.toArray a' w') (QK P R k)) : TH P N I0 R S all sc (fuel + 1) listed k := fun a w hr => by
  subst hl hl'
  refine ⟨hsc a w hr, wpAnyH_all hrd (by simp) fun l hl => ?_⟩
  simp only [List.mem_cons, List.not_mem_nil, or_false] at hl
  rcases hl with rfl | rfl
  · unfold wpOp
    rw [show all.toArray[l]? = some o by simpa using hi]
    simp only
    rw [if_pos (by simp [Region.wanted, hgi])]
    simp only [List.setIfInBounds_toArray]
    exact .inl (h a w hr)
  · unfold wpOp
    rw [show all.toArray[l]? = some o' by simpa using hj]
    simp only
    rw [if_pos (by simp [Region.wanted, hgj])]
    simp only [List.setIfInBounds_toArray]
    exact .inl (h' a w hr)
/-- All have come up. -/
theorem th_end {S : St} {fuel : Nat} {listed : List Bool} {sc : World → Prop} (hsc : SAT N I0 S fun _ w => sc w) (hrd : Region.ready .any all.toArray listed.toArray = []) (h : TX P N I0 R S .normal k) : TH P N I0 R S all sc fuel listed k := fun a w hr =>
  ⟨hsc a w hr, wpAnyH_done hrd (h a w hr) _⟩

/-! structs and strings compared -/
def EqOK (P : Program) (t : TypeId) (xs ys : List Value) (b : Bool) : Prop := ∀ w, (Op.equal t (.agg xs.toArray) (.agg ys.toArray)).run P w = .ok b w
theorem y_eqlst {x y : Operand} {t u : TypeId} {xs ys : List Value} {b : Bool} (hx : ev S.G x = some (.agg xs.toArray)) (hy : ev S.G y = some (.agg ys.toArray)) (hg : P.eqGuardType P.depth t = false) (he : EqOK P t xs ys b) :
    Yd P N I0 S ⟨dst, .binOp .eql t x y u, ty, pos, af, g⟩ (.bool b) := fun a w h => by
  have e := he w
  simp [execOp, h.ev hx, h.ev hy, eqGuard, binOp, hg, e]
theorem y_neqst {x y : Operand} {t u : TypeId} {xs ys : List Value} {b : Bool} (hx : ev S.G x = some (.agg xs.toArray)) (hy : ev S.G y = some (.agg ys.toArray)) (hg : P.eqGuardType P.depth t = false) (he : EqOK P t xs ys b) :
    Yd P N I0 S ⟨dst, .binOp .neq t x y u, ty, pos, af, g⟩ (.bool (!b)) := fun a w h => by
  have e := he w
  simp [execOp, h.ev hx, h.ev hy, eqGuard, binOp, hg, e]
def str (l : List UInt8) : ByteArray := ⟨l.toArray⟩
theorem str_toList (l : List UInt8) : (str l).toList = l := by rw [ByteArray.toList_eq]; rfl
theorem y_eqlstr {x y : Operand} {t u : TypeId} {l m : List UInt8} (hx : ev S.G x = some (.string (str l))) (hy : ev S.G y = some (.string (str m))) :
    Yd P N I0 S ⟨dst, .binOp .eql t x y u, ty, pos, af, g⟩ (.bool (decide (l = m))) := fun a w h => by
  have : (l == m) = decide (l = m) := by by_cases e : l = m <;> simp [e]
  simp [execOp, h.ev hx, h.ev hy, eqGuard, binOp, Op.stringOp, str_toList, this]
theorem y_neqstr {x y : Operand} {t u : TypeId} {l m : List UInt8} (hx : ev S.G x = some (.string (str l))) (hy : ev S.G y = some (.string (str m))) :
    Yd P N I0 S ⟨dst, .binOp .neq t x y u, ty, pos, af, g⟩ (.bool (!decide (l = m))) := fun a w h => by
  have : (l == m) = decide (l = m) := by by_cases e : l = m <;> simp [e]
  simp [execOp, h.ev hx, h.ev hy, eqGuard, binOp, Op.stringOp, str_toList, this]
/-! slices of known things -/
def SlI (I : Imm) (n : Nat) (A : Option Addr) (xs : List (List Value)) : Prop := ∀ (i : Nat) (c : List Value), xs[i]? = some c → ∃ a, A = some a ∧ CellsI I (a.add (i * n)) c
theorem SlI.mono {J : Imm} {n : Nat} {A : Option Addr} {xs : List (List Value)} (h : SlI I n A xs) (hI : I.Le J) : SlI J n A xs := fun i c hc => let ⟨a, e, hh⟩ := h i c hc; ⟨a, e, hh.mono hI⟩
theorem SlI.at {α : Type} {n : Nat} {A : Option Addr} {l : List α} {f : α → List Value} (h : SlI I n A (l.map f)) (k : Nat) (hk : k < l.length) : ∃ a, A = some a ∧ CellsI I (a.add (k * n)) (f l[k]) :=
  h k _ (by simp [hk])
theorem y_min {x y : Operand} {at_ : Array TypeId} {kd kd' : IntKind} {m n : Int} (hx : ev S.G x = some (.int kd m)) (hy : ev S.G y = some (.int kd' n)) :
    Yd P N I0 S ⟨dst, .call ⟨.builtin .min, #[x, y], at_⟩, ty, pos, af, g⟩ (.int kd (min m n)) := fun a w h => by
  have : (if n < m then n else m) = min m n := by by_cases e : n < m <;> simp [e] <;> omega
  simp [execOp, resolve, invoke, builtin, Builtin.min_, Builtin.min2, h.ev hx, h.ev hy, this]
theorem y_max {x y : Operand} {at_ : Array TypeId} {kd kd' : IntKind} {m n : Int} (hx : ev S.G x = some (.int kd m)) (hy : ev S.G y = some (.int kd' n)) :
    Yd P N I0 S ⟨dst, .call ⟨.builtin .max, #[x, y], at_⟩, ty, pos, af, g⟩ (.int kd (max m n)) := fun a w h => by
  have : (if m < n then n else m) = max m n := by by_cases e : m < n <;> simp [e] <;> omega
  simp [execOp, resolve, invoke, builtin, Builtin.max_, Builtin.max2, h.ev hx, h.ev hy, this]
theorem y_max3 {x y z : Operand} {at_ : Array TypeId} {kd kd' kd'' : IntKind} {m n p : Int} (hx : ev S.G x = some (.int kd m)) (hy : ev S.G y = some (.int kd' n)) (hz : ev S.G z = some (.int kd'' p)) :
    Yd P N I0 S ⟨dst, .call ⟨.builtin .max, #[x, y, z], at_⟩, ty, pos, af, g⟩ (.int kd (max (max m n) p)) := fun a w h => by
  have e1 : (if m < n then n else m) = max m n := by by_cases e : m < n <;> simp [e] <;> omega
  have e2 : (if max m n < p then p else max m n) = max (max m n) p := by by_cases e : max m n < p <;> simp only [e, ite_true, ite_false] <;> omega
  simp [execOp, resolve, invoke, builtin, Builtin.max_, Builtin.max2, h.ev hx, h.ev hy, h.ev hz, e1, e2]
theorem y_eqb {x y : Operand} {t u : TypeId} {b c : Bool} (hx : ev S.G x = some (.bool b)) (hy : ev S.G y = some (.bool c)) (ht : P.underlying t = some .bool) :
    Yd P N I0 S ⟨dst, .binOp .eql t x y u, ty, pos, af, g⟩ (.bool (decide (b = c))) := fun a w h => by
  have e : (Op.equal t (.bool b) (.bool c)).run P w = .ok (decide (b = c)) w := by
    show (Op.equalIn (9999 + 1) t (.bool b) (.bool c)).run P w = _
    unfold Op.equalIn
    simp only [Sem.run_bind, run_underlying ht, Result.andThen_ok, Sem.run_pure]
    cases b <;> cases c <;> rfl
  simp [execOp, h.ev hx, h.ev hy, eqGuard, binOp, e]
/-- A shift to the left, of what is known to be small enough. -/
theorem y_shl {x y : Operand} {t u : TypeId} {kd : IntKind} {m n r : Int} (hx : ev S.G x = some (.int .i64 m)) (hy : ev S.G y = some (.int kd n)) (h0 : 0 ≤ n) (h1 : n ≤ 62) (hr : m * 2 ^ n.toNat = r) (hb : -9223372036854775808 ≤ r ∧ r < 9223372036854775808) :
    Yd P N I0 S ⟨dst, .binOp .shl t x y u, ty, pos, af, g⟩ (.int .i64 r) := fun a w h => by
  have e1 : min n.toNat IntKind.i64.bits = n.toNat := by simp [IntKind.bits]; omega
  have e2 : ¬ n < 0 := by omega
  simp [execOp, h.ev hx, h.ev hy, eqGuard, binOp, Op.shift, e1, e2, hr, wrap_i64_of hb]

/-! ## Ways that meet again -/
theorem Loc.dropB {n : Nat} {C : OL} (h : Loc ms ob bs C) : Loc ms ob (bs.drop n) (C.drop n) := by
  induction n generalizing bs C with
  | zero => exact h
  | succ n ih =>
    cases h with
    | nil => exact .nil
    | cons h1 h2 h3 => simpa using ih h3
theorem Loc.lessK' {ms' : List Row} {C : OL} (h : Loc ms ob bs C) (hs : ∀ i x, lookB bs i = some x → ∀ k v, lookM ms' i k = some v → lookM ms i k = some v) : Loc ms' ob bs C := by
  induction h with
  | nil => exact .nil
  | @cons i x y bs C h1 h2 h3 ih =>
    refine .cons ⟨h1.1, ?_⟩ h2 (ih fun j x hj => hs j x ?_)
    · cases x with
      | obj b => exact h1.2
      | cells b t m =>
        obtain ⟨cs, e1, e2, e3⟩ := h1.2
        exact ⟨cs, e1, e2, fun k v hv => e3 k v (hs i _ lookB_cons_eq k v hv)⟩
    · rw [lookB_cons_ne]; exact hj
      intro e; subst e; rw [h2] at hj; cases hj
/-- Back to an earlier state, with new rows and slots: what was laid since is let go. -/
theorem back {bs' : List (Nat × BI)} {ms' rw : List Row} {G' sl : List (Nat × Value)} (nb nm ng : Nat) (hb : bs'.drop nb = bs) (hmd : ms'.drop nm = ms) (hgd : G'.drop ng = G) (hg : subG G' sl) (hm : subM ms' rw)
    (hfg : freshG (G'.take ng) (keysOf sl) G = true) (hfm : freshM (ms'.take nm) rw bs ms = true) : SAT N I0 ⟨I, F, bs', ms', ob, G'⟩ (Rel N I0 ⟨I, F, bs, rw ++ ms, ob, sl ++ G⟩) := fun a w hr => by
  obtain ⟨C, hl, hh⟩ := hr.mem
  have hl1 : Loc ms' ob (bs'.drop nb) (C.drop nb) := Loc.dropB hl
  rw [hb] at hl1
  refine ⟨hr.le, ⟨C.drop nb, hl1.lessK' fun i xb hib k v e => ?_, hh.sub (fun y hy => ?_) ?_⟩, hr.size, hr.defers, fun t v e => ?_⟩
  · rw [lookM_append _ _ _ _ (subM_len hm)] at e
    cases e1 : lookM rw i k with
    | some u => rw [e1] at e; simp only [Option.some.injEq] at e; subst e; exact subM_get hm e1
    | none =>
      rw [e1] at e
      simp only at e
      have hall : ∀ r ∈ ms'.take nm, r.i ≠ i := by
        intro r hr' he
        have := List.all_eq_true.1 hfm r hr'
        rw [he, hib] at this
        simp only [Bool.false_or, coversR, hib] at this
        cases xb with
        | obj b => simp at this
        | cells b t n =>
          simp only [Bool.and_eq_true, List.any_eq_true, List.all_eq_true, Nat.beq_eq, Bool.or_eq_true, Bool.not_eq_true', Nat.ble_eq] at this
          obtain ⟨⟨r', hr1, h1, h2, h3⟩, h4⟩ := this
          obtain ⟨r2, q1, q2, q3, q4⟩ := lookM_key e
          have h5 := (h4 r2 q1).resolve_left (by rw [q2]; simp)
          obtain ⟨u, hu⟩ := lookM_hit hr1 (subM_len hm) h1 (by omega) (show k < r'.o + r'.n by omega)
          rw [hu] at e1; cases e1
      show lookM ms' i k = some v
      rw [← List.take_append_drop nm ms', lookM_top hall, hmd]; exact e
  · rcases List.mem_append.1 hy with hy | hy
    · exact List.mem_append_left _ (List.mem_of_mem_drop hy)
    · exact List.mem_append_right _ hy
  · have := hh.nd
    rw [List.map_append] at this ⊢
    exact this.sublist ((List.Sublist.map _ (sub_append nb C)).append (List.Sublist.refl _))
  · simp only [lookB_append] at e
    cases e1 : lookB sl t with
    | some u => rw [e1] at e; simp only [Option.some.injEq] at e; subst e; exact hr.env t u (subG_get hg e1)
    | none =>
      rw [e1] at e
      simp only at e
      refine hr.env t v ?_
      have h1 := freshG_get hfg e
      have h0 : inL (keysOf sl) t = false := by
        cases hq : inL (keysOf sl) t with
        | false => rfl
        | true => obtain ⟨u, hu⟩ := inL_lookB' hq; rw [hu] at e1; cases e1
      have h2 : inL (keysOf (G'.take ng)) t = false := h1.resolve_left (by rw [h0]; simp)
      show lookB G' t = some v
      rw [← List.take_append_drop ng G', lookB_append, inL_lookB h2]
      simp only [hgd]
      exact e
theorem Rel.unset {a : Act} {w : World} {t : Nat} {v v' : Value} {l : List (Nat × Value)} (hr : Rel N I0 ⟨I, F, bs, ms, ob, l ++ (t, v') :: G⟩ a w) (hb : lookB G t = some v) (e : v = v') : Rel N I0 ⟨I, F, bs, ms, ob, l ++ G⟩ a w := by
  subst e
  refine ⟨hr.le, hr.mem, hr.size, hr.defers, fun u x hx => hr.env u x ?_⟩
  simp only [lookB_append] at hx ⊢
  cases h : lookB l u with
  | some y => rw [h] at hx; exact hx
  | none =>
    rw [h] at hx
    simp only at hx ⊢
    by_cases hu : u = t
    · subst hu; rw [lookB_cons_eq, ← hb]; exact hx
    · rw [lookB_cons_ne hu]; exact hx
theorem wpList_app {ops : Array Oper} {Q : Exit → Act → World → Prop} {K : Act → World → Prop} : ∀ (l r : List Oper) (a : Act) (w : World), wpList P ops (Exit.then K Q) l a w → (∀ a w, K a w → wpList P ops Q r a w) → wpList P ops Q (l ++ r) a w
  | [], r, a, w, h, hk => hk a w h
  | o :: l, r, a, w, h, hk => by
    simp only [List.cons_append, wpList] at h ⊢
    split
    · rename_i hw
      rw [if_pos hw] at h
      rcases h with h | ⟨h1, h2⟩
      · refine .inl ?_
        unfold Oper.wp at h ⊢
        generalize (execOp a.eval o).run P w = r0 at h
        cases r0 with
        | ok n w' =>
          cases n with
          | value v => simp only [Oper.upon] at h ⊢; exact wpList_app l r _ _ h hk
          | skip => simp only [Oper.upon] at h ⊢; exact wpList_app l r _ _ h hk
          | defer d => simp only [Oper.upon] at h ⊢; exact wpList_app l r _ _ h hk
          | enter f args =>
            simp only [Oper.upon] at h ⊢
            exact h.mono fun e w'' he => by
              cases e with
              | returned v => exact wpList_app l r _ _ he hk
              | panicked c => exact he
              | outgrown => obtain ⟨a1, w1, h1⟩ := he; exact ⟨a1, w1, h1⟩
          | row r0 args =>
            simp only [Oper.upon] at h ⊢
            intro c cs
            obtain ⟨v, w'', q, st⟩ := h c cs
            exact ⟨v, w'', wpList_app l r _ _ q hk, st⟩
          | _ => simp only [Oper.upon] at h
        | halt x w' => cases x <;> simp only [Oper.upon] at h ⊢ <;> exact h
      · obtain ⟨a', w', hq⟩ := h2
        exact .inr ⟨h1, a', w', hq⟩
    · rename_i hw
      rw [if_neg hw] at h
      exact wpList_app l r _ _ h hk
theorem QK_l {R : Exit → Act → World → Prop} {J : Act → World → Prop} : QK P R (.l J :: k) = Exit.then J (QK P R k) := by
  funext e; cases e <;> rfl
/-- A Bool's two ways through some operations, to one Bool. -/
theorem Jn (t d m : Nat) {b b1 b2 : Bool} {p q : Prop} [hbp : BoolP b p q] (hb : lookB G t = some (.bool b))
    (h1 : p → TL P N I0 R ⟨I, F, bs, ms, ob, (t, .bool true) :: G⟩ all (rest.take m) (.l (Rel N I0 ⟨I, F, bs, ms, ob, (d, .bool b1) :: (t, .bool true) :: G⟩) :: k))
    (h2 : q → TL P N I0 R ⟨I, F, bs, ms, ob, (t, .bool false) :: G⟩ all (rest.take m) (.l (Rel N I0 ⟨I, F, bs, ms, ob, (d, .bool b2) :: (t, .bool false) :: G⟩) :: k))
    (rest' : List Oper) (hr' : rest.drop m = rest') (h : TL P N I0 R ⟨I, F, bs, ms, ob, (d, .bool (bif b then b1 else b2)) :: G⟩ all rest' k) : TL P N I0 R ⟨I, F, bs, ms, ob, G⟩ all rest k := fun a w hr => by
  subst hr'
  rw [← List.take_append_drop m rest]
  cases b with
  | true =>
    have := h1 (hbp.yes rfl) a w (hr.setG hb rfl)
    rw [QK_l] at this
    exact wpList_app _ _ _ _ this fun a' w' hk => h a' w' (Rel.unset (l := [(d, .bool b1)]) hk hb rfl)
  | false =>
    have := h2 (hbp.no rfl) a w (hr.setG hb rfl)
    rw [QK_l] at this
    exact wpList_app _ _ _ _ this fun a' w' hk => h a' w' (Rel.unset (l := [(d, .bool b2)]) hk hb rfl)
def jv (b : Bool) : Value → Value → Value
  | .int k x, .int _ y => .int k (bif b then x else y)
  | .bool x, .bool y => .bool (bif b then x else y)
  | .string x, .string y => .string (bif b then x else y)
  | v, _ => v
def jvOK : Value → Value → Bool
  | .int k _, .int k' _ => decide (k = k')
  | .bool _, .bool _ => true
  | .string _, .string _ => true
  | _, _ => false
def jvs (b : Bool) : List Value → List Value → List Value
  | x :: l, y :: m => jv b x y :: jvs b l m
  | _, _ => []
def jvsOK : List Value → List Value → Bool
  | x :: l, y :: m => jvOK x y && jvsOK l m
  | [], [] => true
  | _, _ => false
theorem jv_spec {b : Bool} {x y : Value} (h : jvOK x y = true) : jv b x y = bif b then x else y := by
  cases b <;> cases x <;> cases y <;> first | rfl | (simp [jvOK] at h; done) | (simp [jvOK] at h; subst h; rfl)
theorem jvs_spec {b : Bool} : ∀ {l m : List Value}, jvsOK l m = true → jvs b l m = bif b then l else m
  | [], [], _ => by cases b <;> rfl
  | x :: l, y :: m, h => by
    simp only [jvsOK, Bool.and_eq_true] at h
    rw [jvs, jv_spec h.1, jvs_spec h.2]
    cases b <;> rfl
  | [], _ :: _, h => by cases h
  | _ :: _, [], h => by cases h
def zipG : List Nat → List Value → List (Nat × Value)
  | s :: l, v :: m => (s, v) :: zipG l m
  | _, _ => []
/-- An if whose ways meet again behind it. -/
theorem JIf {t : Nat} {x y : Code} {b : Bool} {p q : Prop} [hbp : BoolP b p q] (ss : List Nat) (V1 V2 : List Value) (hc : lookB G t = some (.bool b))
    (h1 : p → T P N I0 R ⟨I, F, bs, ms, ob, (t, .bool true) :: G⟩ x (.l (Rel N I0 ⟨I, F, bs, ms, ob, zipG ss V1 ++ (t, .bool true) :: G⟩) :: k))
    (h2 : q → T P N I0 R ⟨I, F, bs, ms, ob, (t, .bool false) :: G⟩ y (.l (Rel N I0 ⟨I, F, bs, ms, ob, zipG ss V2 ++ (t, .bool false) :: G⟩) :: k))
    (hok : jvsOK V1 V2 = true) (h : TX P N I0 R ⟨I, F, bs, ms, ob, zipG ss (jvs b V1 V2) ++ G⟩ .normal k) : T P N I0 R ⟨I, F, bs, ms, ob, G⟩ (.cond (.tmp t) x y) k := fun a w hr => by
  rw [jvs_spec hok] at h
  cases b with
  | true =>
    have := h1 (hbp.yes rfl) a w (hr.setG hc rfl)
    rw [QK_l] at this
    exact wp_cond_true (hr.ev (x := .tmp t) hc) (wp_mono this fun e a w q => by
      cases e with
      | normal => exact h a w (Rel.unset q hc rfl)
      | _ => exact q)
  | false =>
    have := h2 (hbp.no rfl) a w (hr.setG hc rfl)
    rw [QK_l] at this
    exact wp_cond_false (hr.ev (x := .tmp t) hc) (wp_mono this fun e a w q => by
      cases e with
      | normal => exact h a w (Rel.unset q hc rfl)
      | _ => exact q)
theorem JIf1 {t : Nat} {x y : Code} {b : Bool} {p q : Prop} [hbp : BoolP b p q] {v0 u0 : Value} (ss : List Nat) (hc : lookB G t = some (.bool b))
    (h1 : p → T P N I0 R ⟨I, F, bs, ms, ob, (t, .bool true) :: G⟩ x (.l (Rel N I0 ⟨I, F, bs, ms, ob, zipG ss [v0] ++ (t, .bool true) :: G⟩) :: k))
    (h2 : q → T P N I0 R ⟨I, F, bs, ms, ob, (t, .bool false) :: G⟩ y (.l (Rel N I0 ⟨I, F, bs, ms, ob, zipG ss [u0] ++ (t, .bool false) :: G⟩) :: k))
    (hok : jvsOK [v0] [u0] = true) (h : TX P N I0 R ⟨I, F, bs, ms, ob, zipG ss (jvs b [v0] [u0]) ++ G⟩ .normal k) : T P N I0 R ⟨I, F, bs, ms, ob, G⟩ (.cond (.tmp t) x y) k := JIf ss _ _ hc h1 h2 hok h
theorem JIf2 {t : Nat} {x y : Code} {b : Bool} {p q : Prop} [hbp : BoolP b p q] {v0 v1 u0 u1 : Value} (ss : List Nat) (hc : lookB G t = some (.bool b))
    (h1 : p → T P N I0 R ⟨I, F, bs, ms, ob, (t, .bool true) :: G⟩ x (.l (Rel N I0 ⟨I, F, bs, ms, ob, zipG ss [v0, v1] ++ (t, .bool true) :: G⟩) :: k))
    (h2 : q → T P N I0 R ⟨I, F, bs, ms, ob, (t, .bool false) :: G⟩ y (.l (Rel N I0 ⟨I, F, bs, ms, ob, zipG ss [u0, u1] ++ (t, .bool false) :: G⟩) :: k))
    (hok : jvsOK [v0, v1] [u0, u1] = true) (h : TX P N I0 R ⟨I, F, bs, ms, ob, zipG ss (jvs b [v0, v1] [u0, u1]) ++ G⟩ .normal k) : T P N I0 R ⟨I, F, bs, ms, ob, G⟩ (.cond (.tmp t) x y) k := JIf ss _ _ hc h1 h2 hok h
theorem JIf3 {t : Nat} {x y : Code} {b : Bool} {p q : Prop} [hbp : BoolP b p q] {v0 v1 v2 u0 u1 u2 : Value} (ss : List Nat) (hc : lookB G t = some (.bool b))
    (h1 : p → T P N I0 R ⟨I, F, bs, ms, ob, (t, .bool true) :: G⟩ x (.l (Rel N I0 ⟨I, F, bs, ms, ob, zipG ss [v0, v1, v2] ++ (t, .bool true) :: G⟩) :: k))
    (h2 : q → T P N I0 R ⟨I, F, bs, ms, ob, (t, .bool false) :: G⟩ y (.l (Rel N I0 ⟨I, F, bs, ms, ob, zipG ss [u0, u1, u2] ++ (t, .bool false) :: G⟩) :: k))
    (hok : jvsOK [v0, v1, v2] [u0, u1, u2] = true) (h : TX P N I0 R ⟨I, F, bs, ms, ob, zipG ss (jvs b [v0, v1, v2] [u0, u1, u2]) ++ G⟩ .normal k) : T P N I0 R ⟨I, F, bs, ms, ob, G⟩ (.cond (.tmp t) x y) k := JIf ss _ _ hc h1 h2 hok h
theorem JIf4 {t : Nat} {x y : Code} {b : Bool} {p q : Prop} [hbp : BoolP b p q] {v0 v1 v2 v3 u0 u1 u2 u3 : Value} (ss : List Nat) (hc : lookB G t = some (.bool b))
    (h1 : p → T P N I0 R ⟨I, F, bs, ms, ob, (t, .bool true) :: G⟩ x (.l (Rel N I0 ⟨I, F, bs, ms, ob, zipG ss [v0, v1, v2, v3] ++ (t, .bool true) :: G⟩) :: k))
    (h2 : q → T P N I0 R ⟨I, F, bs, ms, ob, (t, .bool false) :: G⟩ y (.l (Rel N I0 ⟨I, F, bs, ms, ob, zipG ss [u0, u1, u2, u3] ++ (t, .bool false) :: G⟩) :: k))
    (hok : jvsOK [v0, v1, v2, v3] [u0, u1, u2, u3] = true) (h : TX P N I0 R ⟨I, F, bs, ms, ob, zipG ss (jvs b [v0, v1, v2, v3] [u0, u1, u2, u3]) ++ G⟩ .normal k) : T P N I0 R ⟨I, F, bs, ms, ob, G⟩ (.cond (.tmp t) x y) k := JIf ss _ _ hc h1 h2 hok h

/-! ## Blocks handed to a call, and taken back changed -/
/-- Block, element type, cells. -/
abbrev Blk3 := Nat × TypeId × List Value
def blkO (x : Blk3) : Nat × Obj := (x.1, .cells x.2.2.toArray x.2.1 (0, 0))
def blkL (l : List Blk3) : OL := l.map blkO
def blksOf (bs : List (Nat × BI)) (ms : List Row) : List Nat → Option (List Blk3)
  | [] => some []
  | i :: r => match lookB bs i with
    | some (.cells b t n) => match gatherM ms i 0 n with
      | some cs => match blksOf bs ms r with
        | some l => some ((b, t, cs) :: l)
        | none => none
      | none => none
    | _ => none
def ndK : List Nat → Bool
  | [] => true
  | i :: r => !inL r i && ndK r
theorem inL_mem {l : List Nat} {i : Nat} : inL l i = true ↔ i ∈ l := by
  induction l with
  | nil => simp [inL]
  | cons j r ih =>
    simp only [inL, List.mem_cons]
    cases h : Nat.beq i j
    · simp only [cond_false, ih]
      have : i ≠ j := fun e => by subst e; simp at h
      simp [this]
    · have := Nat.eq_of_beq_eq_true h
      simp [this]
theorem Loc.memFull {C : OL} (h : Loc ms ob bs C) {i b n : Nat} {t : TypeId} {cs : List Value} (hb : lookB bs i = some (.cells b t n)) (hg : gatherM ms i 0 n = some cs) : blkO (b, t, cs) ∈ C := by
  obtain ⟨y, hy, h1, c, h2, h3, h4⟩ := h.mem hb
  obtain ⟨hl, hgt⟩ := gatherM_get hg
  have : c = cs.toArray := by
    apply Array.ext
    · simp [h3, hl]
    · intro j hj hj'
      have e := h4 j (cs[j]'(by simpa using hj')) (by have := hgt j _ (List.getElem?_eq_getElem (by simpa using hj')); simpa using this)
      rw [Array.getElem?_eq_getElem hj] at e
      simpa using e
  subst this
  have : y = blkO (b, t, cs) := by
    obtain ⟨y1, y2⟩ := y
    simp only [BI.b] at h1 h2
    subst h1 h2
    rfl
  rw [← this]; exact hy
theorem Loc.key_of {C : OL} (h : Loc ms ob bs C) {y : Nat × Obj} (hy : y ∈ C) : ∃ i x, lookB bs i = some x ∧ x.b = y.1 := by
  induction h with
  | nil => cases hy
  | @cons j x' y' bs C h1 h2 h3 ih =>
    rcases List.mem_cons.1 hy with rfl | hy
    · exact ⟨j, x', lookB_cons_eq, h1.1.symm⟩
    · obtain ⟨i, x, e1, e2⟩ := ih hy
      refine ⟨i, x, ?_, e2⟩
      rw [lookB_cons_ne]; exact e1
      intro e; subst e; rw [h2] at e1; cases e1
theorem Loc.ids_ne {C : OL} (h : Loc ms ob bs C) (hn : (C.map (·.1)).Nodup) {i j : Nat} {x y : BI} (hi : lookB bs i = some x) (hj : lookB bs j = some y) (hne : i ≠ j) : x.b ≠ y.b := by
  induction h with
  | nil => cases hi
  | @cons k z zz bs C h1 h2 h3 ih =>
    rw [List.map_cons, List.nodup_cons] at hn
    by_cases hik : i = k
    · subst hik
      rw [lookB_cons_eq] at hi
      injection hi with hi
      subst hi
      rw [lookB_cons_ne (fun e => hne e.symm)] at hj
      obtain ⟨w, hw, hwb⟩ := h3.mem hj
      intro e
      refine hn.1 (List.mem_map.2 ⟨w, hw, ?_⟩)
      show w.1 = zz.1
      rw [hwb.1, h1.1, e]
    · rw [lookB_cons_ne hik] at hi
      by_cases hjk : j = k
      · subst hjk
        rw [lookB_cons_eq] at hj
        injection hj with hj
        subst hj
        obtain ⟨w, hw, hwb⟩ := h3.mem hi
        intro e
        refine hn.1 (List.mem_map.2 ⟨w, hw, ?_⟩)
        show w.1 = zz.1
        rw [hwb.1, h1.1, e]
      · rw [lookB_cons_ne hjk] at hj
        exact ih hn.2 hi hj
theorem blksOf_cons {i : Nat} {r : List Nat} {Bl : List Blk3} (h : blksOf bs ms (i :: r) = some Bl) : ∃ b t n cs l, lookB bs i = some (.cells b t n) ∧ gatherM ms i 0 n = some cs ∧ blksOf bs ms r = some l ∧ Bl = (b, t, cs) :: l := by
  simp only [blksOf] at h
  cases e1 : lookB bs i with
  | none => rw [e1] at h; cases h
  | some x =>
    rw [e1] at h
    cases x with
    | obj b => cases h
    | cells b t n =>
      simp only at h
      cases e2 : gatherM ms i 0 n with
      | none => rw [e2] at h; cases h
      | some cs =>
        rw [e2] at h
        simp only at h
        cases e3 : blksOf bs ms r with
        | none => rw [e3] at h; cases h
        | some l => rw [e3] at h; simp only [Option.some.injEq] at h; exact ⟨b, t, n, cs, l, rfl, e2, rfl, h.symm⟩
theorem Loc.blks {C : OL} (h : Loc ms ob bs C) (hn : (C.map (·.1)).Nodup) : ∀ {ks : List Nat} {Bl : List Blk3}, blksOf bs ms ks = some Bl → ndK ks = true →
    (∀ x ∈ Bl, blkO x ∈ C) ∧ (Bl.map (·.1)).Nodup ∧ ∀ x ∈ Bl, ∃ i ∈ ks, ∃ n, lookB bs i = some (.cells x.1 x.2.1 n)
  | [], Bl, hb, _ => by simp only [blksOf, Option.some.injEq] at hb; subst hb; simp
  | i :: r, Bl, hb, hk => by
    obtain ⟨b, t, n, cs, l, e1, e2, e3, rfl⟩ := blksOf_cons hb
    simp only [ndK, Bool.and_eq_true, Bool.not_eq_true'] at hk
    obtain ⟨h1, h2, h3⟩ := h.blks hn e3 hk.2
    refine ⟨fun x hx => ?_, ?_, fun x hx => ?_⟩
    · rcases List.mem_cons.1 hx with rfl | hx
      · exact h.memFull e1 e2
      · exact h1 x hx
    · rw [List.map_cons, List.nodup_cons]
      refine ⟨fun hm => ?_, h2⟩
      obtain ⟨x, hx, hxe⟩ := List.mem_map.1 hm
      obtain ⟨j, hj, m, hjl⟩ := h3 x hx
      have hij : i ≠ j := fun e => by subst e; rw [inL_mem.2 hj] at hk; simp at hk
      exact h.ids_ne hn e1 hjl hij hxe.symm
    · rcases List.mem_cons.1 hx with rfl | hx
      · exact ⟨i, by simp, n, e1⟩
      · obtain ⟨j, hj, m, hjl⟩ := h3 x hx
        exact ⟨j, List.mem_cons_of_mem _ hj, m, hjl⟩
/-- The head of the frame becomes a block of one's own. -/
theorem own {b n : Nat} {t : TypeId} {cs : List Value} {K : Act → World → Prop} (i : Nat) (hl : cs.length = n) (hi : lookB bs i = none) (hk : noKey ms i = true) (h : SAT N I0 ⟨I, F, (i, .cells b t n) :: bs, ⟨i, 0, n, cs⟩ :: ms, ob, G⟩ K) :
    SAT N I0 ⟨I, blkO (b, t, cs) :: F, bs, ms, ob, G⟩ K := fun a w hr => by
  obtain ⟨C, h1, h2⟩ := hr.mem
  refine h a w ⟨hr.le, ⟨blkO (b, t, cs) :: C, .cons ⟨rfl, cs.toArray, rfl, by simpa using hl, fun k v hv => ?_⟩ hi (h1.other hi), h2.perm ?_⟩, hr.size, hr.defers, hr.env⟩
  · rcases lookM_row hl hv with ⟨_, _, h3⟩ | ⟨_, h3⟩
    · simpa using h3
    · rw [lookM_noKey hk] at h3; cases h3
  · simp only [List.cons_append]; exact List.perm_middle
/-- The end of a function that hands blocks back. -/
theorem retm {fn : Func} {Post : Value → Imm → OL → Prop} {v : Value} {e : Exit} (he : e = .ret ∨ e = .normal) (ks : List Nat) {Bl : List Blk3} (hres : Res P N I0 ⟨I, F, bs, ms, ob, G⟩ fn v) (hb : blksOf bs ms ks = some Bl) (hk : ndK ks = true) (hp : I0.Le I → Post v I (blkL Bl ++ F)) :
    SAT N I0 ⟨I, F, bs, ms, ob, G⟩ (bodyPost P fn (RP I0 Post) e) := ret_core he hres fun a w hr => by
  obtain ⟨C, hl, hh⟩ := hr.mem
  have hnd := hh.nd
  rw [List.map_append, List.nodup_append] at hnd
  obtain ⟨g1, g2, g3⟩ := hl.blks hnd.1 hb hk
  refine ⟨I, blkL Bl ++ F, hr.le, hh.sub (fun x hx => ?_) ?_, hp hr.le⟩
  · rcases List.mem_append.1 hx with hx | hx
    · obtain ⟨y, hy, rfl⟩ := List.mem_map.1 hx
      exact List.mem_append_left _ (g1 y hy)
    · exact List.mem_append_right _ hx
  · rw [List.map_append, List.nodup_append]
    refine ⟨by simpa [blkL, blkO, Function.comp_def] using g2, hnd.2.1, fun x hx y hy e => ?_⟩
    obtain ⟨z, hz, hze⟩ := List.mem_map.1 hx
    obtain ⟨q, hq, rfl⟩ := List.mem_map.1 hz
    exact hnd.2.2 _ (List.mem_map.2 ⟨_, g1 q hq, hze⟩) _ hy e
def reB : List Blk3 → List (List Value) → List Blk3
  | (b, t, _) :: l, cs :: m => (b, t, cs) :: reB l m
  | _, _ => []
def rowsOf : List Nat → List (List Value) → List Row
  | i :: l, cs :: m => ⟨i, 0, cs.length, cs⟩ :: rowsOf l m
  | _, _ => []
/-- The same lengths. -/
def sameLen : List Blk3 → List (List Value) → Prop
  | x :: l, cs :: m => cs.length = x.2.2.length ∧ sameLen l m
  | [], [] => True
  | _, _ => False
def newC (Bl : List Blk3) (y : Nat × Obj) : Nat × Obj := match Bl.find? (fun x => x.1 == y.1) with
  | some x => blkO x
  | none => y
theorem reB_ids : ∀ {Bl : List Blk3} {Cl : List (List Value)}, sameLen Bl Cl → (reB Bl Cl).map (·.1) = Bl.map (·.1)
  | [], [], _ => rfl
  | (b, t, cs) :: l, c :: m, h => by simp only [reB, List.map_cons]; rw [reB_ids h.2]
  | [], _ :: _, h => h.elim
  | _ :: _, [], h => h.elim
theorem newC_id (Bl : List Blk3) (y : Nat × Obj) : (newC Bl y).1 = y.1 := by
  unfold newC
  cases h : Bl.find? (fun x => x.1 == y.1) with
  | none => rfl
  | some x => have := List.find?_some h; simpa [blkO] using this
theorem lookM_rowsOf {i : Nat} : ∀ {ks : List Nat} {Cl : List (List Value)} {k : Nat} {v : Value} {Bl : List Blk3}, blksOf bs ms ks = some Bl → sameLen Bl Cl → ndK ks = true → lookM (rowsOf ks Cl ++ ms) i k = some v →
    (i ∈ ks ∧ ∃ b t n cs, lookB bs i = some (.cells b t n) ∧ (b, t, cs) ∈ reB Bl Cl ∧ ((cs.length = n ∧ cs[k]? = some v) ∨ (n ≤ k ∧ lookM ms i k = some v))) ∨ (i ∉ ks ∧ lookM ms i k = some v)
  | [], Cl, k, v, Bl, _, _, _, h => by cases Cl <;> exact .inr ⟨by simp, h⟩
  | j :: r, [], k, v, Bl, hb, hs, _, h => by
    obtain ⟨b, t, n, cs, l, _, _, _, rfl⟩ := blksOf_cons hb
    exact hs.elim
  | j :: r, c :: m, k, v, Bl, hb, hs, hk, h => by
    obtain ⟨b, t, n, cs, l, e1, e2, e3, rfl⟩ := blksOf_cons hb
    have hlen : c.length = n := hs.1.trans (gatherM_get e2).1
    simp only [ndK, Bool.and_eq_true, Bool.not_eq_true'] at hk
    simp only [rowsOf, List.cons_append] at h
    by_cases hij : i = j
    · subst hij
      refine .inl ⟨by simp, b, t, n, c, e1, by simp [reB], ?_⟩
      rcases lookM_row rfl h with ⟨_, h2, h3⟩ | ⟨h1, h2⟩
      · exact .inl ⟨hlen, by simpa using h3⟩
      · rcases lookM_rowsOf e3 hs.2 hk.2 h2 with ⟨h4, _⟩ | ⟨_, h4⟩
        · rw [inL_mem.2 h4] at hk; simp at hk
        · exact .inr ⟨by omega, h4⟩
    · have hbq : Nat.beq i j = false := by rw [Bool.eq_false_iff]; exact fun h' => hij (Nat.eq_of_beq_eq_true h')
      simp only [lookM, hbq, Bool.false_and, cond_false] at h
      rcases lookM_rowsOf e3 hs.2 hk.2 h with ⟨h1, b', t', n', cs', f1, f2, f3⟩ | ⟨h1, h2⟩
      · exact .inl ⟨List.mem_cons_of_mem _ h1, b', t', n', cs', f1, List.mem_cons_of_mem _ f2, f3⟩
      · exact .inr ⟨by simp [hij, h1], h2⟩
theorem Loc.turn {C : OL} {Bl : List Blk3} {Cl : List (List Value)} {ks : List Nat} (h : Loc ms ob bs C) (hn : (C.map (·.1)).Nodup) (hb : blksOf bs ms ks = some Bl) (hk : ndK ks = true) (hs : sameLen Bl Cl) :
    Loc (rowsOf ks Cl ++ ms) ob bs (C.map (newC (reB Bl Cl))) := by
  obtain ⟨g1, g2, g3⟩ := h.blks hn hb hk
  have hids := reB_ids hs
  have key : ∀ {bs1 : List (Nat × BI)} {C1 : OL}, Loc ms ob bs1 C1 → (∀ i x, lookB bs1 i = some x → lookB bs i = some x) → Loc (rowsOf ks Cl ++ ms) ob bs1 (C1.map (newC (reB Bl Cl))) := by
    intro bs1 C1 h1
    induction h1 with
    | nil => intro _; exact .nil
    | @cons i x y bs2 C2 q1 q2 q3 ih =>
      intro hsub
      have hix := hsub i x lookB_cons_eq
      refine .cons ⟨by rw [newC_id]; exact q1.1, ?_⟩ q2 (ih fun j x' hj => hsub j x' ?_)
      · cases x with
        | obj b =>
          have hy : newC (reB Bl Cl) y = y := by
            unfold newC
            cases hf : (reB Bl Cl).find? (fun x => x.1 == y.1) with
            | none => rfl
            | some z =>
              exfalso
              have hz := List.mem_of_find?_eq_some hf
              have hze := List.find?_some hf
              have : z.1 ∈ Bl.map (·.1) := by rw [← hids]; exact List.mem_map.2 ⟨z, hz, rfl⟩
              obtain ⟨u, hu, hue⟩ := List.mem_map.1 this
              obtain ⟨j, hj, n, hjl⟩ := g3 u hu
              have hyb : y.1 = b := q1.1
              by_cases hij : i = j
              · subst hij; rw [hix] at hjl; cases hjl
              · refine h.ids_ne hn hix hjl hij ?_
                have : z.1 = y.1 := by simpa using hze
                simp only [BI.b]
                rw [← hyb, ← this, hue]
          rw [hy]; exact q1.2
        | cells b t n =>
          obtain ⟨cs, e1, e2, e3⟩ := q1.2
          have hyb : y.1 = b := q1.1
          cases hf : (reB Bl Cl).find? (fun x => x.1 == y.1) with
          | none =>
            have hy : newC (reB Bl Cl) y = y := by unfold newC; rw [hf]
            rw [hy]
            refine ⟨cs, e1, e2, fun k v hv => e3 k v ?_⟩
            rcases lookM_rowsOf hb hs hk hv with ⟨_, b', t', n', cs', f1, f2, _⟩ | ⟨_, f⟩
            · rw [hix] at f1
              injection f1 with f1
              injection f1 with f1 _ _
              have := List.find?_eq_none.1 hf _ f2
              simp [hyb, f1] at this
            · exact f
          | some z =>
            have hz := List.mem_of_find?_eq_some hf
            have hze : z.1 = y.1 := by simpa using List.find?_some hf
            have hzm : z.1 ∈ Bl.map (·.1) := by rw [← hids]; exact List.mem_map.2 ⟨z, hz, rfl⟩
            obtain ⟨u, hu, hue⟩ := List.mem_map.1 hzm
            obtain ⟨j, hj, m, hjl⟩ := g3 u hu
            have hij : i = j := by
              by_cases hij : i = j
              · exact hij
              · exact absurd (show b = u.1 by rw [hue, hze, hyb]) (h.ids_ne hn hix hjl hij)
            subst hij
            have hy : newC (reB Bl Cl) y = blkO z := by unfold newC; rw [hf]
            rw [hy]
            -- what stands in reB under this key
            have hcs : ∀ {ks : List Nat} {Bl : List Blk3} {Cl : List (List Value)}, blksOf bs ms ks = some Bl → sameLen Bl Cl → ∀ z ∈ reB Bl Cl, ∃ i ∈ ks, ∃ n, lookB bs i = some (.cells z.1 z.2.1 n) ∧ z.2.2.length = n := by
              intro ks
              induction ks with
              | nil => intro Bl Cl hb' hs' z hz'; simp only [blksOf, Option.some.injEq] at hb'; subst hb'; cases Cl <;> cases hz'
              | cons i' r ihh =>
                intro Bl Cl hb' hs' z hz'
                obtain ⟨b0, t0, n0, c0, l0, a1, a2, a3, rfl⟩ := blksOf_cons hb'
                cases Cl with
                | nil => exact hs'.elim
                | cons c1 m1 =>
                  simp only [reB] at hz'
                  rcases List.mem_cons.1 hz' with rfl | hz'
                  · exact ⟨i', by simp, n0, a1, hs'.1.trans (gatherM_get a2).1⟩
                  · obtain ⟨i2, p1, n2, p2, p3⟩ := ihh a3 hs'.2 z hz'
                    exact ⟨i2, List.mem_cons_of_mem _ p1, n2, p2, p3⟩
            obtain ⟨i2, p1, n2, p2, p3⟩ := hcs hb hs z hz
            have hi2 : i = i2 := by
              by_cases e : i = i2
              · exact e
              · exact absurd (show b = z.1 by rw [hze, hyb]) (h.ids_ne hn hix p2 e)
            subst hi2
            rw [hix] at p2
            injection p2 with p2
            injection p2 with p4 p5 p6
            refine ⟨z.2.2.toArray, by simp [blkO, p5], by simp [p3, p6], fun k v hv => ?_⟩
            rcases lookM_rowsOf hb hs hk hv with ⟨_, b', t', n', cs', f1, f2, f3⟩ | ⟨f, _⟩
            · rw [hix] at f1
              injection f1 with f1
              injection f1 with f4 f5 f6
              have hzz : (b', t', cs') = z := by
                have n1 : ((reB Bl Cl).map (·.1)).Nodup := by rw [hids]; exact g2
                have uniq : ∀ {l : List Blk3}, (l.map (·.1)).Nodup → ∀ x ∈ l, ∀ y ∈ l, x.1 = y.1 → x = y := by
                  intro l
                  induction l with
                  | nil => intro _ x hx; cases hx
                  | cons a l ihl =>
                    intro hnd x hx y hy e
                    rw [List.map_cons, List.nodup_cons] at hnd
                    rcases List.mem_cons.1 hx with hx2 | hx2 <;> rcases List.mem_cons.1 hy with hy2 | hy2
                    · rw [hx2, hy2]
                    · exact (hnd.1 (List.mem_map.2 ⟨y, hy2, by rw [← e, hx2]⟩)).elim
                    · exact (hnd.1 (List.mem_map.2 ⟨x, hx2, by rw [e, hy2]⟩)).elim
                    · exact ihl hnd.2 x hx2 y hy2 e
                exact uniq n1 _ f2 _ hz (by rw [hze, hyb, f4])
              subst hzz
              rcases f3 with ⟨_, f3⟩ | ⟨f3, f7⟩
              · simpa using f3
              · have := e3 k v f7
                have hk' : k < cs.size := (Array.getElem?_eq_some_iff.1 this).1
                omega
            · exact absurd p1 f
      · rw [lookB_cons_ne]; exact hj
        intro e; subst e; rw [q2] at hj; cases hj
  exact key h fun _ _ hx => hx
/-- A call that is handed blocks of one's own, and hands them back with new contents. -/
theorem run_callm {o : Oper} {f : FuncId} {vs : List Value} {K : Act → World → Prop} {Q : Exit → Act → World → Prop} {d : Nat} (ks : List Nat) {Bl : List Blk3} {Qc : Value → Imm → List (List Value) → Prop} {a : Act} {w : World} (hr : Rel N I0 ⟨I, F, bs, ms, ob, G⟩ a w)
    (hdst : o.dst = some d) (hrun : (execOp a.eval o).run P w = .ok (.enter f vs.toArray) w) (hN : Nat.blt d N = true) (hb : blksOf bs ms ks = some Bl) (hk : ndK ks = true)
    (hc : ∀ L, Fn P f vs I (blkL Bl ++ L) fun v I' L' => ∃ Cl, L' = blkL (reB Bl Cl) ++ L ∧ sameLen Bl Cl ∧ Qc v I' Cl)
    (h : ∀ v I' Cl, I.Le I' → Qc v I' Cl → SAT N I0 ⟨I', F, bs, rowsOf ks Cl ++ ms, ob, (d, v) :: G⟩ K) : o.wp P a w K Q := by
  obtain ⟨C, hl, hh⟩ := hr.mem
  have hnd := hh.nd
  rw [List.map_append, List.nodup_append] at hnd
  obtain ⟨g1, g2, g3⟩ := hl.blks hnd.1 hb hk
  let Cr := C.filter fun y => !inL (Bl.map (·.1)) y.1
  have hsub : Holds I (blkL Bl ++ (Cr ++ F)) w := hh.sub (fun x hx => by
      rcases List.mem_append.1 hx with hx | hx
      · obtain ⟨y, hy, rfl⟩ := List.mem_map.1 hx
        exact List.mem_append_left _ (g1 y hy)
      · rcases List.mem_append.1 hx with hx | hx
        · exact List.mem_append_left _ (List.mem_filter.1 hx).1
        · exact List.mem_append_right _ hx) (by
      rw [List.map_append, List.nodup_append, List.map_append, List.nodup_append]
      refine ⟨by simpa [blkL, blkO, Function.comp_def] using g2, ⟨hnd.1.sublist (List.Sublist.map _ List.filter_sublist), hnd.2.1, fun x hx y hy e => ?_⟩, fun x hx y hy e => ?_⟩
      · obtain ⟨z, hz, rfl⟩ := List.mem_map.1 hx
        exact hnd.2.2 _ (List.mem_map.2 ⟨z, (List.mem_filter.1 hz).1, rfl⟩) _ hy e
      · obtain ⟨z, hz, hze⟩ := List.mem_map.1 hx
        obtain ⟨q, hq, rfl⟩ := List.mem_map.1 hz
        rcases List.mem_append.1 hy with hy | hy
        · obtain ⟨u, hu, hue⟩ := List.mem_map.1 hy
          have := (List.mem_filter.1 hu).2
          simp only [Bool.not_eq_true'] at this
          have h2 : inL (Bl.map (·.1)) u.1 = true := inL_mem.2 (by
            rw [hue, ← e, ← hze]; exact List.mem_map.2 ⟨q, hq, rfl⟩)
          rw [h2] at this; cases this
        · exact hnd.2.2 _ (List.mem_map.2 ⟨_, g1 q hq, hze⟩) _ hy e)
  unfold Oper.wp
  rw [hrun]
  refine (hc _ w hsub).mono fun e w' ⟨v, I', L', he, hI, hh', Cl, hL', hs, q⟩ => ?_
  subst he hL'
  rw [hdst]
  have hids := reB_ids hs
  refine h v I' Cl hI q _ _ (Rel.put ⟨hr.le.trans hI, ⟨C.map (newC (reB Bl Cl)), hl.turn hnd.1 hb hk hs, hh'.sub (fun x hx => ?_) ?_⟩, hr.size, hr.defers, hr.env⟩ hN)
  · rcases List.mem_append.1 hx with hx | hx
    · obtain ⟨y, hy, rfl⟩ := List.mem_map.1 hx
      unfold newC
      cases hf : (reB Bl Cl).find? (fun x => x.1 == y.1) with
      | some z => exact List.mem_append_left _ (List.mem_map.2 ⟨z, List.mem_of_find?_eq_some hf, rfl⟩)
      | none =>
        refine List.mem_append_right _ (List.mem_append_left _ (List.mem_filter.2 ⟨hy, ?_⟩))
        simp only [Bool.not_eq_true']
        cases hq : inL (Bl.map (·.1)) y.1 with
        | false => rfl
        | true =>
          exfalso
          have := inL_mem.1 hq
          rw [← hids] at this
          obtain ⟨z, hz, hze⟩ := List.mem_map.1 this
          have := List.find?_eq_none.1 hf z hz
          simp [hze] at this
    · exact List.mem_append_right _ (List.mem_append_right _ hx)
  · have e : ((C.map (newC (reB Bl Cl)) ++ F).map (·.1)) = ((C ++ F).map (·.1)) := by
      simp only [List.map_append, List.map_map]
      congr 1
      apply List.map_congr_left
      intro y _
      exact newC_id _ y
    show ((C.map (newC (reB Bl Cl)) ++ F).map (·.1)).Nodup
    rw [e]; exact hh.nd
theorem e_callm {f : FuncId} {ao : List Operand} {at_ : Array TypeId} {vs : List Value} {K : Act → World → Prop} {Q : Exit → Act → World → Prop} {d : Nat} (ks : List Nat) {Bl : List Blk3} {Qc : Value → Imm → List (List Value) → Prop} (hN : Nat.blt d N = true) (hf : Enters P f) (ha : evs G ao = some vs) (hb : blksOf bs ms ks = some Bl) (hk : ndK ks = true)
    (hc : ∀ L, Fn P f vs I (blkL Bl ++ L) fun v I' L' => ∃ Cl, L' = blkL (reB Bl Cl) ++ L ∧ sameLen Bl Cl ∧ Qc v I' Cl)
    (h : ∀ v I' Cl, I.Le I' → Qc v I' Cl → SAT N I0 ⟨I', F, bs, rowsOf ks Cl ++ ms, ob, (d, v) :: G⟩ K) :
    SAT N I0 ⟨I, F, bs, ms, ob, G⟩ fun a w => Oper.wp P ⟨some d, .call ⟨.value (.func f), ao.toArray, at_⟩, ty, pos, af, none⟩ a w K Q := fun a w hr =>
  run_callm ks hr rfl (run_call hr ha hf) hN hb hk hc h
theorem e_callmv {x : Operand} {f : FuncId} {ao : List Operand} {at_ : Array TypeId} {vs fi ca : List Value} {K : Act → World → Prop} {Q : Exit → Act → World → Prop} {d : Nat} (ks : List Nat) {Bl : List Blk3} {Qc : Value → Imm → List (List Value) → Prop} (hN : Nat.blt d N = true)
    (hx : ev G x = some (.func (.func f) fi.toArray ca.toArray)) (hf : Enters P f) (ha : evs G ao = some vs) (hb : blksOf bs ms ks = some Bl) (hk : ndK ks = true)
    (hc : ∀ L, Fn P f (fi ++ vs ++ ca) I (blkL Bl ++ L) fun v I' L' => ∃ Cl, L' = blkL (reB Bl Cl) ++ L ∧ sameLen Bl Cl ∧ Qc v I' Cl)
    (h : ∀ v I' Cl, I.Le I' → Qc v I' Cl → SAT N I0 ⟨I', F, bs, rowsOf ks Cl ++ ms, ob, (d, v) :: G⟩ K) :
    SAT N I0 ⟨I, F, bs, ms, ob, G⟩ fun a w => Oper.wp P ⟨some d, .call ⟨.value x, ao.toArray, at_⟩, ty, pos, af, none⟩ a w K Q := fun a w hr =>
  run_callm ks hr rfl (run_callv hr hx ha hf) hN hb hk hc h

theorem SAT.keep {I' : Imm} {K : Act → World → Prop} (hI : I.Le I') (hI0 : I0.Le I) (h : SAT N I0 ⟨I, F, bs, ms, ob, G⟩ K) : SAT N I0 ⟨I', F, bs, ms, ob, G⟩ K := fun a w hr =>
  h a w ⟨hI0, let ⟨C, h1, h2⟩ := hr.mem; ⟨C, h1, h2.mono hI⟩, hr.size, hr.defers, hr.env⟩
/-- .. and what is known of other memory stays as it was. -/
theorem e_callk {f : FuncId} {ao : List Operand} {at_ : Array TypeId} {vs : List Value} {K : Act → World → Prop} {Q : Exit → Act → World → Prop} {d : Nat} (ks : List Nat) {Bl : List Blk3} {Qc : Value → List (List Value) → Prop} (hN : Nat.blt d N = true) (hf : Enters P f) (ha : evs G ao = some vs) (hb : blksOf bs ms ks = some Bl) (hk : ndK ks = true)
    (hc : ∀ L, Fn P f vs I (blkL Bl ++ L) fun v _ L' => ∃ Cl, L' = blkL (reB Bl Cl) ++ L ∧ sameLen Bl Cl ∧ Qc v Cl)
    (h : ∀ v Cl, Qc v Cl → SAT N I0 ⟨I, F, bs, rowsOf ks Cl ++ ms, ob, (d, v) :: G⟩ K) :
    SAT N I0 ⟨I, F, bs, ms, ob, G⟩ fun a w => Oper.wp P ⟨some d, .call ⟨.value (.func f), ao.toArray, at_⟩, ty, pos, af, none⟩ a w K Q := fun a w hr =>
  run_callm (Qc := fun v _ Cl => Qc v Cl) ks hr rfl (run_call hr ha hf) hN hb hk hc fun v _ Cl hI q => SAT.keep hI hr.le (h v Cl q)
theorem e_callkv {x : Operand} {f : FuncId} {ao : List Operand} {at_ : Array TypeId} {vs fi ca : List Value} {K : Act → World → Prop} {Q : Exit → Act → World → Prop} {d : Nat} (ks : List Nat) {Bl : List Blk3} {Qc : Value → List (List Value) → Prop} (hN : Nat.blt d N = true)
    (hx : ev G x = some (.func (.func f) fi.toArray ca.toArray)) (hf : Enters P f) (ha : evs G ao = some vs) (hb : blksOf bs ms ks = some Bl) (hk : ndK ks = true)
    (hc : ∀ L, Fn P f (fi ++ vs ++ ca) I (blkL Bl ++ L) fun v _ L' => ∃ Cl, L' = blkL (reB Bl Cl) ++ L ∧ sameLen Bl Cl ∧ Qc v Cl)
    (h : ∀ v Cl, Qc v Cl → SAT N I0 ⟨I, F, bs, rowsOf ks Cl ++ ms, ob, (d, v) :: G⟩ K) :
    SAT N I0 ⟨I, F, bs, ms, ob, G⟩ fun a w => Oper.wp P ⟨some d, .call ⟨.value x, ao.toArray, at_⟩, ty, pos, af, none⟩ a w K Q := fun a w hr =>
  run_callm (Qc := fun v _ Cl => Qc v Cl) ks hr rfl (run_callv hr hx ha hf) hN hb hk hc fun v _ Cl hI q => SAT.keep hI hr.le (h v Cl q)
variable {S : St} {dst : Option Tmp} {g : Option (Nat × Bool)}
theorem y_fai {x : Operand} {t : TypeId} {f off o o' : Nat} {p : Addr} (hx : ev S.G x = some (.pointer (some (p.add o)))) (hf : FieldOK P t f off) (hk : o + off = o') : Yd P N I0 S ⟨dst, .fieldAddr t x f, ty, pos, af, g⟩ (.pointer (some (p.add o'))) := by
  subst hk; rw [← addr_add_add]; exact y_fa hx hf
end
end Go.TL
