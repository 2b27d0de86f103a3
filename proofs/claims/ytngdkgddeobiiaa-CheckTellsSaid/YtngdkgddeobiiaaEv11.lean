/- The evaluator: operations on memory are the model's. No program is named here. -/
import Derived.Test.YtngdkgddeobiiaaEv10
import Derived.Maps.AppendAt
import Derived.Laws.RangeString
namespace Go.Ev
open Go Go.TL

section
variable {P : Program} {r : Ren} {E : Env} {a : Act} {w0 w : World} {H : Heap} {c : Id}
theorem one_cell {v : V} {z : Value} (h : VR r v z) (h1 : one v = true) : z.oneCell' = true := by
  cases v with
  | sl i o n cc => obtain ⟨_, _, _, _, e, _⟩ := VR_sl h; subst e; rfl
  | un => cases h1
  | ag l => cases h1
  | tu l => cases h1
  | s n l => obtain ⟨e, _⟩ := h; subst e; rfl
  | p i o => obtain ⟨_, _, _, e⟩ := h; subst e; rfl
  | m i => obtain ⟨_, _, _, e⟩ := h; subst e; rfl
  | fn f x y => obtain ⟨_, _, e, _⟩ := h; subst e; rfl
  | ifc t x => obtain ⟨_, e, _⟩ := h; subst e; rfl
  | _ => simp only [VR] at h; subst h; rfl
theorem ones_cells : ∀ {l : List V} {l' : List Value}, VRs r l l' → l.all one = true → ∀ u ∈ l', u.oneCell' = true
  | [], _, h, _, u, hu => by simp only [VRs] at h; subst h; cases hu
  | v :: l, _, ⟨z, zs, e, h1, h2⟩, hk, u, hu => by
    subst e
    simp only [List.all_cons, Bool.and_eq_true] at hk
    rcases List.mem_cons.1 hu with rfl | hu
    · exact one_cell h1 hk.1
    · exact ones_cells h2 hk.2 u hu
theorem RH.lt (h : RH w0 r H c w) {k : Nat} (hk : k < w0.heap.size) : k < w.heap.size := Nat.lt_of_lt_of_le hk h.size
/-- What stands behind an address. -/
theorem RH.at (h : RH w0 r H c w) {x : V} {A : Value} {i : Id} {off : Nat} {o : O} {cs : List V} (hx : VR r x A) (ha : at5 H x = some (i, off, o, cs)) :
    ∃ b n t vs ex, A = .pointer (some ⟨b, off, none⟩) ∧ r i = some (b, n) ∧ w0.heap.size ≤ b ∧ get5 H i = some o ∧ cellsO o = some cs ∧ w.heap[b]? = some (.cells (vs ++ ex).toArray t (0, 0)) ∧ VRs r cs vs ∧
      ∀ (cs1 : List V) (vs1 : List Value), VRs r cs1 vs1 → vs1.length = vs.length → OR r n (withCells o cs1) (.cells (vs1 ++ ex).toArray t (0, 0)) := by
  unfold at5 at ha
  split at ha
  · rename_i j k
    obtain ⟨b, n, hr, e⟩ := hx
    split at ha
    · rename_i o' ho
      split at ha
      · rename_i cs' hcs
        simp only [Option.some.injEq, Prod.mk.injEq] at ha
        obtain ⟨rfl, rfl, rfl, rfl⟩ := ha
        obtain ⟨b', n', x, hr', hge, hb, hor⟩ := h.obj _ _ ho
        rw [hr] at hr'
        simp only [Option.some.injEq, Prod.mk.injEq] at hr'
        obtain ⟨rfl, rfl⟩ := hr'
        cases o' with
        | c t l =>
          obtain ⟨vs, rfl, hvs⟩ := hor
          simp only [cellsO, Option.some.injEq] at hcs
          subst hcs
          exact ⟨b, n, t, vs, [], e, hr, hge, ho, rfl, by simpa using hb, hvs, fun cs1 vs1 h1 _ => ⟨vs1, by simp, h1⟩⟩
        | g t sz l =>
          obtain ⟨vs, ex, rfl, hvs, hl, hmx⟩ := hor
          simp only [cellsO, Option.some.injEq] at hcs
          subst hcs
          exact ⟨b, n, t, vs, ex, e, hr, hge, ho, rfl, hb, hvs, fun cs1 vs1 h1 h2 => ⟨vs1, ex, rfl, h1, by simp only [List.length_append] at hl ⊢; omega, hmx⟩⟩
        | mp _ _ _ => cases hcs
        | it _ _ _ _ => cases hcs
      · cases ha
    · cases ha
  · cases ha
theorem cell_of {b t : Nat} {vs ex : List Value} (hb : w.heap[b]? = some (.cells (vs ++ ex).toArray t (0, 0))) {off : Nat} {z : Value} (hz : vs[off]? = some z) : w.cell? ⟨b, off, none⟩ = some z := by
  have : off < vs.length := (List.getElem?_eq_some_iff.1 hz).1
  simp [World.cell?, hb, List.getElem?_append_left this, hz]
/-- A name for a new block. -/
def Ren.set (r : Ren) (i : Id) (x : Nat × Nat) : Ren := fun j => if j = i then some x else r j
theorem Ren.le_set {r : Ren} {i : Id} {x : Nat × Nat} (h : r i = none) : r.le (r.set i x) := fun j y hj => by
  unfold Ren.set
  by_cases e : j = i
  · subst e; rw [h] at hj; cases hj
  · rw [if_neg e]; exact hj
theorem RH.new {w' : World} {o : O} {x : Obj} {n b' : Nat} {c' : Id} (h : RH w0 r H c w) (hc : c.up = some c') (hos : w'.os = w.os) (ht : w'.tape = w.tape) (hout : w'.output = w.output) (hsz : w0.heap.size ≤ w'.heap.size)
    (hold : ∀ k, k < w0.heap.size → w'.heap[k]? = w.heap[k]?) (hobj : ∀ i o b n, get5 H i = some o → r i = some (b, n) → b ≠ b' ∧ w'.heap[b]? = w.heap[b]?) (hb : w0.heap.size ≤ b') (hx : w'.heap[b']? = some x) (ho : OR (r.set c (b', n)) n o x) :
    r.le (r.set c (b', n)) ∧ RH w0 (r.set c (b', n)) (put5 H c (.lf o)) c' w' := by
  have hfr := h.fresh c (Nat.le_refl _)
  have hfh := h.freshH c (Nat.le_refl _)
  have hle : r.le (r.set c (b', n)) := Ren.le_set hfr
  have hup := Id.up_nat hc
  refine ⟨hle, hos.trans h.os, ht.trans h.tape, hout.trans h.output, fun k hk => (hold k hk).trans (h.old k hk), hsz, fun i o1 hi => ?_, fun i j o1 o2 b1 n1 n2 hi hj hri hrj => ?_, fun i hi => ?_, fun i hi => ?_⟩
  · rw [get5_put5] at hi
    by_cases e : c = i
    · subst e
      simp only [if_true, Tr.val, Option.some.injEq] at hi
      subst hi
      exact ⟨b', n, x, by simp [Ren.set], hb, hx, ho⟩
    · rw [if_neg e] at hi
      obtain ⟨b1, n1, x1, g1, g2, g3, g4⟩ := h.obj i o1 hi
      exact ⟨b1, n1, x1, hle _ _ g1, g2, by rw [(hobj i o1 b1 n1 hi g1).2]; exact g3, g4.mono hle⟩
  · rw [get5_put5] at hi hj
    by_cases e : c = i
    · by_cases e2 : c = j
      · exact e.symm.trans e2
      · exfalso
        rw [if_neg e2] at hj
        obtain ⟨b2, n2', x2, g1, _⟩ := h.obj j o2 hj
        have g1' := hle _ _ g1
        rw [hrj] at g1'
        simp only [Option.some.injEq, Prod.mk.injEq] at g1'
        subst e
        simp only [Ren.set, if_true, Option.some.injEq, Prod.mk.injEq] at hri
        exact (hobj j o2 b2 n2' hj g1).1 (by rw [← g1'.1, ← hri.1])
    · rw [if_neg e] at hi
      obtain ⟨b2, n2', x2, g1, _⟩ := h.obj i o1 hi
      have g1' := hle _ _ g1
      rw [hri] at g1'
      simp only [Option.some.injEq, Prod.mk.injEq] at g1'
      by_cases e2 : c = j
      · exfalso
        subst e2
        simp only [Ren.set, if_true, Option.some.injEq, Prod.mk.injEq] at hrj
        exact (hobj i o1 b2 n2' hi g1).1 (by rw [← g1'.1, ← hrj.1])
      · rw [if_neg e2] at hj
        obtain ⟨b3, n3', x3, g3, _⟩ := h.obj j o2 hj
        have g3' := hle _ _ g3
        rw [hrj] at g3'
        simp only [Option.some.injEq, Prod.mk.injEq] at g3'
        exact h.inj i j o1 o2 b2 n2' n3' hi hj g1 (by rw [g3, ← g1'.1, ← g3'.1])
  · have : i ≠ c := fun e => by subst e; omega
    simp only [Ren.set, if_neg this]
    exact h.fresh i (by omega)
  · rw [get5_put5, if_neg (fun e => by subst e; omega)]
    exact h.freshH i (by omega)
theorem RH.upd {w' : World} {o o' : O} {x' : Obj} {n b : Nat} {i : Id} (h : RH w0 r H c w) (hi : get5 H i = some o) (hri : r i = some (b, n)) (hos : w'.os = w.os) (ht : w'.tape = w.tape) (hout : w'.output = w.output)
    (hx : w'.heap[b]? = some x') (hoth : ∀ k, k ≠ b → w'.heap[k]? = w.heap[k]?) (ho : OR r n o' x') : RH w0 r (put5 H i (.lf o')) c w' := by
  obtain ⟨b0, n0, x0, g1, g2, g3, g4⟩ := h.obj i o hi
  rw [hri] at g1
  simp only [Option.some.injEq, Prod.mk.injEq] at g1
  obtain ⟨rfl, rfl⟩ := g1
  have hold : ∀ k, k < w0.heap.size → w'.heap[k]? = w.heap[k]? := fun k hk => hoth k (by omega)
  have hlt : i.nat < c.nat := by
    rcases Nat.lt_or_ge i.nat c.nat with h1 | h1
    · exact h1
    · rw [h.freshH i h1] at hi; cases hi
  refine ⟨hos.trans h.os, ht.trans h.tape, hout.trans h.output, fun k hk => (hold k hk).trans (h.old k hk), ?_, fun j o1 hj => ?_, fun j k o1 o2 b1 n1 n2 hj hk hrj hrk => ?_, h.fresh, fun j hj => ?_⟩
  · have := (Array.getElem?_eq_some_iff.1 hx).1; omega
  · rw [get5_put5] at hj
    by_cases e : i = j
    · subst e
      simp only [if_true, Tr.val, Option.some.injEq] at hj
      subst hj
      exact ⟨b, n, x', hri, g2, hx, ho⟩
    · rw [if_neg e] at hj
      obtain ⟨b1, n1, x1, q1, q2, q3, q4⟩ := h.obj j o1 hj
      have hne : b1 ≠ b := fun e' => e (h.inj i j o o1 b n n1 hi hj hri (by rw [q1, e']))
      exact ⟨b1, n1, x1, q1, q2, by rw [hoth b1 hne]; exact q3, q4⟩
  · have hj' : ∃ o1', get5 H j = some o1' := by
      rw [get5_put5] at hj
      by_cases e : i = j
      · subst e; exact ⟨o, hi⟩
      · rw [if_neg e] at hj; exact ⟨o1, hj⟩
    have hk' : ∃ o2', get5 H k = some o2' := by
      rw [get5_put5] at hk
      by_cases e : i = k
      · subst e; exact ⟨o, hi⟩
      · rw [if_neg e] at hk; exact ⟨o2, hk⟩
    obtain ⟨o1', hj'⟩ := hj'
    obtain ⟨o2', hk'⟩ := hk'
    exact h.inj j k o1' o2' b1 n1 n2 hj' hk' hrj hrk
  · rw [get5_put5, if_neg (fun e => by subst e; omega)]
    exact h.freshH j hj
/-- A block is no longer spoken of. -/
theorem RH.drop {i : Id} (h : RH w0 r H c w) : RH w0 r (put5 H i .mt) c w := by
  have sub : ∀ j o, get5 (put5 H i .mt) j = some o → get5 H j = some o := fun j o hj => by
    rw [get5_put5] at hj
    by_cases e : i = j
    · subst e; simp [Tr.val] at hj
    · rwa [if_neg e] at hj
  refine ⟨h.os, h.tape, h.output, h.old, h.size, fun j o hj => h.obj j o (sub j o hj), fun j k o1 o2 b n n' hj hk => h.inj j k o1 o2 b n n' (sub _ _ hj) (sub _ _ hk), h.fresh, fun j hj => ?_⟩
  cases e : get5 (put5 H i .mt) j with
  | none => rfl
  | some o => have := sub j o e; rw [h.freshH j hj] at this; cases this
theorem RH.alloc {x : Obj} {o : O} {n : Nat} {c' : Id} (h : RH w0 r H c w) (hc : c.up = some c') (ho : OR (r.set c (w.heap.size, n)) n o x) :
    r.le (r.set c (w.heap.size, n)) ∧ RH w0 (r.set c (w.heap.size, n)) (put5 H c (.lf o)) c' (w.alloc x) :=
  h.new hc rfl rfl rfl (by simp; have := h.size; omega) (fun k hk => heap_alloc_old w x (h.lt hk)) (fun i o1 b1 n1 hi hri => by
    obtain ⟨b2, n2, x2, q1, q2, q3, q4⟩ := h.obj i o1 hi
    rw [hri] at q1
    simp only [Option.some.injEq, Prod.mk.injEq] at q1
    obtain ⟨rfl, rfl⟩ := q1
    have hlt := (Array.getElem?_eq_some_iff.1 q3).1
    exact ⟨by omega, heap_alloc_old w x hlt⟩) h.size (heap_alloc_new w x) ho
/-- What an operation comes to. -/
def Gives (P : Program) (a : Act) (op : Op) (w : World) (z : Value) (w' : World) : Prop := ∀ (o : Oper), o.op = op → (execOp a.eval o).run P w = .ok (.value z) w' ∨ (z = undef ∧ (execOp a.eval o).run P w = .ok .skip w')
/-- .. in memory as it is known. -/
def MOK (P : Program) (w0 : World) (r : Ren) (a : Act) (op : Op) (w : World) (v : V) (H' : Heap) (c' : Id) : Prop := ∃ r' z w', r.le r' ∧ VR r' v z ∧ RH w0 r' H' c' w' ∧ Gives P a op w z w'
theorem MOK.val {op : Op} {v : V} {z : Value} (h : RH w0 r H c w) (hv : VR r v z) (hg : ∀ (o : Oper), o.op = op → (execOp a.eval o).run P w = .ok (.value z) w) : MOK P w0 r a op w v H c :=
  ⟨r, z, w, r.le_refl, hv, h, fun o ho => .inl (hg o ho)⟩
theorem newO_some {o : O} {f : Id → V} {v : V} {H' : Heap} {c' : Id} (h : newO H c o f = some (v, H', c')) : c.up = some c' ∧ v = f c ∧ H' = put5 H c (.lf o) := by
  unfold newO at h
  split at h
  · rename_i c1 hc
    simp only [Option.some.injEq, Prod.mk.injEq] at h
    obtain ⟨rfl, rfl, rfl⟩ := h
    exact ⟨hc, rfl, rfl⟩
  · cases h
theorem MOK.new {op : Op} {o : O} {f : Id → V} {x : Obj} {v : V} {H' : Heap} {c' : Id} {z : Value} (n : Nat) (h : RH w0 r H c w) (hn : newO H c o f = some (v, H', c')) (ho : ∀ r', r.le r' → OR r' n o x) (hz : ∀ r' : Ren, r' c = some (w.heap.size, n) → VR r' (f c) z)
    (hg : ∀ (o : Oper), o.op = op → (execOp a.eval o).run P w = .ok (.value z) (w.alloc x)) : MOK P w0 r a op w v H' c' := by
  obtain ⟨hc, rfl, rfl⟩ := newO_some hn
  have hle : r.le (r.set c (w.heap.size, n)) := Ren.le_set (h.fresh c (Nat.le_refl _))
  obtain ⟨h1, h2⟩ := h.alloc (x := x) (n := n) hc (ho _ hle)
  exact ⟨_, z, _, h1, hz _ (by simp [Ren.set]), h2, fun o ho => .inl (hg o ho)⟩

/-! loads, stores -/
theorem m_ld1 {t : TypeId} {x : Operand} {X : XV} {n : Nat} {v : V} {H' : Heap} {c' : Id} (hX : trV x = some X) (ht : tyN P t = some (false, n)) (hE : RE r E a) (h : RH w0 r H c w) (hv : (XM.ld1 X).ev E H c = some (v, H', c')) : MOK P w0 r a (.load t x) w v H' c' := by
  simp only [XM.ev] at hv
  split at hv
  · rename_i xv hx
    split at hv
    · rename_i i off o cs hat
      split at hv
      · rename_i u hu
        simp only [Option.some.injEq, Prod.mk.injEq] at hv
        obtain ⟨rfl, rfl, rfl⟩ := hv
        obtain ⟨b, m, tt, vs, ex, e1, e2, e3, e4, e5, e6, e7, e8⟩ := h.at (trV_vr hX hE hx) hat
        rw [getL_eq] at hu
        obtain ⟨z, hz, hvz⟩ := e7.get hu
        refine MOK.val h hvz fun oo ho => ?_
        obtain ⟨_, _, _, _, _, _⟩ := oo; cases ho
        have hp := tyN_ok ht
        simp only [execOp, e1, Instr.loadAt, Instr.sureAddr, Sem.run_bind, Sem.run_pure, Result.andThen_ok, loadVar, hp.agg, Bool.false_eq_true, if_false, run_load, cell_of e6 hz]
      · cases hv
    · cases hv
  · cases hv
theorem m_ldn {t : TypeId} {x : Operand} {X : XV} {n : Nat} {v : V} {H' : Heap} {c' : Id} (hX : trV x = some X) (ht : tyN P t = some (true, n)) (hE : RE r E a) (h : RH w0 r H c w) (hv : (XM.ldn n X).ev E H c = some (v, H', c')) : MOK P w0 r a (.load t x) w v H' c' := by
  simp only [XM.ev] at hv
  split at hv
  · rename_i xv hx
    split at hv
    · rename_i i off o cs hat
      split at hv
      · rename_i u hu
        simp only [Option.some.injEq, Prod.mk.injEq] at hv
        obtain ⟨rfl, rfl, rfl⟩ := hv
        obtain ⟨b, m, tt, vs, ex, e1, e2, e3, e4, e5, e6, e7, e8⟩ := h.at (trV_vr hX hE hx) hat
        rw [dropL_eq] at hu
        obtain ⟨rfl, hlen⟩ := takeL_eq hu
        have hvs := (e7.drop off).take n
        have hl := e7.len
        refine MOK.val h (z := .agg ((vs.drop off).take n).toArray) ⟨_, rfl, hvs⟩ fun oo ho => ?_
        obtain ⟨_, _, _, _, _, _⟩ := oo; cases ho
        have hp := tyN_ok ht
        have hlen' : ((vs.drop off).take n).length = n := by rw [← hvs.len, List.length_take]; omega
        have hc := run_loadCellsFrom_of (P := P) (w := w) (a := ⟨b, off, none⟩) ((vs.drop off).take n) 0 #[] (fun j u hj => by
          rw [Nat.zero_add, addr_at]
          refine cell_of e6 ?_
          rw [List.getElem?_take] at hj
          split at hj
          · simpa using hj
          · cases hj)
        rw [hlen'] at hc
        simp only [execOp, e1, Instr.loadAt, Instr.sureAddr, Sem.run_bind, Sem.run_pure, Result.andThen_ok, loadVar, hp.agg, if_true, hp.size, loadCells, hc, Array.empty_append]
      · cases hv
    · cases hv
  · cases hv
theorem m_store {t : TypeId} {x y : Operand} {X Y : XV} {n : Nat} {agg : Bool} {xv yv : V} {ys : List V} {i : Id} {off : Nat} {o : O} {cs l : List V} (hX : trV x = some X) (hY : trV y = some Y) (ht : tyN P t = some (agg, n)) (hE : RE r E a) (h : RH w0 r H c w)
    (hx : X.get E = some xv) (hy : Y.get E = some yv) (hys : cellsV yv = ys) (hu : yv ≠ .un) (hn : ys.length = n) (h1 : ys.all one = true) (hat : at5 H xv = some (i, off, o, cs)) (hl : overL cs off ys = some l) :
    MOK P w0 r a (.store t x y) w .un (put5 H i (.lf (withCells o l))) c := by
  obtain ⟨b, m, tt, vs, ex, e1, e2, e3, e4, e5, e6, e7, e8⟩ := h.at (trV_vr hX hE hx) hat
  have hyv := trV_vr hY hE hy
  have hyc := cellsV_ok (n := 0) hyv hu
  rw [hys] at hyc
  obtain ⟨g1, g2⟩ := e7.over hyc hl
  have hlen : (a.eval y).cells.toList.length = n := by rw [← hyc.len]; exact hn
  obtain ⟨w', s1, s2, s3, s4, s5, s6⟩ := run_storeCells_row (P := P) (a.eval y).cells.toList off 0 w (vs ++ ex).toArray e6 (by simp at g2 ⊢; omega) (ones_cells hyc h1)
  have hrow : setRow (vs ++ ex).toArray (off + 0) (a.eval y).cells.toList = ((vs.take off ++ (a.eval y).cells.toList ++ vs.drop (off + (a.eval y).cells.toList.length)) ++ ex).toArray := by
    apply Array.ext'
    apply List.ext_getElem?
    intro k
    have := setRow_get (a.eval y).cells.toList (vs ++ ex).toArray off k (by simp at g2 ⊢; omega)
    simp only [Nat.add_zero, Array.getElem?_toList]
    rw [this]
    simp only [List.getElem?_toArray, List.getElem?_append, List.length_take, List.length_append, List.length_drop, List.getElem?_take, List.getElem?_drop] at *
    grind
  refine ⟨r, undef, w', r.le_refl, trivial, h.upd e4 e2 s2 s3 s4 s5 s6 ?_, fun oo ho => .inr ⟨rfl, ?_⟩⟩
  · rw [hrow]
    exact e8 _ _ g1 (by simp at g2 ⊢; omega)
  · obtain ⟨_, _, _, _, _, _⟩ := oo; cases ho
    have hp := tyN_ok ht
    have hsz : ¬ (a.eval y).cells.size ≠ n := by simpa using hlen
    simp only [execOp, e1, Instr.storeAt, Instr.sureAddr, storeVar, Sem.run_bind, Sem.run_pure, hp.size, Result.andThen_ok, if_neg hsz, s1]
end
end Go.Ev
