/- Rows that grow: append onto a slice of one's own. The grown block stands at the head of the frame. (Draft: see NOTES.md.) -/
import Derived.Test.YtngdkgddeobiiaaTlog
import Derived.Maps.AppendAt
namespace Go.TL
open Go
def okR (e : TypeId) (size : Nat) (R : Option (Nat × Obj)) (v : Value) (n : Nat) (xs : List Value) : Prop :=
  xs.length = n * size ∧ ((R = none ∧ v = .slice none 0 0 ∧ n = 0) ∨
    ∃ g cap cur, R = some (g, .cells cur e (0, 0)) ∧ v = .slice (some ⟨g, 0, none⟩) n cap ∧ n ≤ cap ∧ cap ≤ maxLen ∧ cur.size = cap * size ∧ cur.toList.take (n * size) = xs)
theorem okR.owns {I : Imm} {C F : OL} {w : World} {e : TypeId} {size n : Nat} {R : Option (Nat × Obj)} {v : Value} {xs : List Value} (hh : Holds I (C ++ (R.toList ++ F)) w) (h : okR e size R v n xs) : w.ownsRow 0 e size v n xs := by
  obtain ⟨h0, ⟨rfl, h1, h2⟩ | ⟨g, cap, cur, rfl, h1, h2, h3, h4, h5⟩⟩ := h
  · exact ⟨h0, .inl ⟨h1, h2⟩⟩
  · exact ⟨h0, .inr ⟨g, cap, cur, h1, Nat.zero_le _, hh.own (g, _) (by simp), h2, h3, h4, h5⟩⟩
theorem okR.of {w : World} {e : TypeId} {size n : Nat} {v : Value} {xs : List Value} (h : w.ownsRow 0 e size v n xs) : ∃ R, okR e size R v n xs ∧ (∀ x ∈ R.toList, w.heap[x.1]? = some x.2) ∧ R.map (·.1) = v.ownBlock := by
  obtain ⟨h0, ⟨h1, h2⟩ | ⟨g, cap, cur, h1, hb, hg, h2, h3, h4, h5⟩⟩ := h
  · exact ⟨none, ⟨h0, .inl ⟨rfl, h1, h2⟩⟩, by simp, by rw [h1]; rfl⟩
  · exact ⟨some (g, .cells cur e (0, 0)), ⟨h0, .inr ⟨g, cap, cur, rfl, h1, h2, h3, h4, h5⟩⟩, by simpa using hg, by rw [h1]; rfl⟩
theorem okR.block {e : TypeId} {size n : Nat} {R : Option (Nat × Obj)} {v : Value} {xs : List Value} (h : okR e size R v n xs) : R.map (·.1) = v.ownBlock := by
  obtain ⟨h0, ⟨rfl, h1, h2⟩ | ⟨g, cap, cur, rfl, h1, h2⟩⟩ := h <;> rw [h1] <;> rfl
theorem Holds.grown {I : Imm} {C F : OL} {w w' : World} {R R' : Option (Nat × Obj)} {r r' : Option Nat} (hh : Holds I (C ++ (R.toList ++ F)) w) (hb : R.map (·.1) = r) (hg : w.grownBy w' r)
    (hb' : R'.map (·.1) = r') (ho : ∀ x ∈ R'.toList, w'.heap[x.1]? = some x.2) (hr : r' = r ∨ r' = some w.heap.size) : Holds I (C ++ (R'.toList ++ F)) w' := by
  have hp : (C ++ (R.toList ++ F)).Perm (R.toList ++ (C ++ F)) := by
    rw [← List.append_assoc, ← List.append_assoc]; exact (List.perm_append_comm).append_right F
  have hp' : (R'.toList ++ (C ++ F)).Perm (C ++ (R'.toList ++ F)) := by
    rw [← List.append_assoc, ← List.append_assoc]; exact (List.perm_append_comm).append_right F
  have h := hh.perm hp
  refine Holds.perm ?_ hp'
  obtain ⟨g1, g2, g3, g4, g5⟩ := hg
  have hlt : ∀ k o, w.heap[k]? = some o → k < w.heap.size := fun k o e => (Array.getElem?_eq_some_iff.1 e).1
  have hnr : ∀ x ∈ C ++ F, some x.1 ≠ r := fun x hx e => by
    cases R with
    | none => rw [← hb] at e; cases e
    | some y =>
      rw [← hb] at e
      have hn := h.nd
      simp only [Option.toList, List.singleton_append, List.map_cons, List.nodup_cons] at hn
      exact hn.1 (List.mem_map.2 ⟨x, hx, Option.some.inj e⟩)
  have hrI : ∀ k, some k = r → I.m k = none := fun k e => by
    cases R with
    | none => rw [← hb] at e; cases e
    | some y => rw [← hb] at e; have := h.dj y (by simp); rw [Option.some.inj e]; exact this
  have hnew : ∀ k, some k = r' → I.m k = none ∧ ∀ x ∈ C ++ F, x.1 ≠ k := fun k e => by
    rcases hr with e1 | e1
    · rw [e1] at e; exact ⟨hrI k e, fun x hx e2 => hnr x hx (by rw [e2]; exact e)⟩
    · rw [e1] at e; cases e
      refine ⟨?_, fun x hx e2 => ?_⟩
      · cases e3 : I.m w.heap.size with
        | none => rfl
        | some o => exact absurd (hlt _ _ (h.imm _ _ e3)) (by omega)
      · have := hlt _ _ (h.own x (by simp at hx ⊢; exact .inr hx)); omega
  refine ⟨g1.trans h.os, g2.trans h.tape, g3.trans h.output, fun k o e => ?_, fun x hx => ?_, ?_, fun x hx => ?_⟩
  · have e1 := h.imm k o e
    rw [g5 k (hlt k o e1) (fun e2 => by rw [hrI k e2] at e; cases e)]; exact e1
  · rcases List.mem_append.1 hx with hx | hx
    · exact ho x hx
    · have e1 := h.own x (List.mem_append_right _ hx)
      rw [g5 x.1 (hlt _ _ e1) (hnr x hx)]; exact e1
  · have hn : ((C ++ F).map (·.1)).Nodup := by
      have := h.nd; rw [List.map_append] at this; exact (List.nodup_append.1 this).2.1
    cases R' with
    | none => simpa using hn
    | some y =>
      simp only [Option.toList, List.singleton_append, List.map_cons, List.nodup_cons]
      exact ⟨fun hm => by obtain ⟨x, hx, e⟩ := List.mem_map.1 hm; exact (hnew y.1 (by rw [← hb']; rfl)).2 x hx e, hn⟩
  · rcases List.mem_append.1 hx with hx | hx
    · cases R' with
      | none => cases hx
      | some y => simp at hx; subst hx; exact (hnew x.1 (by rw [← hb']; rfl)).1
    · exact h.dj x (List.mem_append_right _ hx)
section
variable {P : Program} {N : Nat} {I0 I : Imm} {bs : List (Nat × BI)} {ms : List Row} {ob : List (Nat × Obj)} {G : List (Nat × Value)} {K : Act → World → Prop} {Q : Exit → Act → World → Prop} {d : Nat} {ty : TypeId} {pos : String} {af : Array Edge}
theorem e_append {s x : Operand} {t e : TypeId} {i : TypeInfo} {z : Value} {size bytes n m c : Nat} {F0 : OL} {R : Option (Nat × Obj)} {v : Value} {xs news : List Value} {ad : Addr} (hN : Nat.blt d N = true)
    (ht : P.underlying t = some (.slice e)) (hi : P.info? e = some i) (hz : i.zero = some z) (hsize : i.size = size) (hby : i.bytes = bytes) (hzs : z.cells.size = size) (hsz : 0 < size)
    (hs : ev G s = some v) (hx : ev G x = some (.slice (some ad) m c)) (hok : okR e size R v n xs) (hl : news.length = m * size)
    (hnews : SAT N I0 ⟨I, R.toList ++ F0, bs, ms, ob, G⟩ fun _ w => ∀ j u, news[j]? = some u → w.cell? (ad.add j) = some u) (h1 : ∀ u ∈ news, u.oneCell' = true) (h63 : n + m ≤ maxLen) (hbytes : (n + m) * bytes ≤ 140737488355328)
    (h : ∀ v' R', okR e size R' v' (n + m) (xs ++ news) → SAT N I0 ⟨I, R'.toList ++ F0, bs, ms, ob, (d, v') :: G⟩ K) :
    SAT N I0 ⟨I, R.toList ++ F0, bs, ms, ob, G⟩ fun a w => Oper.wp P ⟨some d, .call ⟨.builtin .append, #[s, x], #[t, t]⟩, ty, pos, af, none⟩ a w K Q := fun a w hr => by
  obtain ⟨C, hl', hh⟩ := hr.mem
  obtain ⟨v', w', hrun, hown, hg, -, hb⟩ := run_append_own_at (P := P) w 0 t ty e i z size bytes ht hi hz hsize hby hzs hsz v n xs (hok.owns hh) ad m c news hl (hnews a w hr) h1 h63 hbytes (Nat.zero_le _)
  obtain ⟨R', hok', ho, hbl⟩ := okR.of hown
  show Oper.wp _ _ _ _ _ _
  unfold Oper.wp
  have e : (execOp a.eval ⟨some d, .call ⟨.builtin .append, #[s, x], #[t, t]⟩, ty, pos, af, none⟩).run P w = .ok (.value v') w' := by
    simp [execOp, resolve, invoke, builtin, hr.ev hs, hr.ev hx, hrun]
  rw [e]
  exact h v' R' hok' _ _ (Rel.put ⟨hr.le, ⟨C, hl', hh.grown hok.block hg hbl ho hb⟩, hr.size, hr.defers, hr.env⟩ hN)
/-- A slice made of given parts. -/
def BSliceP (P : Program) (t e : TypeId) (n : Nat) (xs : List (Nat × Value)) (vs : List Value) : Prop := ∀ w, (Instr.buildSlice t n xs.toArray).run P w = .ok (.slice (some ⟨w.heap.size, 0, none⟩) n n) (w.alloc (.cells vs.toArray e))
theorem e_bslice {t e : TypeId} {n k : Nat} {F : OL} {ps : List (Nat × Operand)} {xs vs : List Value} (i : Nat) (hN : Nat.blt d N = true) (hx : evs G (ps.map (·.2)) = some xs) (hb : BSliceP P t e n ((ps.map (·.1)).zip xs) vs) (hl : vs.length = k)
    (hi : lookB bs i = none) (hk : noKey ms i = true)
    (h : ∀ b, SAT N I0 ⟨I, F, (i, .cells b e k) :: bs, ⟨i, 0, k, vs⟩ :: ms, ob, (d, .slice (some ⟨b, 0, none⟩) n n) :: G⟩ K) :
    SAT N I0 ⟨I, F, bs, ms, ob, G⟩ fun a w => Oper.wp P ⟨some d, .buildSlice t n ps.toArray, ty, pos, af, none⟩ a w K Q := fun a w hr => by
  show Oper.wp _ _ _ _ _ _
  unfold Oper.wp
  have he := hr.evs hx
  have hz : (ps.toArray.map fun (i, x) => (i, a.eval x)) = ((ps.map (·.1)).zip xs).toArray := by
    rw [← he]
    clear hx hb he
    induction ps with
    | nil => simp
    | cons p r ih => simpa using ih
  have e : (execOp a.eval ⟨some d, .buildSlice t n ps.toArray, ty, pos, af, none⟩).run P w = .ok (.value (.slice (some ⟨w.heap.size, 0, none⟩) n n)) (w.alloc (.cells vs.toArray e)) := by
    simp only [execOp, hz, Sem.run_bind, hb w, Result.andThen_ok, Sem.run_pure]
  rw [e]
  exact h _ _ _ ((hr.new hi hk hl).put hN)
end
section
variable {P : Program} {N : Nat} {I0 I : Imm} {F : OL} {bs : List (Nat × BI)} {ms : List Row} {ob : List (Nat × Obj)} {G : List (Nat × Value)} {R : Exit → Act → World → Prop} {k : List KI}
/-- The state at a loop's head. -/
def LSF {α : Type} (Fx : α → OL) (bs : List (Nat × BI)) (ms : List Row) (ob : List (Nat × Obj)) (G : List (Nat × Value)) (Ix : α → Imm) (rw : α → List Row) (sl : α → List (Nat × Value)) (x : α) : St := ⟨Ix x, Fx x, bs, rw x ++ ms, ob, sl x ++ G⟩
theorem t_loopF {α : Type} {c : Code} (Fx : α → OL) (Ix : α → Imm) (rw : α → List Row) (sl : α → List (Nat × Value)) (Inv : α → Prop) (μ : α → Nat) (x0 : α) (hi : Inv x0) (hI : Ix x0 = I) (hF : Fx x0 = F) (hs : subG G (sl x0)) (hm : subM ms (rw x0))
    (round : ∀ x, Inv x → T P N I0 R ⟨Ix x, Fx x, bs, rw x ++ ms, ob, sl x ++ G⟩ c (.l (Again N I0 (LSF Fx bs ms ob G Ix rw sl) Inv μ x) :: k)) : T P N I0 R ⟨I, F, bs, ms, ob, G⟩ (.loop c) k :=
  t_loop (LSF Fx bs ms ob G Ix rw sl) Inv μ x0 (fun a w hr => by
    obtain ⟨C, hl, hh⟩ := hr.mem
    subst hI hF
    refine ⟨hr.le, ⟨C, ?_, hh⟩, hr.size, hr.defers, fun t v e => ?_⟩
    · have hsub : ∀ i k v, lookM (rw x0 ++ ms) i k = some v → lookM ms i k = some v := fun i k v e => by
        rw [lookM_append _ _ _ _ (subM_len hm)] at e
        cases e1 : lookM (rw x0) i k with
        | none => rw [e1] at e; exact e
        | some u => rw [e1] at e; simp only [Option.some.injEq] at e; subst e; exact subM_get hm e1
      exact hl.lessK hsub
    · simp only [LSF, lookB_append] at e
      cases e1 : lookB (sl x0) t with
      | none => rw [e1] at e; exact hr.env t v e
      | some u => rw [e1] at e; simp only [Option.some.injEq] at e; subst e; exact hr.env t u (subG_get hs e1)) hi
    fun x hx => round x hx
theorem againF {α : Type} {Fx : α → OL} {Ix : α → Imm} {rw : α → List Row} {sl : α → List (Nat × Value)} {Inv : α → Prop} {μ : α → Nat} {x : α} {I' : Imm} {bs' : List (Nat × BI)} {ms' : List Row} {G' : List (Nat × Value)}
    (x' : α) (nb nm ng : Nat) (hμ : μ x' < μ x) (hi : Inv x') (hI : Ix x' = I') (hF : Fx x' = F) (hb : bs'.drop nb = bs) (hmd : ms'.drop nm = rw x ++ ms) (hgd : G'.drop ng = sl x ++ G) (hg : subG G' (sl x')) (hm : subM ms' (rw x'))
    (hks : keysOf (sl x') = keysOf (sl x)) (hfg : freshG (G'.take ng) (keysOf (sl x')) G = true) (hfm : freshM (ms'.take nm ++ rw x) (rw x') bs ms = true) :
    SAT N I0 ⟨I', F, bs', ms', ob, G'⟩ (Again N I0 (LSF Fx bs ms ob G Ix rw sl) Inv μ x) := fun a w hr => by
  refine ⟨x', hμ, hi, ?_⟩
  subst hI hF
  obtain ⟨C, hl, hh⟩ := hr.mem
  have keyB : ∀ (n : Nat) {bs1 : List (Nat × BI)} {C : OL}, Loc ms' ob bs1 C → Loc ms' ob (bs1.drop n) (C.drop n) := by
    intro n
    induction n with
    | zero => intro bs C h; exact h
    | succ n ih =>
      intro bs C h
      cases h with
      | nil => exact .nil
      | cons h1 h2 h3 => simpa using ih h3
  have hl1 := keyB nb hl
  rw [hb] at hl1
  have hsub : ∀ i x, lookB bs i = some x → ∀ k v, lookM (rw x' ++ ms) i k = some v → lookM ms' i k = some v := fun i xb hib k v e => by
    rw [lookM_append _ _ _ _ (subM_len hm)] at e
    cases e1 : lookM (rw x') i k with
    | some u => rw [e1] at e; simp only [Option.some.injEq] at e; subst e; exact subM_get hm e1
    | none =>
      rw [e1] at e
      simp only at e
      have hall : ∀ r ∈ ms'.take nm ++ rw x, r.i ≠ i := by
        intro r hr' he
        have := List.all_eq_true.1 hfm r hr'
        rw [he, hib] at this
        simp only [Bool.false_or, coversR, hib] at this
        cases xb with
        | obj b => simp at this
        | cells b t n =>
          simp only [Bool.and_eq_true, List.any_eq_true, List.all_eq_true, Nat.beq_eq, Bool.or_eq_true, Bool.not_eq_true', Nat.ble_eq] at this
          obtain ⟨⟨r', hr1, h1, h2, h3⟩, h4⟩ := this
          obtain ⟨r2, q1, q2, q3, q4⟩ := lookM_key e
          have h5 := (h4 r2 q1).resolve_left (by rw [q2]; simp)
          obtain ⟨u, hu⟩ := lookM_hit hr1 (subM_len hm) h1 (by omega) (show k < r'.o + r'.n by omega)
          rw [hu] at e1; cases e1
      have : ms' = (ms'.take nm ++ rw x) ++ ms := by rw [List.append_assoc, ← hmd, List.take_append_drop]
      rw [this, lookM_top hall]; exact e
  refine ⟨hr.le, ⟨C.drop nb, ?_, hh.sub (fun y hy => ?_) ?_⟩, hr.size, hr.defers, fun t v e => ?_⟩
  · show Loc (rw x' ++ ms) ob bs (C.drop nb)
    clear hh hfm hb hr hl keyB hmd hgd hg hm hks hfg
    generalize C.drop nb = C1 at hl1
    have : ∀ {bs1 : List (Nat × BI)} {C1 : OL}, Loc ms' ob bs1 C1 → (∀ i x, lookB bs1 i = some x → ∀ k v, lookM (rw x' ++ ms) i k = some v → lookM ms' i k = some v) → Loc (rw x' ++ ms) ob bs1 C1 := by
      intro bs1 C1 hl2
      induction hl2 with
      | nil => intro _; exact .nil
      | @cons i x y bs C h1 h2 h3 ih =>
        intro hs
        refine .cons ⟨h1.1, ?_⟩ h2 (ih fun j x hj => hs j x ?_)
        · cases x with
          | obj b => exact h1.2
          | cells b t m =>
            obtain ⟨cs, e1, e2, e3⟩ := h1.2
            exact ⟨cs, e1, e2, fun k v hv => e3 k v (hs i _ lookB_cons_eq k v hv)⟩
        · rw [lookB_cons_ne]; exact hj
          intro e; subst e; rw [h2] at hj; cases hj
    exact this hl1 hsub
  · rcases List.mem_append.1 hy with hy | hy
    · exact List.mem_append_left _ (List.mem_of_mem_drop hy)
    · exact List.mem_append_right _ hy
  · have := hh.nd
    rw [List.map_append] at this ⊢
    exact this.sublist ((List.Sublist.map _ (sub_append nb C)).append (List.Sublist.refl _))
  · simp only [LSF, lookB_append] at e
    cases e1 : lookB (sl x') t with
    | some u => rw [e1] at e; simp only [Option.some.injEq] at e; subst e; exact hr.env t u (subG_get hg e1)
    | none =>
      rw [e1] at e
      simp only at e
      refine hr.env t v ?_
      have h1 := freshG_get hfg e
      have h0 : inL (keysOf (sl x')) t = false := by
        cases hq : inL (keysOf (sl x')) t with
        | false => rfl
        | true => obtain ⟨u, hu⟩ := inL_lookB' hq; rw [hu] at e1; cases e1
      have h2 : inL (keysOf (G'.take ng)) t = false := h1.resolve_left (by rw [h0]; simp)
      have h3 : lookB (sl x) t = none := inL_lookB (by rw [← hks]; exact h0)
      show lookB G' t = some v
      rw [← List.take_append_drop ng G', lookB_append, inL_lookB h2]
      simp only [hgd, lookB_append, h3]
      exact e
end
/-- The grown block, known for good. -/
def addR (I : Imm) : Option (Nat × Obj) → Imm
  | none => I
  | some (b, o) => I.add b o
section
variable {P : Program} {N : Nat} {I0 I : Imm} {bs : List (Nat × BI)} {ms : List Row} {ob : List (Nat × Obj)} {G : List (Nat × Value)} {fn : Func} {Post : Value → Imm → OL → Prop}
theorem reti {v : Value} {e : Exit} (he : e = .ret ∨ e = .normal) (R : Option (Nat × Obj)) {F0 : OL} (hres : Res P N I0 ⟨I, R.toList ++ F0, bs, ms, ob, G⟩ fn v) (hp : I0.Le I → I.Le (addR I R) → Post v (addR I R) F0) :
    SAT N I0 ⟨I, R.toList ++ F0, bs, ms, ob, G⟩ (bodyPost P fn (RP I0 Post) e) :=
  ret_core he hres fun a w hr => by
    obtain ⟨C, _, hh⟩ := hr.mem
    have hs : Holds I (R.toList ++ F0) w := hh.sub (fun x hx => List.mem_append_right _ hx) (by
      have := hh.nd
      rw [List.map_append] at this
      exact this.sublist (List.sublist_append_right _ _))
    cases R with
    | none => exact ⟨I, F0, hr.le, hs, hp hr.le (.refl I)⟩
    | some y =>
      obtain ⟨b, o⟩ := y
      have hf := hs.fix
      exact ⟨I.add b o, F0, hr.le.trans hf.1, hf.2, hp hr.le hf.1⟩
end
/-- The cells of the grown block. -/
theorem okR.cells {I : Imm} {e : TypeId} {size n : Nat} {R : Option (Nat × Obj)} {v : Value} {xs : List Value} (h : okR e size R v n xs) : ∃ A cap, v = .slice A n cap ∧ (0 < n → ∃ a, A = some a ∧ ∀ j u, xs[j]? = some u → (addR I R).cell? (a.add j) = some u) := by
  obtain ⟨h0, ⟨rfl, h1, h2⟩ | ⟨g, cap, cur, rfl, h1, h2, h3, h4, h5⟩⟩ := h
  · exact ⟨none, 0, by rw [h1, h2], fun h => absurd h (by omega)⟩
  · refine ⟨_, _, h1, fun _ => ⟨_, rfl, fun j u hj => ?_⟩⟩
    rw [← h5] at hj
    have hj' : cur[j]? = some u := by
      rw [List.getElem?_take] at hj
      split at hj
      · simpa using hj
      · cases hj
    have ea : (Addr.add ⟨g, 0, none⟩ j) = ⟨g, j, none⟩ := by
      unfold Addr.add; split
      · subst_vars; rfl
      · simp
    rw [ea]
    simp [Imm.cell?, addR, Imm.add, hj']
/-! for walks that are printed -/
structure AppP (P : Program) (t e : TypeId) (size bytes : Nat) : Prop where
  slice : P.underlying t = some (.slice e)
  info : ∃ i z, P.info? e = some i ∧ i.zero = some z ∧ i.size = size ∧ i.bytes = bytes ∧ z.cells.size = size
  pos : 0 < size
theorem appP_of {P : Program} {t e : TypeId} {size bytes : Nat} {i : TypeInfo} {z : Value} (ht : P.underlying t = some (.slice e)) (hi : P.info? e = some i) (hz : i.zero = some z ∧ i.size = size ∧ i.bytes = bytes ∧ z.cells.size = size) (hp : 0 < size) : AppP P t e size bytes :=
  ⟨ht, ⟨i, z, hi, hz⟩, hp⟩
section
variable {P : Program} {N : Nat} {I0 I : Imm} {F : OL} {bs : List (Nat × BI)} {ms : List Row} {ob : List (Nat × Obj)} {G : List (Nat × Value)} {K : Act → World → Prop} {Q : Exit → Act → World → Prop} {d : Nat} {ty : TypeId} {pos : String} {af : Array Edge}
theorem news_own {i b n : Nat} {T : TypeId} {vs : List Value} (hb : lookB bs i = some (.cells b T n)) (hv : gatherM ms i 0 n = some vs) : SAT N I0 ⟨I, F, bs, ms, ob, G⟩ fun _ w => ∀ (j : Nat) u, vs[j]? = some u → w.cell? ((⟨b, 0, none⟩ : Addr).add j) = some u := fun a w hr j u hj => by
  obtain ⟨_, hg⟩ := gatherM_get hv
  rw [add_local]
  exact hr.cellL hb (hg j u hj)
theorem e_app {s x : Operand} {t e : TypeId} {size bytes n m c : Nat} {F0 : OL} {R : Option (Nat × Obj)} {v : Value} {xs news : List Value} {ad : Addr} (hN : Nat.blt d N = true) (hp : AppP P t e size bytes)
    (hs : ev G s = some v) (hx : ev G x = some (.slice (some ad) m c)) (hok : okR e size R v n xs) (hl : news.length = m * size)
    (hnews : SAT N I0 ⟨I, R.toList ++ F0, bs, ms, ob, G⟩ fun _ w => ∀ (j : Nat) u, news[j]? = some u → w.cell? (ad.add j) = some u) (h1 : ∀ u ∈ news, u.oneCell' = true) (h63 : n + m ≤ 9223372036854775807) (hbytes : (n + m) * bytes ≤ 140737488355328)
    (h : ∀ v' R', okR e size R' v' (n + m) (xs ++ news) → SAT N I0 ⟨I, R'.toList ++ F0, bs, ms, ob, (d, v') :: G⟩ K) :
    SAT N I0 ⟨I, R.toList ++ F0, bs, ms, ob, G⟩ fun a w => Oper.wp P ⟨some d, .call ⟨.builtin .append, #[s, x], #[t, t]⟩, ty, pos, af, none⟩ a w K Q := by
  obtain ⟨ht, ⟨i, z, hi, hz, hsize, hby, hzs⟩, hpos⟩ := hp
  exact e_append hN ht hi hz hsize hby hzs hpos hs hx hok hl hnews h1 (by unfold maxLen; omega) hbytes h
theorem bsl_one {t e : TypeId} {size : Nat} {i : TypeInfo} {z v : Value} {vs : List Value} (ht : P.underlying t = some (.slice e)) (hi : P.info? e = some i) (hz : i.zero = some z ∧ i.size = size ∧ z.cells.size = size) (hsz : 0 < size ∧ size ≤ 100000) (hv : v.cells = vs.toArray) (hl : vs.length = size) : BSliceP P t e 1 [(0, v)] vs := fun w => by
  obtain ⟨hz, hs, hzs⟩ := hz
  have h1 : ¬ 1 * size > 2 ^ 24 := by omega
  have h2 : ¬ 1 * size = 0 := by omega
  have hso : (sizeOf e).run P w = .ok size w := by simp [sizeOf, typeInfo, hi, hs]
  have hzv : (zeroValue e).run P w = .ok z w := by simp [zeroValue, typeInfo, hi, hz]
  have hfill : Instr.fill (fun i => some (i * size, size)) ((Array.range (1 * size)).map (fun i => z.cells[i % z.cells.size]!)) [(0, v)] = some vs.toArray := by
    simp only [Instr.fill]
    have e1 : (decide (v.cells.size ≠ size) || decide (0 * size + v.cells.size > ((Array.range (1 * size)).map (fun i => z.cells[i % z.cells.size]!)).size)) = false := by simp [hv, hl]
    simp only [e1, Bool.false_eq_true, if_false, Option.some.injEq]
    have := setRow_fold v.cells.toList 0 (0 * size) ((Array.range (1 * size)).map (fun i => z.cells[i % z.cells.size]!))
    rw [← Array.foldl_toList, Array.toList_zipIdx]
    rw [show (fun (cs : Array Value) (x : Value × Nat) => match x with | (c, j) => cs.setIfInBounds (0 * size + j) c) = (fun cs x => cs.setIfInBounds (0 * size + x.2) x.1) from rfl, this]
    apply Array.ext'
    apply List.ext_getElem?
    intro k
    have hg := setRow_get v.cells.toList ((Array.range (1 * size)).map (fun i => z.cells[i % z.cells.size]!)) 0 k (by simp [hv, hl])
    simp only [Nat.zero_mul, Nat.add_zero, Array.getElem?_toList]
    rw [hg]
    simp only [hv, List.getElem?_toArray]
    by_cases hk : k < vs.length
    · rw [if_pos ⟨Nat.zero_le _, by simpa using hk⟩]; simp
    · rw [if_neg (by simp; omega)]
      rw [List.getElem?_eq_none (by omega), Array.getElem?_eq_none (by simp; omega)]
  simp only [Instr.buildSlice, Sem.run_bind, run_underlying ht, Result.andThen_ok, hso, if_neg h1, if_neg h2, hzv, Sem.run_pure, hfill]
  simp [newRow]
variable {R : Exit → Act → World → Prop} {k : List KI} {all : List Oper}
/-- One of three. -/
theorem On3 {S : St} {fuel : Nat} {listed : List Bool} {sc : World → Prop} (i j l : Nat) {o o' o'' : Oper} (hsc : SAT N I0 S fun _ w => sc w) (hrd : Region.ready .any all.toArray listed.toArray = [i, j, l]) (hi : all[i]? = some o) (hj : all[j]? = some o') (hl0 : all[l]? = some o'') (hgi : o.guard = none) (hgj : o'.guard = none) (hgl : o''.guard = none)
    (lst lst' lst'' : List Bool) (hl : listed.set i true = lst) (hl' : listed.set j true = lst') (hl'' : listed.set l true = lst'')
    (h : SAT N I0 S fun a w => Oper.wp P o a w (fun a' w' => sc w' ∧ wpAnyH P .any all.toArray (QK P R k) sc fuel lst.toArray a' w') (QK P R k))
    (h' : SAT N I0 S fun a w => Oper.wp P o' a w (fun a' w' => sc w' ∧ wpAnyH P .any all.toArray (QK P R k) sc fuel lst'.toArray a' w') (QK P R k))
    (h'' : SAT N I0 S fun a w => Oper.wp P o'' a w (fun a' w' => sc w' ∧ wpAnyH P .any all.toArray (QK P R k) sc fuel lst''.toArray a' w') (QK P R k)) : TH P N I0 R S all sc (fuel + 1) listed k := fun a w hr => by
  subst hl hl' hl''
  refine ⟨hsc a w hr, wpAnyH_all hrd (by simp) fun q hq => ?_⟩
  simp only [List.mem_cons, List.not_mem_nil, or_false] at hq
  rcases hq with rfl | rfl | rfl
  · unfold wpOp
    rw [show all.toArray[q]? = some o by simpa using hi]
    simp only
    rw [if_pos (by simp [Region.wanted, hgi])]
    simp only [List.setIfInBounds_toArray]
    exact .inl (h a w hr)
  · unfold wpOp
    rw [show all.toArray[q]? = some o' by simpa using hj]
    simp only
    rw [if_pos (by simp [Region.wanted, hgj])]
    simp only [List.setIfInBounds_toArray]
    exact .inl (h' a w hr)
  · unfold wpOp
    rw [show all.toArray[q]? = some o'' by simpa using hl0]
    simp only
    rw [if_pos (by simp [Region.wanted, hgl])]
    simp only [List.setIfInBounds_toArray]
    exact .inl (h'' a w hr)
end
end Go.TL
