/- The evaluator is right: operations, regions, code. No program is named here. -/
import Derived.Test.YtngdkgddeobiiaaEv16
namespace Go.Ev
open Go Go.TL

section
variable {P : Program} {T : Tr Ent} {α : Type} {N : Nat}
theorem XM.noXA {op : Op} {A : XA} (h : trA P op = some A) : (∃ p, A = .p p ∧ trP P op = some p) ∨ (∃ m, A = .m m ∧ trM P op = some m) ∨ (∃ c f l i, op = .call c ∧ c.callee = .value (.func f) ∧ ixOf f = some i ∧ trVs c.args.toList = some l ∧ A = .call i l) ∨
    (∃ c x l X, op = .call c ∧ c.callee = .value x ∧ trV x = some X ∧ trVs c.args.toList = some l ∧ A = .callv X l) := by
  unfold trA at h
  split at h
  · rename_i p hp; cases h; exact .inl ⟨p, rfl, hp⟩
  · split at h
    · rename_i m hm; cases h; exact .inr (.inl ⟨m, rfl, hm⟩)
    · split at h
      · rename_i c _ _
        split at h
        · rename_i f hc
          split at h
          · rename_i i l h1 h2; cases h; exact .inr (.inr (.inl ⟨c, f, l, i, rfl, hc, h1, h2, rfl⟩))
          · cases h
        · rename_i x _ hc
          split at h
          · rename_i X l h1 h2; cases h; exact .inr (.inr (.inr ⟨c, x, l, X, rfl, hc, h1, h2, rfl⟩))
          · cases h
        · cases h
      · cases h
theorem wp_call {o : Oper} {a : Act} {w : World} {f : Nat} {args : List V} {vs : List Value} {H : Heap} {c : Id} {v : V} {H' : Heap} {c' : Id} {w0 : World} {r : Ren} {K : Act → World → Prop} {Q : Exit → Act → World → Prop} (hrun : (execOp a.eval o).run P w = .ok (.enter f vs.toArray) w) (hc : CallOK P f args H c v H' c') (hv : VRs r args vs) (hH : RH w0 r H c w)
    (hK : ∀ r' z w', r.le r' → VR r' v z → RH w0 r' H' c' w' → K (a.put o.dst z) w') : o.wp P a w K Q := by
  unfold Oper.wp
  rw [hrun]
  exact (hc w0 r w vs hv hH).mono fun e w' ⟨r', z, he, h1, h2, h3⟩ => by subst he; exact hK r' z w' h1 h2 h3
theorem actK_ok {ih : Ih α} (hT : TabOK P T) (hih : IhOK P ih) {o : Oper} {A : XA} (ht : trA P o.op = some A) {E : Env} {H : Heap} {c : Id} {k : V → Heap → Id → Option α} {out : α} (h : actK T ih A E H c k = some out) :
    ∃ v H' c', k v H' c' = some out ∧ ∀ {w0 : World} {r : Ren} {a : Act} {w : World}, RE r E a → RH w0 r H c w → ∀ (K : Act → World → Prop) (Q : Exit → Act → World → Prop), (∀ r' z w', r.le r' → VR r' v z → RH w0 r' H' c' w' → K (a.put o.dst z) w') → o.wp P a w K Q := by
  rcases XM.noXA ht with ⟨p, rfl, hp⟩ | ⟨m, rfl, hm⟩ | ⟨cl, f, l, i, hop, hcal, hix, hl, rfl⟩ | ⟨cl, x, l, X, hop, hcal, hX, hl, rfl⟩
  · simp only [actK] at h
    rw [XP.K_eq] at h
    split at h
    · rename_i v hv
      refine ⟨v, H, c, h, fun hE hH K Q hK => ?_⟩
      obtain ⟨z, z1, z2⟩ := trP_ok hp hE hv
      unfold Oper.wp
      rw [z2 o rfl]
      exact hK _ z _ (Ren.le_refl _) z1 hH
    · cases h
  · simp only [actK] at h
    rw [XM.K_eq] at h
    unfold outK at h
    split at h
    · rename_i v H' c' hv
      refine ⟨v, H', c', h, fun hE hH K Q hK => ?_⟩
      obtain ⟨r', z, w', q1, q2, q3, q4⟩ := trM_ok hm hE hH hv
      unfold Oper.wp
      rcases q4 o rfl with q4 | ⟨q5, q4⟩
      · rw [q4]; exact hK r' z w' q1 q2 q3
      · rw [q4]; subst q5; exact hK r' undef w' q1 q2 q3
    · cases h
  · simp only [actK] at h
    rw [XVs.K_eq] at h
    split at h
    · rename_i vs hvs
      obtain ⟨hen, v, H', c', h1, h2⟩ := callK_ok hT hih h
      refine ⟨v, H', c', h1, fun {w0 r a w} hE hH K Q hK => ?_⟩
      rw [ixOf_nat hix] at h2 hen
      have hargs := trVs_vr hE hl hvs
      refine wp_call (vs := cl.args.toList.map a.eval) ?_ h2 hargs hH hK
      obtain ⟨dst, op, ty, pos, af, g⟩ := o
      simp only at hop
      subst hop
      have := hen ((cl.args.toList.map a.eval).toArray) w
      simp [execOp, resolve, hcal, Deferred.ofValue, Act.eval, invoke, amap, this]
    · cases h
  · simp only [actK] at h
    rw [XV.K_eq] at h
    split at h
    · rename_i xv hx
      rw [XVs.K_eq] at h
      split at h
      · rename_i vs hvs
        split at h
        · rename_i f fi cp
          obtain ⟨hen, v, H', c', h1, h2⟩ := callK_ok hT hih h
          refine ⟨v, H', c', h1, fun {w0 r a w} hE hH K Q hK => ?_⟩
          obtain ⟨fi', cp', e, q1, q2⟩ := trV_vr hX hE hx
          have hargs := q1.app ((trVs_vr hE hl hvs).app q2)
          refine wp_call ?_ h2 hargs hH hK
          obtain ⟨dst, op, ty, pos, af, g⟩ := o
          simp only at hop
          subst hop
          have := hen ((fi' ++ (cl.args.toList.map a.eval ++ cp')).toArray) w
          simp [execOp, resolve, hcal, Deferred.ofValue, e, invoke, amap, this]
        · cases h
      · cases h
    · cases h
/-- What an operation with its guard comes to. -/
def OpOK (P : Program) (N : Nat) (ops : Array Oper) (o : Oper) (E : Env) (H : Heap) (c : Id) (E' : Env) (H' : Heap) (c' : Id) : Prop :=
  ∀ {w0 : World} {r : Ren} {a : Act} {w : World}, Inv N w0 r E H c a w → ∀ (K : Act → World → Prop) (Q : Exit → Act → World → Prop), (∀ r' a' w', r.le r' → Inv N w0 r' E' H' c' a' w' → K a' w') →
    if Region.wanted o (yielded ops a.tmps) = true then o.wp P a w K Q else K (a.put o.dst undef) w
def setO (d : Option Ix) (v : V) (E : Env) : Env := match d with | some i => set3 E i v | none => E
theorem setK_eq (d : Option Ix) (v : V) (E : Env) (k : Env → Option α) : setK d v E k = k (setO d v E) := by
  cases d with
  | none => rfl
  | some i => exact set3K_eq E i v k
theorem inv_put {w0 : World} {r r' : Ren} {E : Env} {H H' : Heap} {c c' : Id} {a : Act} {w w' : World} {dst : Option Nat} {d : Option Ix} {v : V} {z : Value} (hi : Inv N w0 r E H c a w) (hd : trD N dst = some d) (hle : r.le r') (hv : VR r' v z) (hH : RH w0 r' H' c' w') :
    Inv N w0 r' (setO d v E) H' c' (a.put dst z) w' := by
  cases dst with
  | none =>
    simp only [trD, Option.some.injEq] at hd
    subst hd
    exact ⟨hi.size, hi.defers, hi.env.mono hle, hH⟩
  | some t =>
    simp only [trD] at hd
    cases hb : Nat.blt t N with
    | false => rw [hb] at hd; cases hd
    | true =>
      rw [hb] at hd
      simp only [cond_true] at hd
      split at hd
      · rename_i i hix
        cases hd
        have hn := ixOf_nat hix
        rw [bltN] at hb
        simp only [decide_eq_true_eq] at hb
        subst hn
        exact ⟨by simp [Act.put, hi.size], by simp [Act.put, hi.defers], (hi.env.mono hle).put hv (by rw [hi.size]; exact hb), hH⟩
      · cases hd
theorem tmp_some {q : Option Value} {b : Bool} (h : q.getD undef = .bool b) : q = some (.bool b) := by
  cases q with
  | none => simp [undef] at h
  | some v => simp at h; rw [h]
theorem guard_ok {ops : Array Oper} {j : Nat} {want want' : Bool} {i : Ix} (hg : trG ops.toList (some (j, want)) = some (some (i, want'))) : want' = want ∧ ∀ {w0 : World} {r : Ren} {E : Env} {H : Heap} {c : Id} {a : Act} {w : World}, Inv N w0 r E H c a w →
    (∀ b, get3 E i = some (.b b) → yielded ops a.tmps j = some b) ∧ (get3 E i = some (.tu []) → yielded ops a.tmps j = none) := by
  simp only [trG] at hg
  split at hg
  · rename_i oj hoj
    split at hg
    · rename_i t ht'
      split at hg
      · rename_i i' hix
        simp only [Option.some.injEq, Prod.mk.injEq] at hg
        obtain ⟨rfl, rfl⟩ := hg
        have hoj' : ops[j]? = some oj := by simpa using hoj
        refine ⟨rfl, fun hi => ⟨fun b hb => ?_, fun hb => ?_⟩⟩
        · have h1 := hi.env i' _ hb
          rw [ixOf_nat hix] at h1
          simp only [VR] at h1
          unfold yielded
          simp only [hoj', Option.bind_some, ht']
          rw [Array.getD_eq_getD_getElem?] at h1
          rw [tmp_some h1]
        · have h1 := hi.env i' _ hb
          rw [ixOf_nat hix] at h1
          obtain ⟨l', e, hl⟩ := h1
          simp only [VRs] at hl
          subst hl
          unfold yielded
          simp only [hoj', Option.bind_some, ht']
          rw [Array.getD_eq_getD_getElem?] at e
          split
          · rename_i q hq
            rw [hq] at e
            simp at e
          · rfl
      · cases hg
    · cases hg
  · cases hg
theorem opK_ok {ih : Ih α} (hT : TabOK P T) (hih : IhOK P ih) {ops : Array Oper} {o : Oper} {x : XO} (ht : trOp P N ops.toList o = some x) {E : Env} {H : Heap} {c : Id} {k : Env → Heap → Id → Option α} {out : α} (h : opK T ih x E H c k = some out) :
    ∃ E' H' c', k E' H' c' = some out ∧ OpOK P N ops o E H c E' H' c' ∧
      ∀ d pp, x.a = .p pp → x.d = d → ∀ {w0 : World} {r : Ren} {a : Act} {w : World}, Inv N w0 r E H c a w → Region.wanted o (yielded ops a.tmps) = true → ∃ v, pp.ev E = some v := by
  unfold trOp at ht
  split at ht
  · rename_i g d A hg hd hA
    cases ht
    have act : ∀ {k : V → Heap → Id → Option α}, actK T ih A E H c k = some out → ∃ v H' c', k v H' c' = some out ∧ ∀ {w0 : World} {r : Ren} {a : Act} {w : World}, Inv N w0 r E H c a w → ∀ (K : Act → World → Prop) (Q : Exit → Act → World → Prop),
        (∀ r' a' w', r.le r' → Inv N w0 r' (setO d v E) H' c' a' w' → K a' w') → o.wp P a w K Q := by
      intro k h
      obtain ⟨v, H', c', h1, h2⟩ := actK_ok hT hih hA h
      exact ⟨v, H', c', h1, fun hi K Q hK => h2 hi.env hi.mem K Q fun r' z w' q1 q2 q3 => hK r' _ w' q1 (inv_put hi hd q1 q2 q3)⟩
    have pure : ∀ {k : V → Heap → Id → Option α}, actK T ih A E H c k = some out → ∀ pp, A = .p pp → ∃ v, pp.ev E = some v := by
      intro k h pp e
      subst e
      simp only [actK] at h
      rw [XP.K_eq] at h
      split at h
      · rename_i v hv; exact ⟨v, hv⟩
      · cases h
    have skip : ∀ (hno : ∀ {w0 : World} {r : Ren} {a : Act} {w : World}, Inv N w0 r E H c a w → ¬ Region.wanted o (yielded ops a.tmps) = true), setK d (.tu []) E (fun E => k E H c) = some out →
        ∃ E' H' c', k E' H' c' = some out ∧ OpOK P N ops o E H c E' H' c' ∧
          ∀ d' pp, A = .p pp → d = d' → ∀ {w0 : World} {r : Ren} {a : Act} {w : World}, Inv N w0 r E H c a w → Region.wanted o (yielded ops a.tmps) = true → ∃ v, pp.ev E = some v := by
      intro hno h'
      rw [setK_eq] at h'
      refine ⟨_, H, c, h', fun hi K Q hK => ?_, fun _ _ _ _ {_ _ _ _} hi hw => absurd hw (hno hi)⟩
      rw [if_neg (hno hi)]
      exact hK _ _ _ (Ren.le_refl _) (inv_put hi hd (Ren.le_refl _) (v := .tu []) ⟨[], rfl, rfl⟩ hi.mem)
    cases hgd : o.guard with
    | none =>
      rw [hgd] at hg
      simp only [trG, Option.some.injEq] at hg
      subst hg
      simp only [opK] at h
      obtain ⟨v, H', c', h1, h2⟩ := act h
      rw [setK_eq] at h1
      refine ⟨_, H', c', h1, fun hi K Q hK => ?_, fun _ pp e _ {_ _ _ _} _ _ => pure h pp e⟩
      rw [if_pos (by simp [Region.wanted, hgd])]
      exact h2 hi K Q hK
    | some gb =>
      obtain ⟨j, want⟩ := gb
      rw [hgd] at hg
      have hg' : ∃ i w', g = some (i, w') := by
        simp only [trG] at hg
        split at hg
        · split at hg
          · split at hg
            · cases hg; exact ⟨_, _, rfl⟩
            · cases hg
          · cases hg
        · cases hg
      obtain ⟨i, w', rfl⟩ := hg'
      obtain ⟨rfl, hy⟩ := guard_ok (N := N) hg
      simp only [opK] at h
      rw [get3K_eq] at h
      split at h
      · rename_i gv hgv
        split at h
        · rename_i b
          cases hw : (b == w') with
          | true =>
            rw [hw] at h
            obtain ⟨v, H', c', h1, h2⟩ := act h
            rw [setK_eq] at h1
            refine ⟨_, H', c', h1, fun hi K Q hK => ?_, fun _ pp e _ {_ _ _ _} _ _ => pure h pp e⟩
            rw [if_pos (by simp only [Region.wanted, hgd, (hy hi).1 b hgv]; simpa using hw)]
            exact h2 hi K Q hK
          | false =>
            rw [hw] at h
            exact skip (fun hi => by simp only [Region.wanted, hgd, (hy hi).1 b hgv]; simpa using hw) h
        · exact skip (fun hi => by simp only [Region.wanted, hgd, (hy hi).2 hgv]; simp) h
        · cases h
      · cases h
  · cases ht
/-- A region in its order. -/
theorem opsK_ok {ih : Ih α} (hT : TabOK P T) (hih : IhOK P ih) {ops : Array Oper} : ∀ {l : List Oper} {xs : List XO}, trOps P N ops.toList l = some xs → ∀ {E : Env} {H : Heap} {c : Id} {k : Env → Heap → Id → Option α} {out : α}, opsK T ih xs E H c k = some out →
    ∃ E' H' c', k E' H' c' = some out ∧ ∀ {w0 : World} {r : Ren} {a : Act} {w : World}, Inv N w0 r E H c a w → ∀ (Q : Exit → Act → World → Prop), (∀ r' a' w', r.le r' → Inv N w0 r' E' H' c' a' w' → Q .normal a' w') → wpList P ops Q l a w
  | [], xs, ht, E, H, c, k, out, h => by
    simp only [trOps, Option.some.injEq] at ht
    subst ht
    exact ⟨E, H, c, h, fun hi Q hQ => hQ _ _ _ (Ren.le_refl _) hi⟩
  | o :: l, xs, ht, E, H, c, k, out, h => by
    simp only [trOps] at ht
    split at ht
    · rename_i x hx
      split at ht
      · rename_i m hm
        cases ht
        have h' : opK T ih x E H c (fun E H c => opsK T ih m E H c k) = some out := h
        obtain ⟨E1, H1, c1, h1, h2, _⟩ := opK_ok hT hih hx h'
        obtain ⟨E2, H2, c2, h3, h4⟩ := opsK_ok hT hih hm h1
        refine ⟨E2, H2, c2, h3, fun hi Q hQ => ?_⟩
        have h5 := h2 hi (wpList P ops Q l) Q (fun r' a' w' q1 q2 => h4 q2 Q fun r'' a'' w'' q3 q4 => hQ r'' a'' w'' (q1.trans q3) q4)
        unfold wpList
        split
        · rename_i hw; rw [if_pos hw] at h5; exact .inl h5
        · rename_i hw; rw [if_neg hw] at h5; exact h5
      · cases ht
    · cases ht
/-! a region that draws -/
theorem same_eq {E1 E2 : Env} {H1 H2 : Heap} {c1 c2 : Id} (h : (Tr.same V.same E1 E2 && Tr.same O.same H1 H2 && Nat.beq c1.nat c2.nat) = true) : E1 = E2 ∧ H1 = H2 ∧ c1 = c2 := by
  simp only [Bool.and_eq_true] at h
  exact ⟨Tr.same_eq (fun _ _ => V.same_eq) h.1.1, Tr.same_eq (fun _ _ => O.same_eq) h.1.2, Id.inj (beq_nat h.2)⟩
def PlanOK (P : Program) (N : Nat) (ops : Array Oper) (f : Nat) (listed : Array Bool) (E : Env) (H : Heap) (c : Id) (E' : Env) (H' : Heap) (c' : Id) : Prop :=
  ∀ {w0 : World} {r : Ren} {a : Act} {w : World}, Inv N w0 r E H c a w → ∀ (Q : Exit → Act → World → Prop), (∀ ch a w, ¬ Q (.panic ch) a w) → (∀ r' a' w', r.le r' → Inv N w0 r' E' H' c' a' w' → Q .normal a' w') → wpAny P .any ops Q f listed a w
def StepOK (P : Program) (N : Nat) (ops : Array Oper) (f : Nat) (listed : Array Bool) (i : Nat) (E : Env) (H : Heap) (c : Id) (E' : Env) (H' : Heap) (c' : Id) : Prop :=
  ∀ {w0 : World} {r : Ren} {a : Act} {w : World}, Inv N w0 r E H c a w → ∀ (Q : Exit → Act → World → Prop), (∀ ch a w, ¬ Q (.panic ch) a w) → (∀ r' a' w', r.le r' → Inv N w0 r' E' H' c' a' w' → Q .normal a' w') → wpOp P ops Q i (wpAny P .any ops Q f (listed.setIfInBounds i true)) a w
theorem planK_step (ih : Ih α) (o : XO) (p : Plan) (E : Env) (H : Heap) (c : Id) (k : Env → Heap → Id → Option α) : planK T ih (.step o p) E H c k = opK T ih o E H c fun E H c => planK T ih p E H c k := rfl
theorem planK_alt (ih : Ih α) (p q : Plan) (E : Env) (H : Heap) (c : Id) (k : Env → Heap → Id → Option α) : planK T ih (.alt p q) E H c k = planK T ih p E H c fun E1 H1 c1 => planK T ih q E H c fun E2 H2 c2 => Bool.rec none (k E1 H1 c1) (Tr.same V.same E1 E2 && Tr.same O.same H1 H2 && Nat.beq c1.nat c2.nat) := rfl
theorem alts_ok {ih : Ih α} {ops : Array Oper} {f : Nat} {listed : Array Bool} {g : Nat → Option Plan} (hg : ∀ i p, g i = some p → ∀ {E : Env} {H : Heap} {c : Id} {k : Env → Heap → Id → Option α} {out : α}, planK T ih p E H c k = some out → ∃ E' H' c', k E' H' c' = some out ∧ StepOK P N ops f listed i E H c E' H' c') :
    ∀ {rs : List Nat} {p : Plan}, planOf.alts g rs = some p → ∀ {E : Env} {H : Heap} {c : Id} {k : Env → Heap → Id → Option α} {out : α}, planK T ih p E H c k = some out → ∃ E' H' c', k E' H' c' = some out ∧ (rs = [] → E' = E ∧ H' = H ∧ c' = c) ∧ ∀ i ∈ rs, StepOK P N ops f listed i E H c E' H' c'
  | [], p, hp, E, H, c, k, out, h => by
    simp only [planOf.alts, Option.some.injEq] at hp
    subst hp
    exact ⟨E, H, c, h, fun _ => ⟨rfl, rfl, rfl⟩, fun i hi => by cases hi⟩
  | [i], p, hp, E, H, c, k, out, h => by
    simp only [planOf.alts] at hp
    obtain ⟨E', H', c', h1, h2⟩ := hg i p hp h
    exact ⟨E', H', c', h1, (fun e => by cases e), fun j hj => by simp at hj; subst hj; exact h2⟩
  | i :: j :: l, p, hp, E, H, c, k, out, h => by
    simp only [planOf.alts] at hp
    split at hp
    · rename_i p1 q1 hp1 hq1
      cases hp
      rw [planK_alt] at h
      obtain ⟨E1, H1, c1, h1, h2⟩ := hg i p1 hp1 h
      obtain ⟨E2, H2, c2, h3, _, h4⟩ := alts_ok hg (by simpa only [planOf.alts] using hq1) h1
      cases hs : (Tr.same V.same E1 E2 && Tr.same O.same H1 H2 && Nat.beq c1.nat c2.nat) with
      | false => rw [hs] at h3; cases h3
      | true =>
        rw [hs] at h3
        obtain ⟨rfl, rfl, rfl⟩ := same_eq hs
        refine ⟨E1, H1, c1, h3, (fun e => by cases e), fun q hq => ?_⟩
        rcases List.mem_cons.1 hq with rfl | hq
        · exact h2
        · exact h4 q hq
    · cases hp
theorem planK_ok {ih : Ih α} (hT : TabOK P T) (hih : IhOK P ih) {ops : Array Oper} (hsel : Region.noSelect ops = true) : ∀ {f : Nat} {listed : Array Bool} {p : Plan}, planOf P N ops f listed = some p → ∀ {E : Env} {H : Heap} {c : Id} {k : Env → Heap → Id → Option α} {out : α}, planK T ih p E H c k = some out →
    ∃ E' H' c', k E' H' c' = some out ∧ PlanOK P N ops f listed E H c E' H' c'
  | 0, listed, p, hp, E, H, c, k, out, h => by
    simp only [planOf] at hp
    split at hp
    · rename_i hr
      cases hp
      exact ⟨E, H, c, h, fun hi Q _ hQ => ⟨hr, hQ _ _ _ (Ren.le_refl _) hi⟩⟩
    · cases hp
  | f + 1, listed, p, hp, E, H, c, k, out, h => by
    have hg : ∀ i p, (match ops[i]? with
      | some o => (match trOp P N ops.toList o, planOf P N ops f (listed.setIfInBounds i true) with | some x, some p => some (Plan.step x p) | _, _ => none)
      | none => none) = some p → ∀ {E : Env} {H : Heap} {c : Id} {k : Env → Heap → Id → Option α} {out : α}, planK T ih p E H c k = some out → ∃ E' H' c', k E' H' c' = some out ∧ StepOK P N ops f listed i E H c E' H' c' := by
      intro i p hp E H c k out h
      split at hp
      · rename_i o ho
        split at hp
        · rename_i x q hx hq
          cases hp
          rw [planK_step] at h
          obtain ⟨E1, H1, c1, h1, h2, _⟩ := opK_ok hT hih hx h
          obtain ⟨E2, H2, c2, h3, h4⟩ := planK_ok hT hih hsel hq h1
          refine ⟨E2, H2, c2, h3, fun hi Q hQ hn => ?_⟩
          have h5 := h2 hi (wpAny P .any ops Q f (listed.setIfInBounds i true)) Q (fun r' a' w' q1 q2 => h4 q2 Q hQ fun r'' a'' w'' q3 q4 => hn r'' a'' w'' (q1.trans q3) q4)
          unfold wpOp
          simp only [ho]
          split
          · rename_i hw; rw [if_pos hw] at h5; exact .inl h5
          · rename_i hw; rw [if_neg hw] at h5; exact h5
        · cases hp
      · cases hp
    simp only [planOf] at hp
    split at hp
    · rename_i i hfind
      have hmem := List.mem_of_find?_eq_some hfind
      have hprop := List.find?_some hfind
      simp only [Bool.and_eq_true] at hprop
      obtain ⟨hpp, hfree⟩ := hprop
      split at hp
      · rename_i o ho
        split at hp
        · rename_i x q hx hq
          cases hp
          rw [ho] at hpp
          simp only [hx] at hpp
          rw [planK_step] at h
          -- an operation that only computes
          have hx' := hx
          unfold trOp at hx
          split at hx
          · rename_i g d A hgd hd hA
            cases hx
            cases d with
            | none => simp [isP] at hpp
            | some d =>
              cases A with
              | p pp =>
                rcases XM.noXA hA with ⟨pp', hpe, hpt⟩ | ⟨_, e, _⟩ | ⟨_, _, _, _, _, _, _, _, e⟩ | ⟨_, _, _, _, _, _, _, _, e⟩
                · cases hpe
                  obtain ⟨E1, H1, c1, h1, h2, hpure⟩ := opK_ok hT hih hx' h
                  obtain ⟨E2, H2, c2, h3, h4⟩ := planK_ok hT hih hsel hq h1
                  refine ⟨E2, H2, c2, h3, fun {w0 r a w} hi Q hQ hn => ?_⟩
                  have h5 := h2 hi (fun a' w' => wpAny P .any ops Q f (listed.setIfInBounds i true) a' w') Q (fun r' a' w' q1 q2 => h4 q2 Q hQ fun r'' a'' w'' q3 q4 => hn r'' a'' w'' (q1.trans q3) q4)
                  have hrd : (Region.ready .any ops listed).contains i = true := by simpa using hmem
                  cases hw : Region.wanted o (yielded ops a.tmps) with
                  | true =>
                    rw [if_pos hw] at h5
                    -- its value
                    have hval : ∃ z, ∀ w, (execOp a.eval o).run P w = .ok (.value z) w := by
                      obtain ⟨v, hv⟩ := hpure _ pp rfl rfl hi hw
                      obtain ⟨z, _, z2⟩ := trP_ok hpt hi.env hv
                      exact ⟨z, z2 o rfl⟩
                    obtain ⟨z, hz⟩ := hval
                    refine wpAny_take (v := z) ho hsel hfree hrd (fun ch a w hq => absurd hq (hQ ch _ w)) (.inl ⟨hw, hz⟩) ?_
                    unfold Oper.wp at h5
                    rw [hz] at h5
                    exact h5
                  | false =>
                    rw [if_neg (by rw [hw]; simp)] at h5
                    exact wpAny_take (v := undef) ho hsel hfree hrd (fun ch a w hq => absurd hq (hQ ch _ w)) (.inr ⟨hw, rfl⟩) h5
                · cases e
                · cases e
                · cases e
              | _ => simp [isP] at hpp
          · cases hx
        · cases hp
      · cases hp
    · obtain ⟨E', H', c', h1, h2, h3⟩ := alts_ok (P := P) (N := N) (ops := ops) (f := f) (listed := listed) hg hp h
      refine ⟨E', H', c', h1, fun hi Q hQ hn => ?_⟩
      cases hr : Region.ready .any ops listed with
      | nil =>
        rw [hr] at h2
        obtain ⟨rfl, rfl, rfl⟩ := h2 rfl
        exact wpAny_done hr (hn _ _ _ (Ren.le_refl _) hi) _
      | cons i l =>
        refine wpAny_all hr (by simp) fun j hj => ?_
        rw [hr] at h3
        exact h3 j hj hi Q hQ hn
/-! code -/
theorem rounds_mono {c : Code} {Q Q' : Exit → Act → World → Prop} (hq : ∀ e a w, Q e a w → Q' e a w) : ∀ {n : Nat} {a : Act} {w : World}, Code.rounds P c Q n a w → Code.rounds P c Q' n a w
  | 0, _, _, h => h
  | n + 1, a, w, h => by
    rw [rounds_succ] at h ⊢
    exact wp_mono h fun e a w q => by
      cases e with
      | normal => exact rounds_mono hq q
      | _ => exact hq _ _ _ q
def LoopOK (P : Program) (ih : Ih α) : Prop := ∀ {N : Nat} {c : Code} {x : X}, tr P N c = some x → ∀ {E : Env} {H : Heap} {id : Id} {k : Ex → Env → Heap → Id → Option α} {out : α}, ih (.loop x) E H id k = some out →
  ∃ e E' H' c' m, k e E' H' c' = some out ∧ ∀ {w0 : World} {r : Ren} {a : Act} {w : World}, Inv N w0 r E H id a w → Code.rounds P c (Post N w0 r e E' H' c') m a w
theorem Post.mono {w0 : World} {r r1 : Ren} {e : Ex} {E' : Env} {H' : Heap} {c' : Id} (h : r.le r1) {ex : Exit} {a : Act} {w : World} (hp : Post N w0 r1 e E' H' c' ex a w) : Post N w0 r e E' H' c' ex a w := by
  obtain ⟨h1, r', h2, h3⟩ := hp
  exact ⟨h1, r', h.trans h2, h3⟩
theorem stepK_ok {ih : Ih α} (hT : TabOK P T) (hih : IhOK P ih) (hlo : LoopOK P ih) : IhOK P (stepK T ih) ∧ LoopOK P (stepK T ih) := by
  have lo : LoopOK P (stepK T ih) := by
    intro N c x ht E H id k out h
    have h' : ih x E H id (fun e E H c => Ex.casesOn e (ih (.loop x) E H c k) (fun id => k (.x id) E H c) (k .r E H c)) = some out := h
    obtain ⟨e, E1, H1, c1, h1, h2⟩ := hih ht h'
    cases e with
    | n =>
      obtain ⟨e, E2, H2, c2, m, h3, h4⟩ := hlo ht h1
      refine ⟨e, E2, H2, c2, m + 1, h3, fun hi => ?_⟩
      rw [rounds_succ]
      refine wp_mono (h2 hi) ?_
      rintro ex a' w' ⟨rfl, r1, hr1, hi1⟩
      exact rounds_mono (fun _ _ _ q => Post.mono hr1 q) (h4 hi1)
    | x j =>
      refine ⟨.x j, E1, H1, c1, 1, h1, fun hi => ?_⟩
      rw [rounds_succ]
      refine wp_mono (h2 hi) ?_
      rintro ex a' w' ⟨rfl, q⟩
      exact ⟨rfl, q⟩
    | r =>
      refine ⟨.r, E1, H1, c1, 1, h1, fun hi => ?_⟩
      rw [rounds_succ]
      refine wp_mono (h2 hi) ?_
      rintro ex a' w' ⟨rfl, q⟩
      exact ⟨rfl, q⟩
  refine ⟨?_, lo⟩
  intro N c x ht E H id k out h
  cases c with
  | skip =>
    simp only [tr, Option.some.injEq] at ht; subst ht
    exact ⟨.n, E, H, id, h, fun hi => wp_skip ⟨rfl, _, Ren.le_refl _, hi⟩⟩
  | ret =>
    simp only [tr, Option.some.injEq] at ht; subst ht
    exact ⟨.r, E, H, id, h, fun hi => wp_ret ⟨rfl, _, Ren.le_refl _, hi⟩⟩
  | exit j =>
    simp only [tr, Option.some.injEq] at ht; subst ht
    exact ⟨.x j, E, H, id, h, fun hi => wp_exit ⟨rfl, _, Ren.le_refl _, hi⟩⟩
  | label l =>
    simp only [tr, Option.some.injEq] at ht; subst ht
    exact ⟨.n, E, H, id, h, fun hi => wp_label ⟨rfl, _, Ren.le_refl _, hi⟩⟩
  | seq c1 c2 =>
    simp only [tr] at ht
    split at ht
    · rename_i x1 x2 ht1 ht2
      cases ht
      have h' : ih x1 E H id (fun e E H c => Ex.casesOn e (ih x2 E H c k) (fun id => k (.x id) E H c) (k .r E H c)) = some out := h
      obtain ⟨e, E1, H1, c1', h1, h2⟩ := hih ht1 h'
      cases e with
      | n =>
        obtain ⟨e, E2, H2, c2', h3, h4⟩ := hih ht2 h1
        refine ⟨e, E2, H2, c2', h3, fun hi => wp_seq (wp_mono (h2 hi) ?_)⟩
        rintro ex a' w' ⟨rfl, r1, hr1, hi1⟩
        exact wp_mono (h4 hi1) fun _ _ _ q => Post.mono hr1 q
      | x j =>
        refine ⟨.x j, E1, H1, c1', h1, fun hi => wp_seq (wp_mono (h2 hi) ?_)⟩
        rintro ex a' w' ⟨rfl, q⟩
        exact ⟨rfl, q⟩
      | r =>
        refine ⟨.r, E1, H1, c1', h1, fun hi => wp_seq (wp_mono (h2 hi) ?_)⟩
        rintro ex a' w' ⟨rfl, q⟩
        exact ⟨rfl, q⟩
    · cases ht
  | cond cd c1 c2 =>
    simp only [tr] at ht
    split at ht
    · rename_i X x1 x2 hX ht1 ht2
      cases ht
      have h' : X.K E (fun v => match v with | .b b' => Bool.rec (ih x2 E H id k) (ih x1 E H id k) b' | _ => none) none = some out := h
      rw [XV.K_eq] at h'
      split at h'
      · rename_i v hv
        split at h'
        · rename_i b
          cases b with
          | true =>
            obtain ⟨e, E1, H1, c1', h1, h2⟩ := hih ht1 h'
            exact ⟨e, E1, H1, c1', h1, fun hi => wp_cond_true (trV_vr hX hi.env hv) (h2 hi)⟩
          | false =>
            obtain ⟨e, E1, H1, c1', h1, h2⟩ := hih ht2 h'
            exact ⟨e, E1, H1, c1', h1, fun hi => wp_cond_false (trV_vr hX hi.env hv) (h2 hi)⟩
        · cases h'
      · cases h'
    · cases ht
  | block j c1 =>
    simp only [tr] at ht
    split at ht
    · rename_i x1 ht1
      cases ht
      have h' : ih x1 E H id (fun e E H c => Ex.casesOn e (k .n E H c) (fun i => Bool.rec (k (.x i) E H c) (k .n E H c) (Nat.beq i j)) (k .r E H c)) = some out := h
      obtain ⟨e, E1, H1, c1', h1, h2⟩ := hih ht1 h'
      cases e with
      | n =>
        refine ⟨.n, E1, H1, c1', h1, fun hi => wp_block (wp_mono (h2 hi) ?_)⟩
        rintro ex a' w' ⟨rfl, q⟩
        exact ⟨rfl, q⟩
      | r =>
        refine ⟨.r, E1, H1, c1', h1, fun hi => wp_block (wp_mono (h2 hi) ?_)⟩
        rintro ex a' w' ⟨rfl, q⟩
        exact ⟨rfl, q⟩
      | x i =>
        cases hb : Nat.beq i j with
        | true =>
          simp only [hb] at h1
          have hij := Nat.eq_of_beq_eq_true hb
          subst hij
          refine ⟨.n, E1, H1, c1', h1, fun hi => wp_block (wp_mono (h2 hi) ?_)⟩
          rintro ex a' w' ⟨rfl, q⟩
          simp only [exOf, Exit.inBlock, if_true]
          exact ⟨rfl, q⟩
        | false =>
          simp only [hb] at h1
          have hij : i ≠ j := Nat.ne_of_beq_eq_false hb
          refine ⟨.x i, E1, H1, c1', h1, fun hi => wp_block (wp_mono (h2 hi) ?_)⟩
          rintro ex a' w' ⟨rfl, q⟩
          simp only [exOf, Exit.inBlock, if_neg hij]
          exact ⟨rfl, q⟩
    · cases ht
  | loop c1 =>
    simp only [tr] at ht
    split at ht
    · rename_i x1 ht1
      cases ht
      obtain ⟨e, E1, H1, c1', m, h1, h2⟩ := lo ht1 h
      exact ⟨e, E1, H1, c1', h1, fun hi => wp_loop_rounds m (h2 hi)⟩
    · cases ht
  | region rid ops draw =>
    cases draw with
    | false =>
      simp only [tr] at ht
      split at ht
      · rename_i l hl
        cases ht
        have h' : opsK T ih l E H id (fun E H c => k .n E H c) = some out := h
        obtain ⟨E1, H1, c1, h1, h2⟩ := opsK_ok hT hih hl h'
        exact ⟨.n, E1, H1, c1, h1, fun hi => wp_region_list (h2 hi _ fun r' a' w' q1 q2 => ⟨rfl, r', q1, q2⟩)⟩
      · cases ht
    | true =>
      simp only [tr] at ht
      cases hb : (P.follows .mixedOrders && Region.noSelect ops) with
      | false => rw [hb] at ht; cases ht
      | true =>
        rw [hb] at ht
        simp only [Bool.and_eq_true] at hb
        simp only [cond_true] at ht
        split at ht
        · rename_i p hp
          cases ht
          have h' : planK T ih p E H id (fun E H c => k .n E H c) = some out := h
          obtain ⟨E1, H1, c1, h1, h2⟩ := planK_ok hT hih hb.2 hp h'
          refine ⟨.n, E1, H1, c1, h1, fun {w0 r a w} hi => wp_region_any hb.1 (h2 (w := { w with drawn := w.drawn + 1 }) ⟨hi.size, hi.defers, hi.env, ?_⟩ _ (fun ch a w q => by cases q.1) fun r' a' w' q1 q2 => ⟨rfl, r', q1, q2⟩)⟩
          exact ⟨hi.mem.os, hi.mem.tape, hi.mem.output, hi.mem.old, hi.mem.size, hi.mem.obj, hi.mem.inj, hi.mem.fresh, hi.mem.freshH⟩
        · cases ht
  | _ => simp only [tr, reduceCtorEq] at ht
theorem run_ok (hT : TabOK P T) : ∀ n, IhOK P (run (α := α) T n) ∧ LoopOK P (run (α := α) T n)
  | 0 => ⟨(fun _ _ _ _ _ _ h => by cases h), (fun _ _ _ _ _ _ h => by cases h)⟩
  | n + 1 => stepK_ok hT (run_ok hT n).1 (run_ok hT n).2
/-! tables -/
def D8.all : List D8 := [.a, .b, .c, .d, .e, .f, .g, .h]
theorem D8.mem_all (x : D8) : x ∈ D8.all := by cases x <;> simp [D8.all]
def leaves {β : Type} (t : Tr β) : List (Ix × β) := D8.all.flatMap fun x => D8.all.flatMap fun y => D8.all.filterMap fun z => match (((t.at x).at y).at z).val with | some v => some (⟨x, y, z⟩, v) | none => none
theorem mem_leaves {β : Type} {t : Tr β} {i : Ix} {e : β} (h : get3 t i = some e) : (i, e) ∈ leaves t := by
  obtain ⟨x, y, z⟩ := i
  simp only [leaves, List.mem_flatMap, List.mem_filterMap]
  refine ⟨x, x.mem_all, y, y.mem_all, z, z.mem_all, ?_⟩
  simp only [get3] at h
  rw [h]
def AllOK (P : Program) : List (Ix × Ent) → Prop
  | [] => True
  | (i, e) :: l => EntOK P i.nat e ∧ AllOK P l
theorem AllOK.cons {i : Ix} {e : Ent} {n : Nat} {fn : Func} {l : List (Ix × Ent)} (hn : i.nat = n) (hf : P.funcs[n]? = some fn) (hx : trF P fn = some e) (h : AllOK P l) : AllOK P ((i, e) :: l) := ⟨by rw [hn]; exact entOK_body hf hx, h⟩
theorem AllOK.get : ∀ {l : List (Ix × Ent)}, AllOK P l → ∀ {i : Ix} {e : Ent}, (i, e) ∈ l → EntOK P i.nat e
  | (j, e') :: l, ⟨h1, h2⟩, i, e, hm => by
    rcases List.mem_cons.1 hm with h | h
    · cases h; exact h1
    · exact AllOK.get h2 h
theorem tab_of {l : List (Ix × Ent)} (hl : leaves T = l) (h : AllOK P l) : TabOK P T := fun f e hf => by
  subst hl
  exact h.get (mem_leaves hf)
/-- Where names begin. -/
def id0 : Ev.Id := ⟨.a, .a, .a, .a, .a⟩
/-- **A call that the evaluator carries out.** -/
theorem call_ok (hT : TabOK P T) (n : Nat) {f : Ix} {args : List V} {v : V} {H : Heap} {c : Id} (h : callK (α := V × Heap × Id) T (run T n) f args .mt id0 (fun v H c => some (v, H, c)) = some (v, H, c)) :
    CallOK P f.nat args .mt id0 v H c := by
  obtain ⟨_, v', H', c', h1, h2⟩ := callK_ok hT (run_ok hT n).1 h
  simp only [Option.some.injEq, Prod.mk.injEq] at h1
  obtain ⟨rfl, rfl, rfl⟩ := h1
  exact h2
/-- .. where only the value matters, and it has no pointers: what was there stays. -/
theorem call_val (hT : TabOK P T) (n : Nat) {f : Ix} {args : List V} {v : V} (h : callK (α := V) T (run T n) f args .mt id0 (fun v _ _ => some v) = some v) :
    ∀ w (args' : List Value), VRs (fun _ => none) args args' → Calls P f.nat args'.toArray w fun e w' => ∃ z r, e = .returned z ∧ VR r v z ∧ w'.os = w.os ∧ w'.tape = w.tape ∧ w'.output = w.output ∧ w.heap.size ≤ w'.heap.size ∧ ∀ k, k < w.heap.size → w'.heap[k]? = w.heap[k]? := by
  intro w args' ha
  obtain ⟨_, v', H', c', h1, h2⟩ := callK_ok hT (run_ok hT n).1 h
  cases h1
  refine (h2 w (fun _ => none) w args' ha ⟨rfl, rfl, rfl, fun _ _ => rfl, Nat.le_refl _, fun i o h => by simp [get5, Tr.at, Tr.val] at h, fun i j o o' b n n' h => by simp [get5, Tr.at, Tr.val] at h, fun _ _ => rfl, fun i _ => by simp [get5, Tr.at, Tr.val]⟩).mono ?_
  rintro e w' ⟨r', z, rfl, _, hv, hr⟩
  exact ⟨z, r', rfl, hv, hr.os, hr.tape, hr.output, hr.size, hr.old⟩
theorem _root_.Go.TL.Holds.grow {I : Imm} {L : OL} {w w' : World} (h : Holds I L w) (hos : w'.os = w.os) (ht : w'.tape = w.tape) (hout : w'.output = w.output) (hold : ∀ k, k < w.heap.size → w'.heap[k]? = w.heap[k]?) : Holds I L w' :=
  ⟨hos.trans h.os, ht.trans h.tape, hout.trans h.output, fun k o e => (hold k (lt_of_heap (h.imm k o e))).trans (h.imm k o e), fun x hx => (hold x.1 (lt_of_heap (h.own x hx))).trans (h.own x hx), h.nd, h.dj⟩
/-- .. as a contract. -/
theorem pat_call (hT : TabOK P T) (n : Nat) {f : Ix} {args : List V} {v : V} {fn : Nat} {z : Value} {vs : List Value} {I : Imm} (h : callK (α := V) T (run T n) f args .mt id0 (fun v _ _ => some v) = some v) (hf : f.nat = fn) (ha : VRs (fun _ => none) args vs) (hz : ∀ r y, VR r v y → y = z) : PAt P I fn vs z := fun L w hw => by
  subst hf
  exact (call_val hT n h w vs ha).mono fun e w' ⟨y, r, he, hv, h1, h2, h3, h4, h5⟩ => by
    rw [hz r y hv] at he
    exact ⟨he, hw.grow h1 h2 h3 h5⟩
end
end Go.Ev
