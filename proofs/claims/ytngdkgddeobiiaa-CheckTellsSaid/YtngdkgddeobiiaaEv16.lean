/- The evaluator is right: operations, calls, regions, code. No program is named here. -/
import Derived.Test.YtngdkgddeobiiaaEv15
namespace Go.Ev
open Go Go.TL

structure Inv (N : Nat) (w0 : World) (r : Ren) (E : Env) (H : Heap) (c : Id) (a : Act) (w : World) : Prop where
  size : a.tmps.size = N
  defers : a.defers = []
  env : RE r E a
  mem : RH w0 r H c w
/-- A call that comes to this. -/
def CallOK (P : Program) (f : Nat) (args : List V) (H : Heap) (c : Id) (v : V) (H' : Heap) (c' : Id) : Prop :=
  ∀ w0 r w (args' : List Value), VRs r args args' → RH w0 r H c w → Calls P f args'.toArray w fun e w' => ∃ r' z, e = .returned z ∧ r.le r' ∧ VR r' v z ∧ RH w0 r' H' c' w'
structure EntOK (P : Program) (f : Nat) (e : Ent) : Prop where
  enters : Enters P f
  body : ∀ prm x res, e = .body prm x res → ∃ fn, P.funcs[f]? = some fn ∧ trF P fn = some e
  prim : ∀ g, e = .prim g → ∀ args H c v H' c', g args H c = some (v, H', c') → CallOK P f args H c v H' c'
def TabOK (P : Program) (T : Tr Ent) : Prop := ∀ f e, get3 T f = some e → EntOK P f.nat e
theorem enters_of {P : Program} {f : Nat} {fn : Func} {e : Ent} (hf : P.funcs[f]? = some fn) (h : trF P fn = some e) : Enters P f := fun args w => by
  unfold trF at h
  split at h
  · rename_i c hc
    cases hb : (Nat.ble (fn.params.size + fn.nfree) fn.ntmps && !(fn.name == "runtime.NumGoroutine")) with
    | false => rw [hb] at h; cases h
    | true =>
      simp only [Bool.and_eq_true, Bool.not_eq_true'] at hb
      have hn : (fn.name == "runtime.NumGoroutine") = false := hb.2
      have hn' : ¬ fn.name = "runtime.NumGoroutine" := by simpa using hn
      simp [callFunc, hf, hn', hc]
  · cases h
theorem entOK_body {P : Program} {f : Nat} {fn : Func} {e : Ent} (hf : P.funcs[f]? = some fn) (h : trF P fn = some e) : EntOK P f e := by
  refine ⟨enters_of hf h, fun _ _ _ _ => ⟨fn, hf, h⟩, fun g hg => ?_⟩
  exfalso
  subst hg
  unfold trF at h
  split at h
  · cases hb : (Nat.ble (fn.params.size + fn.nfree) fn.ntmps && !(fn.name == "runtime.NumGoroutine")) with
    | false => rw [hb] at h; cases h
    | true =>
      rw [hb] at h
      simp only [cond_true] at h
      split at h <;> cases h
  · cases h

section
variable {P : Program} {T : Tr Ent} {α : Type} {N : Nat}
/-- What a piece of code comes to. -/
def exOf : Ex → Exit | .n => .normal | .x id => .exit id | .r => .ret
def Post (N : Nat) (w0 : World) (r : Ren) (e : Ex) (E' : Env) (H' : Heap) (c' : Id) : Exit → Act → World → Prop := fun ex a' w' => ex = exOf e ∧ ∃ r', r.le r' ∧ Inv N w0 r' E' H' c' a' w'
/-- The evaluator of code is right. -/
def IhOK (P : Program) (ih : Ih α) : Prop := ∀ {N : Nat} {c : Code} {x : X}, tr P N c = some x → ∀ {E : Env} {H : Heap} {id : Id} {k : Ex → Env → Heap → Id → Option α} {out : α}, ih x E H id k = some out →
  ∃ e E' H' c', k e E' H' c' = some out ∧ ∀ {w0 : World} {r : Ren} {a : Act} {w : World}, Inv N w0 r E H id a w → c.wp P (Post N w0 r e E' H' c') a w

/-! calls -/
theorem bindR_ok {k : Env → Option α} {out : α} : ∀ {prm : List Ix} {args : List V} {E : Env}, bindR k prm args E = some out →
    ∃ E', k E' = some out ∧ prm.length = args.length ∧ ∀ i v, get3 E' i = some v → (∃ j : Nat, prm[j]? = some i ∧ args[j]? = some v) ∨ get3 E i = some v
  | [], [], E, h => ⟨E, h, rfl, fun i v hv => .inr hv⟩
  | [], _ :: _, E, h => by cases h
  | i :: prm, [], E, h => by cases h
  | i :: prm, v :: args, E, h => by
    have h' : set3K E i v (fun E => bindR k prm args E) = some out := h
    rw [set3K_eq] at h'
    obtain ⟨E', h1, h2, h3⟩ := bindR_ok h'
    refine ⟨E', h1, by simp [h2], fun j u hj => ?_⟩
    rcases h3 j u hj with ⟨q, q1, q2⟩ | h4
    · exact .inl ⟨q + 1, by simpa using q1, by simpa using q2⟩
    · rw [get3_set3] at h4
      by_cases e : i = j
      · subst e
        simp only [if_true, Option.some.injEq] at h4
        subst h4
        exact .inl ⟨0, rfl, rfl⟩
      · rw [if_neg e] at h4; exact .inr h4
theorem ixs_get : ∀ {n k : Nat} {l : List Ix}, ixs k n = some l → l.length = n ∧ ∀ (j : Nat) i, l[j]? = some i → i.nat = k + j
  | 0, k, l, h => by simp only [ixs, Option.some.injEq] at h; subst h; exact ⟨rfl, fun j i hj => by simp at hj⟩
  | n + 1, k, l, h => by
    simp only [ixs] at h
    split at h
    · rename_i i l' hi hl
      cases h
      obtain ⟨h1, h2⟩ := ixs_get hl
      refine ⟨by simp [h1], fun j i' hj => ?_⟩
      cases j with
      | zero => simp at hj; subst hj; rw [ixOf_nat hi]; rfl
      | succ j => simp at hj; rw [h2 j i' hj]; omega
    · cases h
/-- One result. -/
def resV (E : Env) (H : Heap) : XR → Option V
  | .t i => get3 E i
  | .c agg n i => match get3 E i with
    | some v => (match at5 H v with | some (_, off, _, cs) => partV agg off n cs | none => none)
    | none => none
theorem resV_ok {E : Env} {H : Heap} {c : Id} {w0 : World} {r : Ren} {a : Act} {w : World} {rv : ResultVar} {x : XR} {v : V} (ht : trR P [rv] = some [x]) (hi : Inv N w0 r E H c a w) (hv : resV E H x = some v) : ∃ z, VR r v z ∧ (rdRes a.tmps rv).run P w = .ok z w := by
  cases rv with
  | tmp t =>
    simp only [trR] at ht
    split at ht
    · rename_i i m hix _
      cases ht
      simp only [resV] at hv
      have := hi.env i v hv
      rw [ixOf_nat hix] at this
      exact ⟨_, this, by simp [rdRes]⟩
    · cases ht
  | cell q t =>
    simp only [trR] at ht
    split at ht
    · rename_i i agg n m hix hty _
      cases ht
      simp only [resV] at hv
      split at hv
      · rename_i pv hp
        split at hv
        · rename_i j off o cs hat
          have hpv := hi.env i pv hp
          rw [ixOf_nat hix] at hpv
          obtain ⟨b, m', tt, vs, ex, e1, e2, e3, e4, e5, e6, e7, e8⟩ := hi.mem.at hpv hat
          have hp' := tyN_ok hty
          cases agg with
          | true =>
            simp only [partV] at hv
            split at hv
            · rename_i l hl
              cases hv
              rw [dropL_eq] at hl
              obtain ⟨rfl, hlen⟩ := takeL_eq hl
              have hvs := (e7.drop off).take n
              have hlen' : ((vs.drop off).take n).length = n := by rw [← hvs.len, List.length_take]; omega
              have hc := run_loadCellsFrom_of (P := P) (w := w) (a := ⟨b, off, none⟩) ((vs.drop off).take n) 0 #[] (fun j u hj => by
                rw [Nat.zero_add, addr_at]
                refine cell_of e6 ?_
                rw [List.getElem?_take] at hj
                split at hj
                · simpa using hj
                · cases hj)
              rw [hlen'] at hc
              refine ⟨.agg ((vs.drop off).take n).toArray, ⟨_, rfl, hvs⟩, ?_⟩
              simp only [rdRes, e1, asAddr, Sem.run_bind, Sem.run_pure, Result.andThen_ok, loadVar, hp'.agg, if_true, hp'.size, loadCells, hc, Array.empty_append]
            · cases hv
          | false =>
            simp only [partV, getL_eq] at hv
            obtain ⟨z, hz, hvz⟩ := e7.get hv
            refine ⟨z, hvz, ?_⟩
            simp only [rdRes, e1, asAddr, Sem.run_bind, Sem.run_pure, Result.andThen_ok, loadVar, hp'.agg, Bool.false_eq_true, if_false, run_load, cell_of e6 hz]
        · cases hv
      · cases hv
    · cases ht
theorem trR_cons {rv : ResultVar} {rs : List ResultVar} {l : List XR} (h : trR P (rv :: rs) = some l) : ∃ x m, l = x :: m ∧ trR P [rv] = some [x] ∧ trR P rs = some m := by
  cases rv with
  | tmp t =>
    simp only [trR] at h
    split at h
    · rename_i i m h1 h2; cases h; exact ⟨_, m, rfl, by simp [trR, h1], h2⟩
    · cases h
  | cell q t =>
    simp only [trR] at h
    split at h
    · rename_i i agg n m h1 h2 h3; cases h; exact ⟨_, m, rfl, by simp [trR, h1, h2], h3⟩
    · cases h
theorem resK_ok {E : Env} {H : Heap} : ∀ {rs : List ResultVar} {res : List XR} {k : List V → Option α} {out : α}, trR P rs = some res → resK res E H k = some out →
    ∃ l, k l = some out ∧ ∀ {w0 : World} {r : Ren} {c : Id} {a : Act} {w : World}, Inv N w0 r E H c a w → ∃ zs, VRs r l zs ∧ (rs.mapM (rdRes a.tmps)).run P w = .ok zs w
  | [], res, k, out, ht, h => by
    simp only [trR, Option.some.injEq] at ht
    subst ht
    exact ⟨[], h, fun _ => ⟨[], rfl, by simp⟩⟩
  | rv :: rs, res, k, out, ht, h => by
    obtain ⟨x, m, rfl, h1, h2⟩ := trR_cons ht
    have key : ∃ v, resV E H x = some v ∧ resK m E H (fun l => k (v :: l)) = some out := by
      cases x with
      | t i =>
        have h' : get3K E i (fun v => resK m E H fun l => k (v :: l)) none = some out := h
        rw [get3K_eq] at h'
        split at h'
        · rename_i v hv; exact ⟨v, hv, h'⟩
        · cases h'
      | c agg n i =>
        have h' : get3K E i (fun v => atK5 H v (fun _ off _ cs => Option.rec none (fun v => forceV v fun v => resK m E H fun l => k (v :: l)) (partV agg off n cs)) none) none = some out := h
        rw [get3K_eq] at h'
        split at h'
        · rename_i v hv
          rw [atK5_eq] at h'
          split at h'
          · rename_i j off o cs hat
            cases hp : partV agg off n cs with
            | none => rw [hp] at h'; cases h'
            | some u =>
              rw [hp] at h'
              simp only [forceV_eq] at h'
              exact ⟨u, by simp only [resV, hv, hat, hp], h'⟩
          · cases h'
        · cases h'
    obtain ⟨v, hv, hk⟩ := key
    obtain ⟨l, g1, g2⟩ := resK_ok h2 hk
    refine ⟨v :: l, g1, fun hi => ?_⟩
    obtain ⟨z, z1, z2⟩ := resV_ok h1 hi hv
    obtain ⟨zs, y1, y2⟩ := g2 hi
    exact ⟨z :: zs, ⟨z, zs, rfl, z1, y1⟩, by simp [List.mapM_cons, z2, y2]⟩
theorem packV_ok {r : Ren} {l : List V} {zs : List Value} (h : VRs r l zs) : VR r (packV l) (if h : zs.toArray.size = 1 then zs.toArray[0] else .tuple zs.toArray) := by
  match l, zs, h with
  | [], [], _ => exact ⟨[], rfl, rfl⟩
  | [v], [z], ⟨_, _, e, h1, _⟩ =>
    cases e
    simpa [packV] using h1
  | v :: u :: l, z :: y :: zs, h => simp only [packV]; refine ⟨z :: y :: zs, by simp, h⟩
  | [], _ :: _, h => simp [VRs] at h
  | _ :: _, [], ⟨_, _, e, _⟩ => cases e
  | [_], _ :: _ :: _, ⟨_, _, e, _, h2⟩ => cases e; simp [VRs] at h2
  | _ :: _ :: _, [_], ⟨_, _, e, _, ⟨_, _, e2, _⟩⟩ => cases e; cases e2
theorem callK_ok {ih : Ih α} (hT : TabOK P T) (hih : IhOK P ih) {f : Ix} {args : List V} {H : Heap} {c : Id} {k : V → Heap → Id → Option α} {out : α} (h : callK T ih f args H c k = some out) :
    Enters P f.nat ∧ ∃ v H' c', k v H' c' = some out ∧ CallOK P f.nat args H c v H' c' := by
  unfold callK at h
  rw [get3K_eq] at h
  split at h
  · rename_i e he
    have hE := hT f e he
    refine ⟨hE.enters, ?_⟩
    cases e with
    | prim g =>
      simp only [outK] at h
      split at h
      · rename_i v H' c' hg
        exact ⟨v, H', c', h, hE.prim g rfl args H c v H' c' hg⟩
      · cases h
    | body prm x res =>
      obtain ⟨fn, hfn, htr⟩ := hE.body prm x res rfl
      unfold trF at htr
      split at htr
      · rename_i code hcode
        cases hb : (Nat.ble (fn.params.size + fn.nfree) fn.ntmps && !(fn.name == "runtime.NumGoroutine")) with
        | false => rw [hb] at htr; cases htr
        | true =>
          rw [hb] at htr
          simp only [cond_true] at htr
          simp only [Bool.and_eq_true] at hb
          have hle := Nat.le_of_ble_eq_true hb.1
          split at htr
          · rename_i l x' r' h1 h2 h3
            simp only [Option.some.injEq, Ent.body.injEq] at htr
            obtain ⟨rfl, rfl, rfl⟩ := htr
            simp only [bindK] at h
            obtain ⟨E0, k1, k2, k3⟩ := bindR_ok h
            obtain ⟨e, E', H', c', q1, q2⟩ := hih h2 k1
            obtain ⟨hl, hg⟩ := ixs_get h1
            have hres : resK r' E' H' (fun l => k (packV l) H' c') = some out ∧ (e = .n ∨ e = .r) := by
              cases e with
              | n => exact ⟨q1, .inl rfl⟩
              | r => exact ⟨q1, .inr rfl⟩
              | x _ => cases q1
            obtain ⟨vs, g1, g2⟩ := resK_ok (N := fn.ntmps) h3 hres.1
            refine ⟨packV vs, H', c', g1, fun w0 r w args' hargs hH => ?_⟩
            have hal := hargs.len
            refine calls_of_wp hfn hcode (wp_mono (q2 (w0 := w0) (r := r) ⟨by simp; omega, rfl, fun i v hv => ?_, hH⟩) ?_)
            · rcases k3 i v hv with ⟨j, j1, j2⟩ | h0
              · have := hg j i j1
                rw [this, Nat.zero_add]
                obtain ⟨z, hz, hvz⟩ := hargs.get j2
                have hlt : j < args'.length := (List.getElem?_eq_some_iff.1 hz).1
                have : (args'.toArray ++ Array.replicate (fn.ntmps - args'.toArray.size) undef).getD j undef = z := by
                  rw [Array.getD_eq_getD_getElem?, Array.getElem?_append_left (by simpa using hlt)]
                  simp [hz]
                rw [this]; exact hvz
              · simp [get3, Tr.at, Tr.val] at h0
            · rintro ex a' w' ⟨hex, r1, hr1, hi1⟩
              obtain ⟨zs, z1, z2⟩ := g2 hi1
              have hrun : (results fn a'.tmps).run P w' = .ok (if h : zs.toArray.size = 1 then zs.toArray[0] else .tuple zs.toArray) w' := by
                rw [results_rd, Array.mapM_eq_mapM_toList]
                simp only [Sem.run_bind, Sem.run_map, z2, Result.andThen_ok, Sem.run_pure]
              have fin : bodyPost P fn (fun e w' => ∃ r' z, e = .returned z ∧ r.le r' ∧ VR r' (packV vs) z ∧ RH w0 r' H' c' w') ex a' w' := by
                subst hex
                rcases hres.2 with rfl | rfl
                · exact ⟨hi1.defers, _, hrun, r1, _, rfl, hr1, packV_ok z1, hi1.mem⟩
                · exact ⟨hi1.defers, _, hrun, r1, _, rfl, hr1, packV_ok z1, hi1.mem⟩
              exact fin
          · cases htr
      · cases htr
  · cases h
end
end Go.Ev
