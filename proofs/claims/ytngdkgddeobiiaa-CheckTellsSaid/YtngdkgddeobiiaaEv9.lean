/- The evaluator: the operations that only compute are the model's. No program is named here. -/
import Derived.Test.YtngdkgddeobiiaaEv8
import Derived.Laws.Tables
import Derived.Laws.StructEq
namespace Go.Ev
open Go Go.TL

section
variable {P : Program} {r : Ren}
theorem run_sizeP {t n : Nat} (h : sizeP P t = some n) (w : World) : (sizeOf t).run P w = .ok n w := by
  unfold sizeP at h
  split at h
  · rename_i i hi; cases h; simp [sizeOf, typeInfo, hi]
  · cases h
theorem run_aggD {t : TypeId} {d : TypeDesc} (h : P.underlying t = some d) (w : World) : (isAgg t).run P w = .ok (aggD d) w := by
  simp only [isAgg, Sem.run_bind, run_underlying h, Result.andThen_ok]
  cases d <;> rfl
theorem tyN_ok {t n : Nat} {agg : Bool} (h : tyN P t = some (agg, n)) : PartOK P t agg n := by
  unfold tyN at h
  split at h
  · rename_i d hd
    split at h
    · rename_i i hi
      simp only [Option.some.injEq, Prod.mk.injEq] at h
      obtain ⟨rfl, rfl⟩ := h
      exact ⟨run_aggD hd, fun w => by simp [sizeOf, typeInfo, hi]⟩
    · cases h
  · cases h
theorem fieldOf_ok {t f : Nat} {fd : Field} (h : fieldOf P t f = some fd) : ∃ fs, P.underlying t = some (.struct fs) ∧ fs[f]? = some fd := by
  unfold fieldOf at h
  split at h
  · rename_i fs hu; exact ⟨fs, hu, h⟩
  · cases h
theorem field_ok {t f n : Nat} {fd : Field} (h : fieldOf P t f = some fd) (hn : sizeP P fd.type = some n) (h0 : Nat.blt 0 n = true) : FieldOK P t f fd.offset := fun a w => by
  obtain ⟨fs, hu, hf⟩ := fieldOf_ok h
  have h1 : n ≠ 0 := by rw [bltN] at h0; simp at h0; omega
  simp [Instr.fieldAt, run_underlying hu, hf, Instr.sureAddr, fieldPlace, run_sizeP hn, h1]
theorem trO_vr {E : Env} {a : Act} {o : Option Operand} {x : Option XV} {v : Option V} (h : trO o = some x) (hr : RE r E a) (hv : getO E x = some v) : VRo r v (o.map a.eval) := by
  cases o with
  | none => simp only [trO, Option.some.injEq] at h; subst h; simp only [getO, Option.some.injEq] at hv; subst hv; rfl
  | some o =>
    simp only [trO] at h
    split at h
    · rename_i y hy
      cases h
      simp only [getO] at hv
      split at hv
      · rename_i u hu; cases hv; exact ⟨_, rfl, trV_vr hy hr hu⟩
      · cases hv
    · cases h

/-! structs compared -/
theorem vTag_cellEq {x y : V} {a b : Value} {c : Bool} {t : TypeId} (hx : VR r x a) (hy : VR r y b) (hc : cellEq x y = some c) (ht : tyTag (P.underlying t) = vTag x) : ∀ d w, (Op.equalIn (d + 1) t a b).run P w = .ok c w := fun d w => by
  unfold Op.equalIn
  unfold cellEq at hc
  cases hu : P.underlying t with
  | none => rw [hu] at ht; exfalso; cases x <;> simp [tyTag, vTag] at ht
  | some dd =>
    rw [hu] at ht
    simp only [Sem.run_bind, run_underlying hu, Result.andThen_ok]
    split at hc
    · cases hx; cases hy
      simp only [Option.some.injEq] at hc; subst hc
      cases dd <;> simp [tyTag, vTag] at ht
      rfl
    · rename_i k n j m
      cases hx; cases hy
      cases hk : Nat.beq (ikn k) (ikn j) with
      | false => rw [hk] at hc; cases hc
      | true =>
        rw [hk] at hc
        have := ikn_inj hk
        subst this
        simp only [cond_true, Option.some.injEq] at hc; subst hc
        cases dd <;> simp [tyTag, vTag] at ht
        simp [ieq_eq]
        by_cases e : n = m <;> simp [e]
    · obtain ⟨rfl, hl⟩ := hx
      obtain ⟨rfl, hm⟩ := hy
      simp only [Option.some.injEq] at hc; subst hc
      cases dd <;> simp [tyTag, vTag] at ht
      rename_i _ l _ m
      have e := bts_beq (l := l) (m := m) hl.2 hm.2
      simp only [Sem.run_pure]
      rw [← e, ← beq_toListBytes]
    · cases hc
theorem eqCells_app : ∀ {ts us : List Nat} {xs ys : List V} {c : Bool}, eqCells (ts ++ us) xs ys = some c → ∃ c1 c2, eqCells ts (xs.take ts.length) (ys.take ts.length) = some c1 ∧ eqCells us (xs.drop ts.length) (ys.drop ts.length) = some c2 ∧ c = (c1 && c2)
  | [], us, xs, ys, c, h => ⟨true, c, by simp [eqCells], by simpa using h, by simp⟩
  | t :: ts, us, [], ys, c, h => by simp [eqCells] at h
  | t :: ts, us, x :: xs, [], c, h => by simp [eqCells] at h
  | t :: ts, us, x :: xs, y :: ys, c, h => by
    simp only [List.cons_append, eqCells, List.length_cons, List.take_succ_cons, List.drop_succ_cons] at h ⊢
    cases hb : Nat.beq (vTag x) t with
    | false => rw [hb] at h; cases h
    | true =>
      rw [hb] at h
      simp only [cond_true] at h ⊢
      cases he : cellEq x y with
      | none => rw [he] at h; cases h
      | some e =>
        rw [he] at h
        cases e with
        | true =>
          simp only at h ⊢
          exact eqCells_app h
        | false =>
          simp only at h ⊢
          split at h
          · rename_i c' hc'
            cases h
            obtain ⟨c1, c2, h1, h2, h3⟩ := eqCells_app hc'
            exact ⟨false, c2, by rw [h1], h2, rfl⟩
          · cases h
theorem eqCells_len : ∀ {ts : List Nat} {xs ys : List V} {c : Bool}, eqCells ts xs ys = some c → xs.length = ts.length ∧ ys.length = ts.length
  | [], [], [], _, _ => ⟨rfl, rfl⟩
  | [], [], _ :: _, _, h => by simp [eqCells] at h
  | [], _ :: _, _, _, h => by simp [eqCells] at h
  | t :: ts, [], ys, c, h => by simp [eqCells] at h
  | t :: ts, x :: xs, [], c, h => by simp [eqCells] at h
  | t :: ts, x :: xs, y :: ys, c, h => by
    simp only [eqCells] at h
    cases hb : Nat.beq (vTag x) t with
    | false => rw [hb] at h; cases h
    | true =>
      rw [hb] at h
      simp only [cond_true] at h
      cases he : cellEq x y with
      | none => rw [he] at h; cases h
      | some e =>
        rw [he] at h
        cases e with
        | true => have := eqCells_len (show eqCells ts xs ys = some c from h); simp [this]
        | false =>
          simp only at h
          split at h
          · rename_i c' hc'; have := eqCells_len hc'; simp [this]
          · cases h
/-- Flat values of a type, as they stand among cells. -/
theorem flat_eq : ∀ (d : Nat) {t : TypeId} {ts : List Nat}, flat P d t = some ts → ∀ (xs ys : List V) (xs' ys' : List Value) (c : Bool), VRs r xs xs' → VRs r ys ys' → eqCells ts xs ys = some c → sizeP P t = some ts.length →
    ∀ (pre pre' suf suf' : List Value) (off : Nat), pre.length = off → pre'.length = off → ∀ D w, (do let a ← part t (pre ++ xs' ++ suf).toArray off; let b ← part t (pre' ++ ys' ++ suf').toArray off; Op.equalIn (d + D) t a b : Sem Bool).run P w = .ok c w
  | 0, _, _, h => by cases h
  | d + 1, t, ts, h => by
    intro xs ys xs' ys' c hx hy hc hsz pre pre' suf suf' off hp hp' D w
    obtain ⟨l1, l2⟩ := eqCells_len hc
    have l1' := hx.len
    have l2' := hy.len
    have cell : ∀ k, ts = [k] → aggD (match P.underlying t with | some d => d | none => .bool) = false → (P.underlying t).isSome = true → tyTag (P.underlying t) = k → (do let a ← part t (pre ++ xs' ++ suf).toArray off; let b ← part t (pre' ++ ys' ++ suf').toArray off; Op.equalIn (d + 1 + D) t a b : Sem Bool).run P w = .ok c w := by
      intro k hk hag hs htg
      subst hk
      match xs, ys, hx, hy, hc, l1, l2 with
      | [x], [y], hx, hy, hc, _, _ =>
        obtain ⟨a, as, rfl, ha, has⟩ := hx
        obtain ⟨b, bs, rfl, hb, hbs⟩ := hy
        simp only [VRs] at has hbs
        subst has hbs
        obtain ⟨dd, hdd⟩ := Option.isSome_iff_exists.1 hs
        rw [hdd] at hag
        simp only [eqCells] at hc
        cases hb' : Nat.beq (vTag x) k with
        | false => rw [hb'] at hc; cases hc
        | true =>
          rw [hb'] at hc
          have hvt := Nat.eq_of_beq_eq_true hb'
          have hce : cellEq x y = some c := by
            simp only [cond_true] at hc
            cases he : cellEq x y with
            | none => rw [he] at hc; cases hc
            | some e => rw [he] at hc; cases e <;> simpa using hc
          have e1 : (part t (pre ++ [a] ++ suf).toArray off).run P w = .ok a w := by
            simp only [part, Sem.run_bind, run_aggD hdd, Result.andThen_ok, hag, Bool.false_eq_true, if_false]
            subst hp; simp
          have e2 : (part t (pre' ++ [b] ++ suf').toArray off).run P w = .ok b w := by
            simp only [part, Sem.run_bind, run_aggD hdd, Result.andThen_ok, hag, Bool.false_eq_true, if_false]
            subst hp'; simp
          simp only [Sem.run_bind, e1, e2, Result.andThen_ok]
          rw [show d + 1 + D = (d + D) + 1 by omega]
          exact vTag_cellEq ha hb hce (by rw [htg, hvt]) _ w
    simp only [flat] at h
    split at h
    · rename_i hu; cases h; exact cell 0 rfl (by rw [hu]; rfl) (by rw [hu]; rfl) (by rw [hu]; rfl)
    · rename_i hu; cases h; exact cell 5 rfl (by rw [hu]; rfl) (by rw [hu]; rfl) (by rw [hu]; rfl)
    · rename_i hu; cases h; exact cell 6 rfl (by rw [hu]; rfl) (by rw [hu]; rfl) (by rw [hu]; rfl)
    · rename_i fs hu
      cases hst : P.stoodInHeld t with
      | true => rw [hst] at h; cases h
      | false =>
        rw [hst] at h
        simp only [cond_false] at h
        have e1 : (part t (pre ++ xs' ++ suf).toArray off).run P w = .ok (.agg xs'.toArray) w := by
          simp only [part, Sem.run_bind, run_aggD hu, Result.andThen_ok, aggD, if_true, run_sizeP hsz, Sem.run_pure]
          subst hp
          rw [← l1, l1']
          simp
        have e2 : (part t (pre' ++ ys' ++ suf').toArray off).run P w = .ok (.agg ys'.toArray) w := by
          simp only [part, Sem.run_bind, run_aggD hu, Result.andThen_ok, aggD, if_true, run_sizeP hsz, Sem.run_pure]
          subst hp'
          rw [← l2, l2']
          simp
        simp only [Sem.run_bind, e1, e2, Result.andThen_ok]
        rw [show d + 1 + D = (d + D) + 1 by omega]
        have hfo : P.fieldsOf t = fs := by simp [Program.fieldsOf, hu]
        rw [run_equalIn_struct w (d + D) t _ _ (by rw [hfo, hu]) hst, hfo]
        -- fields, one behind another
        have key : ∀ (fl : List Field) (ts : List Nat) (o : Nat) (px py : List Value) (xs ys : List V) (xs' ys' : List Value) (c : Bool), flat.flatFs (flat P d) (fun t => (P.info? t).map (·.size)) fl o = some ts → VRs r xs xs' → VRs r ys ys' → eqCells ts xs ys = some c → px.length = o → py.length = o →
            (Op.eqFields (d + D) (px ++ xs').toArray (py ++ ys').toArray fl).run P w = .ok c w := by
          intro fl
          induction fl with
          | nil =>
            intro ts o px py xs ys xs' ys' c hfl hx hy hc _ _
            simp only [flat.flatFs, Option.some.injEq] at hfl
            subst hfl
            obtain ⟨q1, q2⟩ := eqCells_len hc
            have z1 : xs = [] := List.eq_nil_of_length_eq_zero q1
            have z2 : ys = [] := List.eq_nil_of_length_eq_zero q2
            subst z1 z2
            simp only [eqCells, Option.some.injEq] at hc
            subst hc
            rfl
          | cons f fl ih =>
            intro ts o px py xs ys xs' ys' c hfl hx hy hc hpx hpy
            simp only [flat.flatFs] at hfl
            cases hcond : (f.name == "_" || !Nat.beq f.offset o) with
            | true => rw [hcond] at hfl; cases hfl
            | false =>
              rw [hcond] at hfl
              simp only [cond_false] at hfl
              simp only [Bool.or_eq_false_iff, Bool.not_eq_false'] at hcond
              have hoff := Nat.eq_of_beq_eq_true hcond.2
              have hname : f.name ≠ "_" := by simpa using hcond.1
              split at hfl
              · rename_i tf htf
                split at hfl
                · rename_i n hn
                  cases hbn : Nat.beq n tf.length with
                  | false => rw [hbn] at hfl; cases hfl
                  | true =>
                    rw [hbn] at hfl
                    have hn' := Nat.eq_of_beq_eq_true hbn
                    simp only [cond_true] at hfl
                    split at hfl
                    · rename_i rr hrr
                      cases hfl
                      obtain ⟨c1, c2, q1, q2, rfl⟩ := eqCells_app hc
                      have hszf : sizeP P f.type = some tf.length := by
                        unfold sizeP
                        cases hi : P.info? f.type with
                        | none => rw [hi] at hn; cases hn
                        | some i => rw [hi] at hn; simp only [Option.map_some, Option.some.injEq] at hn; simp only [hn, hn']
                      have r1 := flat_eq d htf _ _ _ _ _ (hx.take tf.length) (hy.take tf.length) q1 hszf px py (xs'.drop tf.length) (ys'.drop tf.length) o hpx hpy D w
                      simp only [List.append_assoc, List.take_append_drop] at r1
                      simp only [Op.eqFields, if_pos hname, hoff]
                      simp only [Sem.run_bind] at r1 ⊢
                      -- take it apart
                      cases hA : (part f.type (px ++ xs').toArray o).run P w with
                      | halt h w' => rw [hA] at r1; cases r1
                      | ok A w' =>
                        rw [hA] at r1
                        simp only [Result.andThen_ok] at r1 ⊢
                        cases hB : (part f.type (py ++ ys').toArray o).run P w' with
                        | halt h w' => rw [hB] at r1; cases r1
                        | ok B w'' =>
                          rw [hB] at r1
                          simp only [Result.andThen_ok] at r1 ⊢
                          rw [r1]
                          simp only [Result.andThen_ok]
                          cases c1 with
                          | false => simp
                          | true =>
                            simp only [Bool.not_true, Bool.false_eq_true, if_false, Bool.true_and]
                            have hlx := hx.len
                            have hly := hy.len
                            obtain ⟨w1, w2⟩ := eqCells_len hc
                            simp only [List.length_append] at w1 w2
                            have := ih rr (o + n) (px ++ xs'.take tf.length) (py ++ ys'.take tf.length) (xs.drop tf.length) (ys.drop tf.length) (xs'.drop tf.length) (ys'.drop tf.length) c2 hrr (hx.drop _) (hy.drop _) q2 (by simp; omega) (by simp; omega)
                            simpa only [List.append_assoc, List.take_append_drop] using this
                    · cases hfl
                · cases hfl
              · cases hfl
        have := key fs.toList ts 0 [] [] xs ys xs' ys' c h hx hy hc rfl rfl
        simpa using this
    · cases h
theorem eqsV_ok {t : TypeId} {ts : List Nat} {fs : Array Field} {x y : V} {a b : Value} {c : Bool} (hu : P.underlying t = some (.struct fs)) (hf : flat P 8 t = some ts) (hx : VR r x a) (hy : VR r y b) (hc : eqsV ts x y = some c) (hsz : sizeP P t = some ts.length) : ∀ w, (Op.equal t a b).run P w = .ok c w := fun w => by
  unfold eqsV at hc
  split at hc
  · obtain ⟨l', rfl, hl⟩ := hx
    obtain ⟨m', rfl, hm⟩ := hy
    obtain ⟨q1, q2⟩ := eqCells_len hc
    have h1 := hl.len
    have h2 := hm.len
    have := flat_eq 8 hf _ _ _ _ _ hl hm hc hsz [] [] [] [] 0 rfl rfl 9992 w
    simp only [List.nil_append, List.append_nil] at this
    have e1 : (part t l'.toArray 0).run P w = .ok (.agg l'.toArray) w := by
      simp only [part, Sem.run_bind, run_aggD hu, Result.andThen_ok, aggD, if_true, run_sizeP hsz, Sem.run_pure]
      rw [← q1, h1]; simp
    have e2 : (part t m'.toArray 0).run P w = .ok (.agg m'.toArray) w := by
      simp only [part, Sem.run_bind, run_aggD hu, Result.andThen_ok, aggD, if_true, run_sizeP hsz, Sem.run_pure]
      rw [← q2, h2]; simp
    simp only [Sem.run_bind, e1, e2, Result.andThen_ok] at this
    exact this
  · cases hc

/-! aggregates built -/
theorem mapM_get {α β : Type} {f : α → Option β} : ∀ {l : List α} {m : List β}, l.mapM f = some m → ∀ (i : Nat), m[i]? = (l[i]?).bind f
  | [], m, h, i => by simp at h; subst h; simp
  | a :: l, m, h, i => by
    simp only [List.mapM_cons, Option.bind_eq_bind, Option.pure_def] at h
    cases e : f a with
    | none => rw [e] at h; cases h
    | some b =>
      rw [e] at h
      simp only [Option.bind_some] at h
      cases e2 : l.mapM f with
      | none => rw [e2] at h; cases h
      | some m' =>
        rw [e2] at h
        simp only [Option.bind_some, Option.some.injEq] at h
        subst h
        cases i with
        | zero => simp [e]
        | succ i => simpa using mapM_get e2 i
theorem fillV_ok {place : Nat → Option (Nat × Nat)} : ∀ {is : List Nat} {ps : List (Nat × Nat)} {vs : List V} {vs' : List Value} {cs m : List V} {cs' : List Value}, (∀ (j i : Nat) (p : Nat × Nat), is[j]? = some i → ps[j]? = some p → place i = some p) → is.length = ps.length → VRs r cs cs' → VRs r vs vs' → vs.all known = true → fillV cs ps vs = some m →
    ∃ m', VRs r m m' ∧ Instr.fill place cs'.toArray (is.zip vs') = some m'.toArray
  | [], [], [], vs', cs, m, cs', _, _, hc, hv, _, h => by
    simp only [fillV, Option.some.injEq] at h; subst h
    exact ⟨cs', hc, rfl⟩
  | [], [], _ :: _, _, _, _, _, _, _, _, _, _, h => by simp [fillV] at h
  | [], _ :: _, _, _, _, _, _, _, hl, _, _, _, _ => by simp at hl
  | _ :: _, [], _, _, _, _, _, _, hl, _, _, _, _ => by simp at hl
  | _ :: _, _ :: _, [], _, _, _, _, _, _, _, _, _, h => by simp [fillV] at h
  | i :: is, (off, n) :: ps, v :: vs, vs', cs, m, cs', hp, hl, hc, hv, hk, h => by
    obtain ⟨u, us, rfl, hu, hus⟩ := hv
    simp only [fillV] at h
    simp only [List.all_cons, Bool.and_eq_true] at hk
    cases hb : Nat.beq (cellsV v).length n with
    | false => rw [hb] at h; cases h
    | true =>
      rw [hb] at h
      simp only [cond_true] at h
      split at h
      · rename_i cs1 h1
        have hu' : v ≠ .un := fun e => by subst e; simp [known] at hk
        obtain ⟨m1, g1, g2⟩ := fill_step (rest := is.zip us) (hp 0 i (off, n) rfl rfl) hc (Nat.eq_of_beq_eq_true hb) (cellsV_ok (n := n) hu hu') h1
        obtain ⟨m', g3, g4⟩ := fillV_ok (fun j i p h1 h2 => hp (j + 1) i p (by simpa using h1) (by simpa using h2)) (by simpa using hl) g1 hus hk.2 h
        exact ⟨m', g3, by rw [List.zip_cons_cons, g2]; exact g4⟩
      · cases h
theorem places_get {t : TypeId} : ∀ {is : List Nat} {ps : List (Nat × Nat)}, places P t is = some ps → is.length = ps.length ∧ ∀ (j i : Nat) (p : Nat × Nat), is[j]? = some i → ps[j]? = some p → placeF P t i = some p
  | [], ps, h => by simp only [places, Option.some.injEq] at h; subst h; exact ⟨rfl, fun j i p h => by simp at h⟩
  | i :: is, ps, h => by
    simp only [places] at h
    split at h
    · rename_i p hp
      split at h
      · rename_i ps' hps
        cases h
        obtain ⟨h1, h2⟩ := places_get hps
        refine ⟨by simp [h1], fun j i' p' h3 h4 => ?_⟩
        cases j with
        | zero => simp at h3 h4; subst h3 h4; exact hp
        | succ j => exact h2 j i' p' (by simpa using h3) (by simpa using h4)
      · cases h
    · cases h
theorem zeroC_ok {t : TypeId} {z : List V} (h : zeroC P t = some z) : ∃ i zz, P.info? t = some i ∧ i.zero = some zz ∧ VRs r z zz.cells.toList ∧ z.length = i.size ∧ zz.cells.size = i.size := by
  unfold zeroC at h
  split at h
  · rename_i i hi
    split at h
    · rename_i zz hz
      split at h
      · rename_i l hl
        cases hb : Nat.beq l.length i.size with
        | false => rw [hb] at h; cases h
        | true =>
          rw [hb] at h
          simp only [cond_true, Option.some.injEq] at h
          subst h
          have hv := cellsOf_vr (r := r) hl
          have := hv.len
          have hbb := Nat.eq_of_beq_eq_true hb
          exact ⟨i, zz, hi, hz, hv, hbb, by rw [← hbb, this]; simp⟩
      · cases h
    · cases h
  · cases h
theorem build_ok {t : TypeId} {ps : List (Nat × Operand)} {z : List V} {pl : List (Nat × Nat)} {vs m : List V} {vs' : List Value} (hz : zeroC P t = some z) (hp : places P t (ps.map (·.1)) = some pl)
    (hs : (∃ fs pp, P.underlying t = some (.struct fs) ∧ fs.toList.mapM (fun f => (P.info? f.type).map fun i => (f.offset, i.size)) = some pp) ∨ ∃ n e k, P.underlying t = some (.array n e) ∧ sizeP P e = some k) (hv : VRs r vs vs') (hk : vs.all known = true) (h : fillV z pl vs = some m) :
    ∃ x, VR r (.ag m) x ∧ ∀ w, (Instr.build t ((ps.map (·.1)).zip vs').toArray).run P w = .ok x w := by
  obtain ⟨hlen, hget⟩ := places_get hp
  obtain ⟨i, zz, hi, hzz, hzv, _, _⟩ := zeroC_ok (r := r) hz
  rcases hs with ⟨fs, pp, hu, hm⟩ | ⟨n, e, k, hu, hk'⟩
  · obtain ⟨m', g1, g2⟩ := fillV_ok (place := (pp.toArray[·]?)) (fun j i p h1 h2 => by
      have h3 := hget j i p h1 h2
      simp only [placeF, hu] at h3
      split at h3
      · rename_i f hf
        obtain ⟨fs', hu', hf'⟩ := fieldOf_ok hf
        rw [hu] at hu'; cases hu'
        split at h3
        · rename_i n hn
          cases h3
          simp only [List.getElem?_toArray]
          rw [mapM_get hm]
          simp only [Array.getElem?_toList, hf', Option.bind_some]
          unfold sizeP at hn
          split at hn
          · rename_i ii hii; cases hn; simp [hii]
          · cases hn
        · cases h3
      · cases h3) hlen hzv hv hk h
    refine ⟨.agg m'.toArray, ⟨m', rfl, g1⟩, fun w => run_build w t _ _ ?_⟩
    simp only [Program.built, hi, hu, hzz, hm]
    exact g2
  · obtain ⟨m', g1, g2⟩ := fillV_ok (place := fun i => some (i * k, k)) (fun j i p h1 h2 => by
      have h3 := hget j i p h1 h2
      simpa only [placeF, hu, hk'] using h3) hlen hzv hv hk h
    refine ⟨.agg m'.toArray, ⟨m', rfl, g1⟩, fun w => run_build w t _ _ ?_⟩
    unfold sizeP at hk'
    split at hk'
    · rename_i ie hie
      cases hk'
      simp only [Program.built, hi, hu, hzz, hie]
      exact g2
    · cases hk'
end
end Go.Ev
