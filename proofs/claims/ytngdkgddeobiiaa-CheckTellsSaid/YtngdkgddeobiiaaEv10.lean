/- The evaluator: the operations that only compute, translated. No program is named here. -/
import Derived.Test.YtngdkgddeobiiaaEv9
namespace Go.Ev
open Go Go.TL

section
variable {P : Program} {r : Ren} {E : Env} {a : Act}
/-- An operation that hands back just this, whatever the world. -/
def Pure (P : Program) (a : Act) (op : Op) (x : Value) : Prop := ∀ (o : Oper), o.op = op → ∀ w, (execOp a.eval o).run P w = .ok (.value x) w
theorem b1_some {f : V → Option V} {o : Option V} {v : V} (h : b1 f o = some v) : ∃ x, o = some x ∧ f x = some v := by
  cases o with
  | none => cases h
  | some x => exact ⟨x, rfl, h⟩
theorem b2_some {f : V → V → Option V} {o p : Option V} {v : V} (h : b2 f o p = some v) : ∃ x y, o = some x ∧ p = some y ∧ f x y = some v := by
  cases o with
  | none => cases h
  | some x =>
    cases p with
    | none => cases h
    | some y => exact ⟨x, y, rfl, rfl, h⟩
theorem eqn_bin {x y : V} {A B : Value} {t : TypeId} {c : Bool} (hx : VR r x A) (hy : VR r y B) (hc : eqn x y = some c) (ht : eqTy (P.underlying t) x = true) (o p : Operand) (w : World) :
    (do eqGuard .eql t o p A B; binOp .eql t A B : Sem Value).run P w = .ok (.bool c) w ∧ (do eqGuard .neq t o p A B; binOp .neq t A B : Sem Value).run P w = .ok (.bool (!c)) w := by
  have g := eqn_ok (P := P) hx hy hc ht w
  unfold eqn at hc
  split at hc <;> simp only [Option.some.injEq, reduceCtorEq] at hc
  · cases hx; cases hy; simp [eqGuard, binOp, g]
  · cases hx; cases hy; simp [eqGuard, binOp, g]
  · obtain ⟨_, _, _, rfl⟩ := hy; cases hx; simp [eqGuard, binOp, g]
  · obtain ⟨_, _, _, rfl⟩ := hx; cases hy; simp [eqGuard, binOp, g]
  · cases hx; cases hy; simp [eqGuard, binOp, g]
  · obtain ⟨_, _, _, _, rfl, _⟩ := VR_sl hy; cases hx; simp [eqGuard, binOp, g]
  · obtain ⟨_, _, _, _, rfl, _⟩ := VR_sl hx; cases hy; simp [eqGuard, binOp, g]
  · cases hx; cases hy; simp [eqGuard, binOp, g]
  · obtain ⟨_, _, _, rfl⟩ := hy; cases hx; simp [eqGuard, binOp, g]
  · obtain ⟨_, _, _, rfl⟩ := hx; cases hy; simp [eqGuard, binOp, g]
  · cases hx; cases hy; simp [eqGuard, binOp, g]
  · obtain ⟨_, _, rfl, _⟩ := hy; cases hx; simp [eqGuard, binOp, g]
  · obtain ⟨_, _, rfl, _⟩ := hx; cases hy; simp [eqGuard, binOp, g]
theorem trP_bin {op : BinOp} {t u : TypeId} {x y : Operand} {p : XP} {v : V} (h : trP P (.binOp op t x y u) = some p) (hr : RE r E a) (hv : p.ev E = some v) : ∃ z, VR r v z ∧ Pure P a (.binOp op t x y u) z := by
  simp only [trP] at h
  split at h
  · rename_i X Y hX hY
    have bin : ∀ (op : BinOp), (XP.bin op X Y).ev E = some v → ∃ z, VR r v z ∧ Pure P a (.binOp op t x y u) z := by
      intro op hv
      obtain ⟨p, q, h1, h2, h3⟩ := b2_some hv
      obtain ⟨z, g1, g2⟩ := bin2_ok (P := P) (t := t) (trV_vr hX hr h1) (trV_vr hY hr h2) h3
      refine ⟨z, g1, fun o ho w => ?_⟩
      obtain ⟨dst, op', ty, pos, af, g⟩ := o
      cases ho
      simp [execOp, (g2 w).1, (g2 w).2]
    have shf : ∀ left, (XP.shf left X Y).ev E = some v → ∃ z, VR r v z ∧ Pure P a (.binOp (bif left then .shl else .shr) t x y u) z := by
      intro left hv
      obtain ⟨p, q, h1, h2, h3⟩ := b2_some hv
      obtain ⟨z, g1, g2⟩ := shf_ok (P := P) (t := t) (trV_vr hX hr h1) (trV_vr hY hr h2) h3
      refine ⟨z, g1, fun o ho w => ?_⟩
      obtain ⟨dst, op', ty, pos, af, g⟩ := o
      cases ho
      have : (eqGuard (bif left then .shl else .shr) t x y (a.eval x) (a.eval y)).run P w = .ok () w := by cases left <;> simp [eqGuard]
      simp [execOp, g2 w, this]
    have eqs : ∀ (ng : Bool), eqX P t ng X Y = some p → ∃ z, VR r v z ∧ Pure P a (.binOp (bif ng then .neq else .eql) t x y u) z := by
      intro ng h
      unfold eqX at h
      cases hb4 : Nat.ble (tyTag (P.underlying t)) 4 with
      | true =>
        rw [hb4] at h
        simp only [cond_true, Option.some.injEq] at h
        subst h
        obtain ⟨p, q, h1, h2, h3⟩ := b2_some hv
        cases hb : Nat.beq (vTag p) (tyTag (P.underlying t)) with
        | false => rw [hb] at h3; cases h3
        | true =>
          rw [hb] at h3
          simp only [cond_true] at h3
          cases hc : Ev.eqn p q with
          | none => rw [hc] at h3; cases h3
          | some c =>
            rw [hc] at h3
            simp only [nB, Option.some.injEq] at h3
            have htag := Nat.eq_of_beq_eq_true hb
            have hle := Nat.le_of_ble_eq_true hb4
            have hty : eqTy (P.underlying t) p = true := by
              cases hu : P.underlying t with
              | none => rw [hu] at hle; simp [tyTag] at hle
              | some d =>
                rw [hu] at htag hle
                cases d <;> cases p <;> simp [tyTag, vTag, eqTy] at htag hle ⊢
            subst h3
            refine ⟨_, rfl, fun o ho w => ?_⟩
            obtain ⟨dst, op', ty, pos, af, g⟩ := o
            cases ho
            have g := eqn_bin (P := P) (t := t) (trV_vr hX hr h1) (trV_vr hY hr h2) hc hty x y w
            cases ng with
            | false => simp only [cond_false, execOp, Sem.run_bind] at g ⊢; simp [g.1]
            | true => simp only [cond_true, execOp, Sem.run_bind] at g ⊢; simp [g.2]
      | false =>
        rw [hb4] at h
        simp only [cond_false] at h
        cases hb6 : Nat.ble (tyTag (P.underlying t)) 6 with
        | true =>
          rw [hb6] at h
          simp only [cond_true, Option.some.injEq] at h
          subst h
          exact bin _ hv
        | false =>
          rw [hb6] at h
          simp only [cond_false] at h
          split at h
          · rename_i fs hu
            cases hg : P.eqGuardType P.depth t with
            | true => rw [hg] at h; cases h
            | false =>
              rw [hg] at h
              simp only [cond_false] at h
              split at h
              · rename_i ts n hfl hsz
                cases hn : Nat.beq n ts.length with
                | false => rw [hn] at h; cases h
                | true =>
                  rw [hn] at h
                  have hn' := Nat.eq_of_beq_eq_true hn
                  subst hn'
                  simp only [cond_true, Option.some.injEq] at h
                  subst h
                  obtain ⟨p, q, h1, h2, h3⟩ := b2_some hv
                  cases hc : eqsV ts p q with
                  | none => rw [hc] at h3; cases h3
                  | some c =>
                    rw [hc] at h3
                    simp only [nB, Option.some.injEq] at h3
                    subst h3
                    have hP := trV_vr hX hr h1
                    have hQ := trV_vr hY hr h2
                    have g := fun w => eqsV_ok hu hfl hP hQ hc hsz w
                    refine ⟨_, rfl, fun o ho w => ?_⟩
                    obtain ⟨dst, op', ty, pos, af, gg⟩ := o
                    cases ho
                    unfold eqsV at hc
                    split at hc
                    · obtain ⟨l', e1, _⟩ := hP
                      obtain ⟨m', e2, _⟩ := hQ
                      rw [e1, e2] at g
                      have g := g w
                      cases ng with
                      | false => simp [execOp, e1, e2, eqGuard, binOp, hg, g]
                      | true => simp [execOp, e1, e2, eqGuard, binOp, hg, g]
                    · cases hc
              · cases h
          · cases h
    split at h
    · cases h; exact shf true hv
    · cases h; exact shf false hv
    · exact eqs false h
    · exact eqs true h
    · cases h; exact bin _ hv
  · cases h
theorem amap {α β : Type} (f : α → β) (l : Array α) : l.map f = (l.toList.map f).toArray := by cases l; simp
theorem zip_map (ps : Array (Nat × Operand)) : (ps.map fun (i, x) => (i, a.eval x)) = ((ps.toList.map (·.1)).zip ((ps.toList.map (·.2)).map a.eval)).toArray := by
  obtain ⟨l⟩ := ps
  simp only [List.map_toArray]
  congr 1
  induction l with
  | nil => rfl
  | cons p l ih => simp only [List.map_cons, List.zip_cons_cons]; rw [← ih]
theorem trP_ok {op : Op} {p : XP} {v : V} (h : trP P op = some p) (hr : RE r E a) (hv : p.ev E = some v) : ∃ z, VR r v z ∧ Pure P a op z := by
  cases op with
  | binOp op t x y u => exact trP_bin h hr hv
  | move x =>
    simp only [trP] at h; split at h
    · rename_i X hX; cases h; exact ⟨_, trV_vr hX hr hv, fun o ho w => by obtain ⟨_, _, _, _, _, _⟩ := o; cases ho; simp [execOp]⟩
    · cases h
  | assign x =>
    simp only [trP] at h; split at h
    · rename_i X hX; cases h; exact ⟨_, trV_vr hX hr hv, fun o ho w => by obtain ⟨_, _, _, _, _, _⟩ := o; cases ho; simp [execOp]⟩
    · cases h
  | pick c x y =>
    simp only [trP] at h; split at h
    · rename_i C X Y hC hX hY
      cases h
      simp only [XP.ev] at hv
      split at hv
      · rename_i cv xv yv hc hx hy
        unfold pickV at hv
        have q1 := trV_vr hC hr hc
        have q2 := trV_vr hX hr hx
        have q3 := trV_vr hY hr hy
        split at hv
        · cases hv; simp only [VR] at q1; exact ⟨_, q2, fun o ho w => by obtain ⟨_, _, _, _, _, _⟩ := o; cases ho; simp [execOp, q1, asBool]⟩
        · cases hv; simp only [VR] at q1; exact ⟨_, q3, fun o ho w => by obtain ⟨_, _, _, _, _, _⟩ := o; cases ho; simp [execOp, q1, asBool]⟩
        · cases hv
      · cases hv
    · cases h
  | nilCheck x =>
    simp only [trP] at h; split at h
    · rename_i X hX; cases h
      obtain ⟨xv, hx, hf⟩ := b1_some hv
      have q := trV_vr hX hr hx
      unfold nckV at hf
      split at hf
      · cases hf
        obtain ⟨b, c, q1, q2⟩ := q
        exact ⟨_, ⟨b, c, q1, rfl⟩, fun o ho w => by obtain ⟨_, _, _, _, _, _⟩ := o; cases ho; simp [execOp, q2]⟩
      · cases hf
        obtain ⟨x', y', q1, q2⟩ := q
        exact ⟨_, ⟨x', y', rfl, q2⟩, fun o ho w => by obtain ⟨_, _, _, _, _, _⟩ := o; cases ho; simp [execOp, q1]⟩
      · cases hf
    · cases h
  | unOp u t x =>
    simp only [trP] at h; split at h
    · rename_i X hX
      split at h
      · cases h
        obtain ⟨xv, hx, hf⟩ := b1_some hv
        obtain ⟨z, g1, g2⟩ := notV_ok (P := P) (trV_vr hX hr hx) hf
        exact ⟨z, g1, fun o ho w => by obtain ⟨_, _, _, _, _, _⟩ := o; cases ho; simp [execOp, g2]⟩
      · cases h
        obtain ⟨xv, hx, hf⟩ := b1_some hv
        obtain ⟨z, g1, g2⟩ := negV_ok (P := P) (trV_vr hX hr hx) hf
        exact ⟨z, g1, fun o ho w => by obtain ⟨_, _, _, _, _, _⟩ := o; cases ho; simp [execOp, g2]⟩
      · cases h
        obtain ⟨xv, hx, hf⟩ := b1_some hv
        obtain ⟨z, g1, g2⟩ := xorV_ok (P := P) (trV_vr hX hr hx) hf
        exact ⟨z, g1, fun o ho w => by obtain ⟨_, _, _, _, _, _⟩ := o; cases ho; simp [execOp, g2]⟩
      · cases h
    · cases h
  | convert s d x =>
    simp only [trP] at h; split at h
    · rename_i X T k hX hs hd; cases h
      obtain ⟨xv, hx, hf⟩ := b1_some hv
      obtain ⟨z, g1, g2⟩ := cviV_ok (P := P) ⟨_, hs⟩ hd (trV_vr hX hr hx) hf
      exact ⟨z, g1, fun o ho w => by obtain ⟨_, _, _, _, _, _⟩ := o; cases ho; simp [execOp, g2]⟩
    · cases h
  | makeFunc fn first cap =>
    cases fn <;> simp only [trP, reduceCtorEq] at h
    split at h
    · rename_i f A B hf hA hB; cases h
      simp only [XP.ev] at hv
      split at hv
      · rename_i av bv h1 h2
        cases hv
        have q1 := trVs_vr hr hA h1
        have q2 := trVs_vr hr hB h2
        refine ⟨_, ⟨_, _, rfl, q1, q2⟩, fun o ho w => ?_⟩
        obtain ⟨_, _, _, _, _, _⟩ := o; cases ho
        rw [ixOf_nat hf]
        simp [execOp, Instr.makeFunc, amap]
      · cases hv
    · cases h
  | fieldAddr t x f =>
    simp only [trP] at h; split at h
    · rename_i X fd hX hfd
      split at h
      · rename_i n hn
        cases h0 : Nat.blt 0 n with
        | false => rw [h0] at h; cases h
        | true =>
          rw [h0] at h; cases h
          obtain ⟨xv, hx, hf⟩ := b1_some hv
          obtain ⟨z, g1, g2⟩ := faV_ok (field_ok hfd hn h0) (trV_vr hX hr hx) hf
          exact ⟨z, g1, fun o ho w => by obtain ⟨_, _, _, _, _, _⟩ := o; cases ho; simp [execOp, g2]⟩
      · cases h
    · cases h
  | field t x f =>
    simp only [trP] at h; split at h
    · rename_i X fd hX hfd
      split at h
      · rename_i agg n hn
        cases h
        obtain ⟨xv, hx, hf⟩ := b1_some hv
        obtain ⟨fs, hu, hfs⟩ := fieldOf_ok hfd
        obtain ⟨z, g1, g2⟩ := fldV_ok hu hfs rfl (tyN_ok hn) (trV_vr hX hr hx) hf
        exact ⟨z, g1, fun o ho w => by obtain ⟨_, _, _, _, _, _⟩ := o; cases ho; simp [execOp, g2]⟩
      · cases h
    · cases h
  | indexAddr t x y =>
    simp only [trP] at h; split at h
    · rename_i X Y e hX hY hu
      split at h
      · rename_i n hn
        cases h
        obtain ⟨xv, yv, hx, hy, hf⟩ := b2_some hv
        obtain ⟨z, g1, g2⟩ := ixaV_ok hu (run_sizeP hn) (trV_vr hX hr hx) (trV_vr hY hr hy) hf
        exact ⟨z, g1, fun o ho w => by obtain ⟨_, _, _, _, _, _⟩ := o; cases ho; simp [execOp, g2]⟩
      · cases h
    · rename_i X Y len e hX hY hu
      split at h
      · rename_i n hn
        cases h
        obtain ⟨xv, yv, hx, hy, hf⟩ := b2_some hv
        obtain ⟨z, g1, g2⟩ := ixpV_ok hu (run_sizeP hn) (trV_vr hX hr hx) (trV_vr hY hr hy) hf
        exact ⟨z, g1, fun o ho w => by obtain ⟨_, _, _, _, _, _⟩ := o; cases ho; simp [execOp, g2]⟩
      · cases h
    · cases h
  | index t x y =>
    simp only [trP] at h; split at h
    · rename_i X Y hX hY hu
      cases h
      obtain ⟨xv, yv, hx, hy, hf⟩ := b2_some hv
      obtain ⟨z, g1, g2⟩ := ixsV_ok hu (trV_vr hX hr hx) (trV_vr hY hr hy) hf
      exact ⟨z, g1, fun o ho w => by obtain ⟨_, _, _, _, _, _⟩ := o; cases ho; simp [execOp, g2]⟩
    · rename_i X Y len e hX hY hu
      split at h
      · rename_i agg n hn
        cases h
        obtain ⟨xv, yv, hx, hy, hf⟩ := b2_some hv
        obtain ⟨z, g1, g2⟩ := ixvV_ok hu (tyN_ok hn) (trV_vr hX hr hx) (trV_vr hY hr hy) hf
        exact ⟨z, g1, fun o ho w => by obtain ⟨_, _, _, _, _, _⟩ := o; cases ho; simp [execOp, g2]⟩
      · cases h
    · cases h
  | slice t x lo hi mx =>
    simp only [trP] at h; split at h
    · rename_i X LO HI MX hX hlo hhi hmx
      split at h
      · rename_i hu
        split at h
        · cases h
          simp only [XP.ev] at hv
          split at hv
          · rename_i xv lv hv' h1 h2 h3
            obtain ⟨z, g1, g2⟩ := slsV_ok hu (trV_vr hX hr h1) (trO_vr hlo hr h2) (trO_vr hhi hr h3) hv
            have hm : mx = none := by
              cases mx with
              | none => rfl
              | some m => simp only [trO] at hmx; split at hmx <;> cases hmx
            subst hm
            exact ⟨z, g1, fun o ho w => by obtain ⟨_, _, _, _, _, _⟩ := o; cases ho; simp [execOp, g2]⟩
          · cases hv
        · cases h
      · rename_i e hu
        split at h
        · rename_i n hn
          cases h
          simp only [XP.ev] at hv
          split at hv
          · rename_i xv lv hv' mv h1 h2 h3 h4
            obtain ⟨z, g1, g2⟩ := sllV_ok hu (run_sizeP hn) (trV_vr hX hr h1) (trO_vr hlo hr h2) (trO_vr hhi hr h3) (trO_vr hmx hr h4) hv
            exact ⟨z, g1, fun o ho w => by obtain ⟨_, _, _, _, _, _⟩ := o; cases ho; simp [execOp, g2]⟩
          · cases hv
        · cases h
      · rename_i len e hu
        split at h
        · rename_i n hn
          cases h
          simp only [XP.ev] at hv
          split at hv
          · rename_i xv lv hv' mv h1 h2 h3 h4
            obtain ⟨z, g1, g2⟩ := slpV_ok hu (run_sizeP hn) (trV_vr hX hr h1) (trO_vr hlo hr h2) (trO_vr hhi hr h3) (trO_vr hmx hr h4) hv
            exact ⟨z, g1, fun o ho w => by obtain ⟨_, _, _, _, _, _⟩ := o; cases ho; simp [execOp, g2]⟩
          · cases hv
        · cases h
      · cases h
    · cases h
  | extract x n =>
    simp only [trP] at h; split at h
    · rename_i X hX; cases h
      obtain ⟨xv, hx, hf⟩ := b1_some hv
      obtain ⟨z, g1, g2⟩ := extV_ok (P := P) (trV_vr hX hr hx) hf
      exact ⟨z, g1, fun o ho w => by obtain ⟨_, _, _, _, _, _⟩ := o; cases ho; simp [execOp, g2]⟩
    · cases h
  | build t ps =>
    simp only [trP] at h; split at h
    · rename_i fs z pl l hu hz hp hl
      split at h
      · rename_i pp hpp
        cases h
        simp only [XP.ev] at hv
        split at hv
        · rename_i vs hvs
          cases hk : vs.all known with
          | false => rw [hk] at hv; cases hv
          | true =>
            rw [hk] at hv
            simp only [cond_true] at hv
            split at hv
            · rename_i cs hcs
              cases hv
              obtain ⟨x, g1, g2⟩ := build_ok (r := r) (t := t) hz hp (.inl ⟨fs, pp, hu, hpp⟩) (trVs_vr hr hl hvs) hk hcs
              exact ⟨x, g1, fun o ho w => by obtain ⟨_, _, _, _, _, _⟩ := o; cases ho; simp only [execOp, zip_map, Sem.run_bind, g2, Result.andThen_ok, Sem.run_pure]⟩
            · cases hv
        · cases hv
      · cases h
    · rename_i len e z pl l hu hz hp hl
      split at h
      · rename_i kk hkk
        cases h
        simp only [XP.ev] at hv
        split at hv
        · rename_i vs hvs
          cases hk : vs.all known with
          | false => rw [hk] at hv; cases hv
          | true =>
            rw [hk] at hv
            simp only [cond_true] at hv
            split at hv
            · rename_i cs hcs
              cases hv
              obtain ⟨x, g1, g2⟩ := build_ok (r := r) (t := t) hz hp (.inr ⟨len, e, kk, hu, hkk⟩) (trVs_vr hr hl hvs) hk hcs
              exact ⟨x, g1, fun o ho w => by obtain ⟨_, _, _, _, _, _⟩ := o; cases ho; simp only [execOp, zip_map, Sem.run_bind, g2, Result.andThen_ok, Sem.run_pure]⟩
            · cases hv
        · cases hv
      · cases h
    · cases h
  | call c =>
    obtain ⟨callee, args, ats⟩ := c
    simp only [trP] at h
    split at h
    · split at h
      · rename_i x t hargs hat
        split at h
        · rename_i X hX hu
          cases h
          obtain ⟨xv, hx, hf⟩ := b1_some hv
          have q := trV_vr hX hr hx
          split at hf
          · obtain ⟨z, g1, g2⟩ := lenV_ok (P := P) (ts := ats) (ty := 0) (.inl hu) hat q hf (by simpa using hu)
            have ha : args = #[x] := by rw [← Array.toArray_toList (xs := args), hargs]
            refine ⟨z, g1, fun o ho w => ?_⟩
            obtain ⟨_, _, ty, _, _, _⟩ := o; cases ho
            have g2' : (Builtin.len_ ats ty #[a.eval x]).run P w = .ok z w := g2 w
            simp [execOp, resolve, invoke, builtin, ha, g2']
          · cases hf
        · rename_i X e hX hu
          cases h
          obtain ⟨xv, hx, hf⟩ := b1_some hv
          have q := trV_vr hX hr hx
          split at hf
          · cases hf
          · rename_i hns
            obtain ⟨z, g1, g2⟩ := lenV_ok (P := P) (ts := ats) (ty := 0) (.inr ⟨e, hu⟩) hat q hf (by split <;> first | exact ⟨e, hu⟩ | exact absurd rfl (hns _ _))
            have ha : args = #[x] := by rw [← Array.toArray_toList (xs := args), hargs]
            refine ⟨z, g1, fun o ho w => ?_⟩
            obtain ⟨_, _, ty, _, _, _⟩ := o; cases ho
            have g2' : (Builtin.len_ ats ty #[a.eval x]).run P w = .ok z w := g2 w
            simp [execOp, resolve, invoke, builtin, ha, g2']
        · cases h
      · cases h
    · split at h
      · rename_i x t hargs hat
        split at h
        · rename_i X e hX hu
          cases h
          obtain ⟨xv, hx, hf⟩ := b1_some hv
          have q := trV_vr hX hr hx
          obtain ⟨z, g1, g2⟩ := capV_ok (P := P) (ts := ats) (ty := 0) hu hat q hf
          have ha : args = #[x] := by rw [← Array.toArray_toList (xs := args), hargs]
          refine ⟨z, g1, fun o ho w => ?_⟩
          obtain ⟨_, _, ty, _, _, _⟩ := o; cases ho
          have g2' : (Builtin.cap_ ats ty #[a.eval x]).run P w = .ok z w := g2 w
          simp [execOp, resolve, invoke, builtin, ha, g2']
        · cases h
      · cases h
    · split at h
      · rename_i l hl
        cases h
        simp only [XP.ev] at hv
        split at hv
        · rename_i vs hvs
          obtain ⟨z, g1, g2⟩ := minV_ok (P := P) (ts := ats) (ty := 0) (trVs_vr hr hl hvs) hv
          refine ⟨z, g1, fun o ho w => ?_⟩
          obtain ⟨_, _, ty, _, _, _⟩ := o; cases ho
          have g2' : (Builtin.min_ ats ty (args.map a.eval)).run P w = .ok z w := by have := g2 w; rw [amap]; simpa [Builtin.min_] using this
          simp only [execOp, resolve, Sem.run_bind, Sem.run_pure, Result.andThen_ok, invoke, builtin, g2']
        · cases hv
      · cases h
    · split at h
      · rename_i l hl
        cases h
        simp only [XP.ev] at hv
        split at hv
        · rename_i vs hvs
          obtain ⟨z, g1, g2⟩ := maxV_ok (P := P) (ts := ats) (ty := 0) (trVs_vr hr hl hvs) hv
          refine ⟨z, g1, fun o ho w => ?_⟩
          obtain ⟨_, _, ty, _, _, _⟩ := o; cases ho
          have g2' : (Builtin.max_ ats ty (args.map a.eval)).run P w = .ok z w := by have := g2 w; rw [amap]; simpa [Builtin.max_] using this
          simp only [execOp, resolve, Sem.run_bind, Sem.run_pure, Result.andThen_ok, invoke, builtin, g2']
        · cases hv
      · cases h
    · cases h
  | _ => simp only [trP, reduceCtorEq] at h
end
end Go.Ev
