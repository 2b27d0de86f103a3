/- The evaluator: operations that leave memory alone: they compute what the model's do. No program is named here. -/
import Derived.Test.YtngdkgddeobiiaaEv3
import Derived.WalkLawsBesides
namespace Go.Ev
open Go Go.TL

section
variable {P : Program} {r : Ren} {w : World}
theorem VR_sl {i : Id} {off len : Nat} {c : Cap} {v : Value} (h : VR r (.sl i off len c) v) : ∃ b C n, r i = some (b, C) ∧ v = .slice (some ⟨b, off, none⟩) len n ∧ (∀ k, c = .k k → n = k) ∧ (∀ k, c = .u k → n = C - k ∧ k + len ≤ C) := by
  cases c with
  | k k => obtain ⟨b, C, h1, h2⟩ := h; exact ⟨b, C, k, h1, h2, (fun k' e => by cases e; rfl), (fun k' e => by cases e)⟩
  | u k => obtain ⟨b, C, h1, h2, h3⟩ := h; exact ⟨b, C, _, h1, h2, (fun k' e => by cases e), (fun k' e => by cases e; exact ⟨rfl, h3⟩)⟩
theorem VR.int {k : IntKind} {n : Int} {v : Value} (h : VR r (.i k n) v) : v = .int k n := h
theorem intOp_ok {op : BinOp} {k : IntKind} {a b : Int} {v : V} {t : TypeId} (h : intOp op k a b = some v) : ∃ x, VR r v x ∧ ∀ w, (binOp op t (.int k a) (.int k b)).run P w = .ok x w := by
  cases op <;> simp only [intOp] at h
  case add => cases h; exact ⟨_, rfl, fun w => by simp [binOp, Op.intArith, wr_eq, iadd_eq]⟩
  case sub => cases h; exact ⟨_, rfl, fun w => by simp [binOp, Op.intArith, wr_eq]⟩
  case mul => cases h; exact ⟨_, rfl, fun w => by simp [binOp, Op.intArith, wr_eq]⟩
  case quo =>
    rw [ieq_eq] at h
    by_cases hb : b = 0
    · simp [hb] at h
    · simp only [hb, decide_false, cond_false, Option.some.injEq] at h
      subst h; exact ⟨_, rfl, fun w => by simp [binOp, Op.intDiv, hb, wr_eq]⟩
  case rem =>
    rw [ieq_eq] at h
    by_cases hb : b = 0
    · simp [hb] at h
    · simp only [hb, decide_false, cond_false, Option.some.injEq] at h
      subst h; exact ⟨_, rfl, fun w => by simp [binOp, Op.intDiv, hb]⟩
  case and => cases h; exact ⟨_, rfl, fun w => by simp [binOp, Op.intBits]⟩
  case or => cases h; exact ⟨_, rfl, fun w => by simp [binOp, Op.intBits]⟩
  case xor => cases h; exact ⟨_, rfl, fun w => by simp [binOp, Op.intBits]⟩
  case andNot => cases h; exact ⟨_, rfl, fun w => by simp [binOp, Op.intBits]⟩
  case eql => cases h; exact ⟨_, rfl, fun w => by simp [binOp, Op.intCmp, ieq_eq]; by_cases e : a = b <;> simp [e]⟩
  case neq => cases h; exact ⟨_, rfl, fun w => by simp [binOp, Op.intCmp, ieq_eq]; by_cases e : a = b <;> simp [e]⟩
  case lss => cases h; exact ⟨_, rfl, fun w => by simp [binOp, Op.intCmp, ilt_eq]⟩
  case leq => cases h; exact ⟨_, rfl, fun w => by simp [binOp, Op.intCmp, ilt_eq]; by_cases e : a ≤ b <;> simp [e] <;> omega⟩
  case gtr => cases h; exact ⟨_, rfl, fun w => by simp [binOp, Op.intCmp, ilt_eq]⟩
  case geq => cases h; exact ⟨_, rfl, fun w => by simp [binOp, Op.intCmp, ilt_eq]; by_cases e : b ≤ a <;> simp [e] <;> omega⟩
  all_goals cases h
theorem strOp_ok {op : BinOp} {n m : Nat} {l l' : List Nat} {v : V} {t : TypeId} (hl : l.length = n ∧ ∀ x ∈ l, x < 256) (hm : l'.length = m ∧ ∀ x ∈ l', x < 256) (h : strOp op n l m l' = some v) :
    ∃ x, VR r v x ∧ ∀ w, (binOp op t (.string (bts l)) (.string (bts l'))).run P w = .ok x w := by
  have e1 := bts_beq hl.2 hm.2
  have e2 : Op.bytesLess (bts l).toList (bts l').toList = ltL l l' := by rw [bts_toList, bts_toList, bts_lt hl.2 hm.2]
  cases op <;> simp only [strOp] at h
  case add =>
    cases hb : Nat.ble (n + m) 9223372036854775807 with
    | false => rw [hb] at h; cases h
    | true =>
      rw [hb] at h
      simp only [cond_true, Option.some.injEq] at h
      subst h
      refine ⟨.string (bts (l ++ l')), ⟨rfl, by simp [hl.1, hm.1], fun x hx => ?_⟩, fun w => ?_⟩
      · rcases List.mem_append.1 hx with hx | hx
        · exact hl.2 x hx
        · exact hm.2 x hx
      · have : ¬ (((bts l).size + (bts l').size : Nat) : Int) > IntKind.i64.max := by
          rw [bts_size, bts_size, hl.1, hm.1]
          have := Nat.le_of_ble_eq_true hb
          simp [IntKind.max, IntKind.bits, IntKind.signed]; omega
        simp only [binOp, Op.stringOp, if_neg this, bts_append]; rfl
  case eql => cases h; exact ⟨_, rfl, fun w => by simp only [binOp, Op.stringOp, e1]; rfl⟩
  case neq => cases h; exact ⟨_, rfl, fun w => by simp only [binOp, Op.stringOp, e1]; rfl⟩
  case lss => cases h; exact ⟨_, rfl, fun w => by simp only [binOp, Op.stringOp, e2]; rfl⟩
  case leq => cases h; exact ⟨_, rfl, fun w => by simp only [binOp, Op.stringOp, e1, e2]; rfl⟩
  case gtr => cases h; exact ⟨_, rfl, fun w => by simp only [binOp, Op.stringOp, e1, e2]; rfl⟩
  case geq => cases h; exact ⟨_, rfl, fun w => by simp only [binOp, Op.stringOp, e2]; rfl⟩
  all_goals cases h
theorem bin2_ok {op : BinOp} {x y v : V} {a b : Value} {t : TypeId} (hx : VR r x a) (hy : VR r y b) (h : bin2 op x y = some v) :
    ∃ u, VR r v u ∧ ∀ w, (binOp op t a b).run P w = .ok u w ∧ (∀ o p, (eqGuard op t o p a b).run P w = .ok () w) := by
  unfold bin2 at h
  split at h
  · rename_i k n j m
    cases hx; cases hy
    cases hk : Nat.beq (ikn k) (ikn j) with
    | false => rw [hk] at h; cases h
    | true =>
      rw [hk] at h
      have := ikn_inj hk
      subst this
      obtain ⟨u, h1, h2⟩ := intOp_ok (P := P) (r := r) (t := t) h
      exact ⟨u, h1, fun w => ⟨h2 w, fun o p => by simp [eqGuard]⟩⟩
  · obtain ⟨rfl, hl⟩ := hx
    obtain ⟨rfl, hm⟩ := hy
    obtain ⟨u, h1, h2⟩ := strOp_ok (P := P) (r := r) (t := t) hl hm h
    exact ⟨u, h1, fun w => ⟨h2 w, fun o p => by simp [eqGuard]⟩⟩
  · cases h
theorem shf_ok {left : Bool} {x y v : V} {a b : Value} {t : TypeId} (hx : VR r x a) (hy : VR r y b) (h : shf left x y = some v) :
    ∃ u, VR r v u ∧ ∀ w, (binOp (bif left then .shl else .shr) t a b).run P w = .ok u w := by
  unfold shf at h
  split at h
  · rename_i k n j m
    cases hx; cases hy
    have e0 : ¬ (Int.ofNat m < 0) := by simp
    cases left with
    | true =>
      simp only [Option.some.injEq] at h
      subst h
      exact ⟨_, rfl, fun w => by simp [binOp, Op.shift, wr_eq, Int.natCast_pow]; intro h; omega⟩
    | false =>
      simp only [Option.some.injEq] at h
      subst h
      refine ⟨_, rfl, fun w => ?_⟩
      simp only [cond_false, binOp, Op.shift, if_neg e0]
      have e3 : (Int.ofNat m).toNat = m := rfl
      rw [e3]
      cases n with
      | ofNat n =>
        have : (Int.ofNat n).fdiv (2 ^ min m k.bits) = Int.ofNat (n / 2 ^ min m k.bits) := by
          rw [Int.fdiv_eq_ediv_of_nonneg _ (Int.pow_nonneg (by omega))]
          simp
        rw [this]; rfl
      | negSucc n => rfl
  · cases h
theorem eqn_ok {x y : V} {a b : Value} {t : TypeId} {c : Bool} (hx : VR r x a) (hy : VR r y b) (hc : eqn x y = some c) (ht : eqTy (P.underlying t) x = true) : ∀ w, (Op.equal t a b).run P w = .ok c w := fun w => by
  show (Op.equalIn (9999 + 1) t a b).run P w = _
  unfold Op.equalIn
  cases hu : P.underlying t with
  | none => rw [hu] at ht; simp [eqTy] at ht
  | some d =>
    rw [hu] at ht
    simp only [Sem.run_bind, run_underlying hu, Result.andThen_ok]
    unfold eqn at hc
    split at hc <;> simp only [Option.some.injEq, reduceCtorEq] at hc <;> subst hc <;> cases d <;> simp only [eqTy, reduceCtorEq, Bool.false_eq_true] at ht <;> simp only [VR] at hx hy
    all_goals first
      | (subst hx; subst hy; simp; done)
      | (obtain ⟨b, c, h, e⟩ := hx; subst e; subst hy; simp; done)
      | (subst hx; obtain ⟨b, c, h, e⟩ := hy; subst e; simp; done)
      | (obtain ⟨b, C, n, h, e, _⟩ := VR_sl hy; subst e; subst hx; simp; done)
      | (obtain ⟨b, C, n, h, e, _⟩ := VR_sl hx; subst e; subst hy; simp; done)
      | (obtain ⟨x', y', e, _⟩ := hx; subst e; subst hy; simp; done)
      | (subst hx; obtain ⟨x', y', e, _⟩ := hy; subst e; simp; done)
theorem notV_ok {x v : V} {a : Value} (hx : VR r x a) (h : notV x = some v) : ∃ u, VR r v u ∧ ∀ w, (Op.unary .not a).run P w = .ok u w := by
  unfold notV at h
  split at h
  · cases hx; cases h; exact ⟨_, rfl, fun w => rfl⟩
  · cases h
theorem negV_ok {x v : V} {a : Value} (hx : VR r x a) (h : negV x = some v) : ∃ u, VR r v u ∧ ∀ w, (Op.unary .neg a).run P w = .ok u w := by
  unfold negV at h
  split at h
  · cases hx; cases h; exact ⟨_, rfl, fun w => by simp [Op.unary, Op.intArith, wr_eq]⟩
  · cases h
theorem xorV_ok {x v : V} {a : Value} (hx : VR r x a) (h : xorV x = some v) : ∃ u, VR r v u ∧ ∀ w, (Op.unary .xor a).run P w = .ok u w := by
  unfold xorV at h
  split at h
  · cases hx; cases h; exact ⟨_, rfl, fun w => rfl⟩
  · cases h
theorem extV_ok {n : Nat} {x v : V} {a : Value} (hx : VR r x a) (h : extV n x = some v) : ∃ u, VR r v u ∧ ∀ w, (Instr.extract a n).run P w = .ok u w := by
  unfold extV at h
  split at h
  · obtain ⟨l', e, hl⟩ := hx
    rw [getL_eq] at h
    obtain ⟨b, hb, hr⟩ := hl.get h
    subst e
    exact ⟨b, hr, fun w => by simp [Instr.extract, hb]⟩
  · cases h
theorem addr_at (b off k : Nat) : (⟨b, off, none⟩ : Addr).add k = ⟨b, off + k, none⟩ := by
  unfold Addr.add; split
  · simp [*]
  · rfl
theorem faV_ok {off f : Nat} {t : TypeId} {x v : V} {a : Value} (hf : FieldOK P t f off) (hx : VR r x a) (h : faV off x = some v) : ∃ u, VR r v u ∧ ∀ w, (Instr.fieldAt t a f).run P w = .ok u w := by
  unfold faV at h
  split at h
  · obtain ⟨b, c, hr, e⟩ := hx
    cases h
    subst e
    exact ⟨_, ⟨b, c, hr, rfl⟩, fun w => by rw [hf, addr_at]⟩
  · cases h
structure PartOK (P : Program) (t : TypeId) (agg : Bool) (n : Nat) : Prop where
  agg : ∀ w, (isAgg t).run P w = .ok agg w
  size : ∀ w, (sizeOf t).run P w = .ok n w
theorem partV_ok {t : TypeId} {agg : Bool} {n off : Nat} {l : List V} {l' : List Value} {v : V} (ht : PartOK P t agg n) (hl : VRs r l l') (h : partV agg off n l = some v) : ∃ u, VR r v u ∧ ∀ w, (part t l'.toArray off).run P w = .ok u w := by
  cases agg with
  | true =>
    simp only [partV] at h
    split at h
    · rename_i m hm
      cases h
      rw [dropL_eq] at hm
      obtain ⟨e, _⟩ := takeL_eq hm
      subst e
      refine ⟨.agg ((l'.drop off).take n).toArray, ⟨_, rfl, (hl.drop off).take n⟩, fun w => ?_⟩
      simp only [part, Sem.run_bind, ht.agg, Result.andThen_ok, if_true, ht.size, Sem.run_pure]
      congr 2
      simp [List.take_drop]
    · cases h
  | false =>
    simp only [partV, getL_eq] at h
    obtain ⟨b, hb, hr⟩ := hl.get h
    refine ⟨b, hr, fun w => ?_⟩
    simp [part, ht.agg, hb]
theorem fldV_ok {agg : Bool} {n off f : Nat} {t : TypeId} {x v : V} {a : Value} {fs : Array Field} {fd : Field} (ht : P.underlying t = some (.struct fs)) (hfd : fs[f]? = some fd) (ho : fd.offset = off) (hp : PartOK P fd.type agg n) (hx : VR r x a) (h : fldV agg off n x = some v) :
    ∃ u, VR r v u ∧ ∀ w, (Instr.field t a f).run P w = .ok u w := by
  unfold fldV at h
  split at h
  · obtain ⟨l', e, hl⟩ := hx
    subst e
    obtain ⟨u, h1, h2⟩ := partV_ok hp hl h
    exact ⟨u, h1, fun w => by simp [Instr.field, run_underlying ht, hfd, asAgg, ho, h2]⟩
  · cases h
theorem idx_ok {n m : Nat} {y : V} {b : Value} (hy : VR r y b) (h : idx n y = some m) : ∃ k, b = .int k (.ofNat m) ∧ m < n := by
  unfold idx at h
  split at h
  · rename_i k j
    cases hy
    rw [bltN] at h
    by_cases hm : j < n
    · simp only [hm, decide_true, cond_true, Option.some.injEq] at h; subst h; exact ⟨k, rfl, hm⟩
    · simp [hm] at h
  · cases h
theorem ixaV_ok {t e : TypeId} {sz : Nat} {x y v : V} {a b : Value} (ht : P.underlying t = some (.slice e)) (hs : ∀ w, (sizeOf e).run P w = .ok sz w) (hx : VR r x a) (hy : VR r y b) (h : ixaV sz x y = some v) : ∃ u, VR r v u ∧ ∀ w, (Instr.indexAt t a b).run P w = .ok u w := by
  unfold ixaV at h
  split at h
  · rename_i i off len c
    split at h
    · rename_i m hm
      cases h
      obtain ⟨k, rfl, hlt⟩ := idx_ok hy hm
      obtain ⟨b, C, n, hr, rfl, _⟩ := VR_sl hx
      refine ⟨_, ⟨b, C, hr, rfl⟩, fun w => ?_⟩
      rw [idxOK ht hs ⟨b, off, none⟩ len n k (.ofNat m) w (by simp) (by simp; omega), addr_at]
      rfl
    · cases h
  · cases h
theorem ixpV_ok {t e : TypeId} {sz len : Nat} {x y v : V} {a b : Value} (ht : P.underlying t = some (.array len e)) (hs : ∀ w, (sizeOf e).run P w = .ok sz w) (hx : VR r x a) (hy : VR r y b) (h : ixpV sz len x y = some v) : ∃ u, VR r v u ∧ ∀ w, (Instr.indexAt t a b).run P w = .ok u w := by
  unfold ixpV at h
  split at h
  · rename_i i off
    split at h
    · rename_i m hm
      cases h
      obtain ⟨k, rfl, hlt⟩ := idx_ok hy hm
      obtain ⟨b, C, hr, rfl⟩ := hx
      refine ⟨_, ⟨b, C, hr, rfl⟩, fun w => ?_⟩
      have h1 : (0 : Int) ≤ Int.ofNat m ∧ Int.ofNat m < (len : Int) := ⟨by simp, by simp; omega⟩
      simp only [Instr.indexAt, asIntOf, Sem.run_bind, Sem.run_pure, Result.andThen_ok, run_underlying ht, Instr.sureAddr, if_pos h1, hs, addr_at]
      rfl
    · cases h
  · cases h
theorem ixsV_ok {t : TypeId} {x y v : V} {a b : Value} (ht : P.underlying t = some .string) (hx : VR r x a) (hy : VR r y b) (h : ixsV x y = some v) : ∃ u, VR r v u ∧ ∀ w, (Instr.index t a b).run P w = .ok u w := by
  unfold ixsV at h
  split at h
  · rename_i n l
    obtain ⟨rfl, hn, hl⟩ := hx
    split at h
    · rename_i m hm
      obtain ⟨k, rfl, hlt⟩ := idx_ok hy hm
      split at h
      · rename_i c hc
        cases h
        rw [getL_eq] at hc
        have hc' := hl c (List.mem_of_getElem? hc)
        refine ⟨_, rfl, fun w => ?_⟩
        have h1 : (0 : Int) ≤ Int.ofNat m := by simp
        have h2 : (Int.ofNat m).toNat = m := rfl
        simp only [Instr.index, asIntOf, Sem.run_bind, Sem.run_pure, Result.andThen_ok, run_underlying ht, if_pos h1, h2, bts_get, hc, Option.map_some]
        congr 2
        simp; omega
      · cases h
    · cases h
  · cases h
theorem ixvV_ok {t e : TypeId} {agg : Bool} {sz len : Nat} {x y v : V} {a b : Value} (ht : P.underlying t = some (.array len e)) (hp : PartOK P e agg sz) (hx : VR r x a) (hy : VR r y b) (h : ixvV agg sz len x y = some v) : ∃ u, VR r v u ∧ ∀ w, (Instr.index t a b).run P w = .ok u w := by
  unfold ixvV at h
  split at h
  · obtain ⟨l', e, hl⟩ := hx
    subst e
    split at h
    · rename_i m hm
      obtain ⟨k, rfl, hlt⟩ := idx_ok hy hm
      obtain ⟨u, h1, h2⟩ := partV_ok hp hl h
      refine ⟨u, h1, fun w => ?_⟩
      have h1 : (0 : Int) ≤ Int.ofNat m ∧ Int.ofNat m < (len : Int) := ⟨by simp, by simp; omega⟩
      have e2 : (Int.ofNat m).toNat = m := rfl
      simp only [Instr.index, asIntOf, Sem.run_bind, Sem.run_pure, Result.andThen_ok, run_underlying ht, if_pos h1, hp.size, e2, h2]
    · cases h
  · cases h
end
end Go.Ev
