/- The evaluator: slices and aggregates compute what the model's do. No program is named here. -/
import Derived.Test.YtngdkgddeobiiaaEv4
namespace Go.Ev
open Go Go.TL

section
variable {P : Program} {r : Ren} {w : World}
theorem sliceBound_of {k : IntKind} {m y : Nat} {code : BoundsCode} (h : m < y + 1) : ∀ w, (Instr.sliceBound (.int k (.ofNat m)) y code).run P w = .ok m w := fun w => by
  have h1 : (0 : Int) ≤ Int.ofNat m ∧ Int.ofNat m ≤ (y : Int) := ⟨by simp, by simp; omega⟩
  simp only [Instr.sliceBound, asIntOf, Sem.run_bind, Sem.run_pure, Result.andThen_ok, if_pos h1]; rfl
def VRo (r : Ren) : Option V → Option Value → Prop
  | none, o => o = none
  | some x, o => ∃ v, o = some v ∧ VR r x v
def oM (mx : Option V) (c m : Nat) : Nat := match mx with | none => c | some _ => m
theorem bnds_ok {len cap cap' : Nat} {lo hi mx : Option V} {lo' hi' mx' : Option Value} {l h m : Nat} {b : Bool} (hlo : VRo r lo lo') (hhi : VRo r hi hi') (hmx : VRo r mx mx') (hc : cap ≤ cap') (hb : bnds len cap lo hi mx = some (l, h, m)) :
    l ≤ h ∧ (∀ w, (Instr.sliceBounds b len cap' lo' hi' mx').run P w = .ok (l, h, oM mx cap' m) w) ∧ (mx = none → m = cap) ∧ m ≤ cap ∧ (hi ≠ none → h ≤ m) ∧ (hi = none → h = len) := by
  unfold bnds at hb
  split at hb
  · cases hb
  · rename_i m0 hm0
    split at hb
    · cases hb
    · rename_i h0 hh0
      split at hb
      · cases hb
      · rename_i l0 hl0
        simp only [Option.some.injEq, Prod.mk.injEq] at hb
        obtain ⟨rfl, rfl, rfl⟩ := hb
        -- max
        have hM : ∃ M, (∀ w, (match mx' with | some v => Instr.sliceBound v cap' (if b then .slice3Acap else .slice3Alen) | none => pure cap' : Sem Nat).run P w = .ok M w) ∧ M = oM mx cap' m0 ∧ (mx = none → m0 = cap) ∧ m0 ≤ cap ∧ m0 ≤ M := by
          cases mx with
          | none =>
            cases hmx
            simp only [bnd, Option.some.injEq] at hm0
            subst hm0
            exact ⟨cap', fun w => rfl, rfl, fun _ => rfl, Nat.le_refl _, hc⟩
          | some x =>
            obtain ⟨v, rfl, hv⟩ := hmx
            simp only [bnd] at hm0
            obtain ⟨k, rfl, hlt⟩ := idx_ok hv hm0
            exact ⟨m0, fun w => sliceBound_of (by omega) w, rfl, (fun e => by cases e), by omega, Nat.le_refl _⟩
        obtain ⟨M, hM1, hM2, hM3, hM4, hM5⟩ := hM
        have hH : (∀ w, (match hi', mx' with | some v, some _ => Instr.sliceBound v M .slice3B | some v, none => Instr.sliceBound v M (if b then .sliceAcap else .sliceAlen) | none, none => pure len | none, some _ => stuck "Slice: max without high" : Sem Nat).run P w = .ok h0 w) ∧ (hi ≠ none → h0 ≤ m0) ∧ (hi = none → h0 = len) := by
          cases hi with
          | none =>
            cases hhi
            cases mx with
            | none =>
              cases hmx
              simp only [Option.some.injEq] at hh0
              subst hh0
              exact ⟨fun w => rfl, fun e => absurd rfl e, fun _ => rfl⟩
            | some x => cases hh0
          | some x =>
            obtain ⟨v, rfl, hv⟩ := hhi
            simp only at hh0
            obtain ⟨k, rfl, hlt⟩ := idx_ok hv hh0
            refine ⟨fun w => ?_, (fun _ => by omega), (fun e => by cases e)⟩
            cases mx' with
            | none => exact sliceBound_of (by omega) w
            | some _ => exact sliceBound_of (by omega) w
        have hL : (∀ w, (match lo' with | some v => Instr.sliceBound v h0 (if mx'.isSome then .slice3C else .sliceB) | none => pure 0 : Sem Nat).run P w = .ok l0 w) ∧ l0 ≤ h0 := by
          cases lo with
          | none =>
            cases hlo
            simp only [Option.some.injEq] at hl0
            subst hl0
            exact ⟨fun w => rfl, Nat.zero_le _⟩
          | some x =>
            obtain ⟨v, rfl, hv⟩ := hlo
            simp only at hl0
            obtain ⟨k, rfl, hlt⟩ := idx_ok hv hl0
            exact ⟨fun w => sliceBound_of hlt w, by omega⟩
        refine ⟨hL.2, fun w => ?_, hM3, hM4, hH.2.1, hH.2.2⟩
        rw [← hM2]
        unfold Instr.sliceBounds
        have hH1 := hH.1
        have hL1 := hL.1
        clear hM2 hH hL hM3 hM4 hM5 hlo hhi hmx hm0 hh0 hl0
        cases mx' <;> cases hi' <;> cases lo' <;> simp only at hM1 hH1 hL1 <;> simp only [Sem.run_bind, hM1, hH1, hL1, Result.andThen_ok] <;> rfl
theorem slsV_ok {t : TypeId} {x v : V} {lo hi : Option V} {a : Value} {lo' hi' : Option Value} (ht : P.underlying t = some .string) (hx : VR r x a) (hlo : VRo r lo lo') (hhi : VRo r hi hi') (h : slsV x lo hi = some v) : ∃ u, VR r v u ∧ ∀ w, (Instr.sliceAt t a lo' hi' none).run P w = .ok u w := by
  unfold slsV at h
  split at h
  · rename_i n l
    obtain ⟨rfl, hn, hl⟩ := hx
    split at h
    · rename_i p q _ hb
      split at h
      · rename_i m hm
        cases h
        rw [dropL_eq] at hm
        obtain ⟨e, hle⟩ := takeL_eq hm
        subst e
        obtain ⟨h1, h2, _⟩ := bnds_ok (P := P) (b := false) hlo hhi (mx := none) (mx' := none) (rfl : (none : Option Value) = none) (Nat.le_refl n) hb
        refine ⟨.string (bts ((l.drop p).take (q - p))), ⟨rfl, by rw [List.length_take]; omega, fun x hx => hl x (List.mem_of_mem_drop (List.mem_of_mem_take hx))⟩, fun w => ?_⟩
        have hsz : (bts l).size = n := by rw [bts_size, hn]
        simp only [Instr.sliceAt, Instr.slice, Sem.run_bind, run_underlying ht, Result.andThen_ok, Option.isSome_none, Bool.false_eq_true, if_false, hsz, h2, Sem.run_pure, bts_extract, List.drop_take]
      · cases h
    · cases h
  · cases h
theorem sllV_ok {t e : TypeId} {sz : Nat} {x v : V} {lo hi mx : Option V} {a : Value} {lo' hi' mx' : Option Value} (ht : P.underlying t = some (.slice e)) (hs : ∀ w, (sizeOf e).run P w = .ok sz w) (hx : VR r x a) (hlo : VRo r lo lo') (hhi : VRo r hi hi') (hmx : VRo r mx mx') (h : sllV sz x lo hi mx = some v) :
    ∃ u, VR r v u ∧ ∀ w, (Instr.sliceAt t a lo' hi' mx').run P w = .ok u w := by
  unfold sllV at h
  split at h
  · split at h
    · rename_i y hb
      obtain ⟨p, q, m⟩ := y
      cases h; cases hx
      obtain ⟨h1, h2, h3, h4, h5, h6⟩ := bnds_ok (P := P) (b := true) hlo hhi hmx (Nat.le_refl 0) hb
      have hq : q = 0 := by
        cases hi with
        | none => exact h6 rfl
        | some y => have := h5 (by simp); omega
      have hp : p = 0 := by omega
      have hM : oM mx 0 m = 0 := by cases mx <;> simp [oM]; omega
      refine ⟨_, rfl, fun w => ?_⟩
      simp only [Instr.sliceAt, Instr.slice, Sem.run_bind, run_underlying ht, Result.andThen_ok, h2, Sem.run_pure, hs, hM, hq, hp]
      simp
    · cases h
  · rename_i i off len c
    obtain ⟨b, C, hr, rfl⟩ := hx
    split at h
    · rename_i p q m hb
      cases h
      obtain ⟨h1, h2, h3, h4, h5, h6⟩ := bnds_ok (P := P) (b := true) hlo hhi hmx (Nat.le_refl c) hb
      have hM : oM mx c m = m := by
        cases mx with
        | none => exact (h3 rfl).symm
        | some _ => rfl
      refine ⟨_, ⟨b, C, hr, rfl⟩, fun w => ?_⟩
      simp only [Instr.sliceAt, Instr.slice, Sem.run_bind, run_underlying ht, Result.andThen_ok, h2, Sem.run_pure, hs, hM, beqN]
      by_cases e : m = p <;> simp [e, addr_at]
    · cases h
  · rename_i i off len c
    obtain ⟨b, C, hr, rfl, hle⟩ := hx
    split at h
    · rename_i y
      split at h
      · rename_i p q m hb
        obtain ⟨h1, h2, h3, h4, h5, h6⟩ := bnds_ok (P := P) (cap' := C - c) (b := true) hlo hhi hmx (by omega) hb
        rw [beqN] at h
        by_cases e : m = p
        · simp [e] at h
        · simp only [e, decide_false, cond_false, Option.some.injEq] at h
          subst h
          refine ⟨_, ⟨b, C, hr, rfl⟩, fun w => ?_⟩
          simp only [Instr.sliceAt, Instr.slice, Sem.run_bind, run_underlying ht, Result.andThen_ok, h2, Sem.run_pure, hs]
          simp [oM, e, addr_at]
      · cases h
    · split at h
      · rename_i p q m hb
        cases hmx
        obtain ⟨h1, h2, h3, h4, h5, h6⟩ := bnds_ok (P := P) (cap' := C - c) (b := true) hlo hhi (mx := none) (mx' := none) (rfl : (none : Option Value) = none) (by omega) hb
        have hqc : q ≤ len := by
          cases hi with
          | none => exact Nat.le_of_eq (h6 rfl)
          | some y => exact Nat.le_trans (h5 (by simp)) h4
        rw [bltN, beqN] at h
        by_cases e : p < len
        · simp only [e, decide_true, cond_true, Option.some.injEq] at h
          subst h
          refine ⟨.slice (some ⟨b, off + p * sz, none⟩) (q - p) (C - (c + p)), ⟨b, C, hr, rfl, by omega⟩, fun w => ?_⟩
          have hne : ¬ C - c = p := by omega
          simp only [Instr.sliceAt, Instr.slice, Sem.run_bind, run_underlying ht, Result.andThen_ok, h2, Sem.run_pure, hs, oM, if_neg hne, Option.map_some, addr_at]
          congr 2; omega
        · simp only [e, decide_false, cond_false] at h
          by_cases e0 : p = 0
          · simp only [e0, decide_true, cond_true, Option.some.injEq] at h
            subst h
            refine ⟨.slice (some ⟨b, off, none⟩) (q - 0) (C - c), ⟨b, C, hr, rfl, by omega⟩, fun w => ?_⟩
            subst e0
            simp only [Instr.sliceAt, Instr.slice, Sem.run_bind, run_underlying ht, Result.andThen_ok, h2, Sem.run_pure, hs, oM]
            split
            · simp
            · simp [addr_at]
          · simp [e0] at h
      · cases h
  · cases h
theorem slpV_ok {t e : TypeId} {sz n : Nat} {x v : V} {lo hi mx : Option V} {a : Value} {lo' hi' mx' : Option Value} (ht : P.underlying t = some (.array n e)) (hs : ∀ w, (sizeOf e).run P w = .ok sz w) (hx : VR r x a) (hlo : VRo r lo lo') (hhi : VRo r hi hi') (hmx : VRo r mx mx') (h : slpV sz n x lo hi mx = some v) :
    ∃ u, VR r v u ∧ ∀ w, (Instr.sliceAt t a lo' hi' mx').run P w = .ok u w := by
  unfold slpV at h
  split at h
  · rename_i i off
    obtain ⟨b, C, hr, rfl⟩ := hx
    split at h
    · rename_i p q m hb
      cases h
      obtain ⟨h1, h2, h3, h4, h5, h6⟩ := bnds_ok (P := P) (b := false) hlo hhi hmx (Nat.le_refl n) hb
      have hM : oM mx n m = m := by
        cases mx with
        | none => exact (h3 rfl).symm
        | some _ => rfl
      refine ⟨_, ⟨b, C, hr, rfl⟩, fun w => ?_⟩
      simp only [Instr.sliceAt, Sem.run_bind, run_underlying ht, Result.andThen_ok, Instr.sureAddr, h2, Sem.run_pure, hs, hM, beqN]
      by_cases e : m = p <;> simp [e, addr_at]
    · cases h
  · cases h
theorem cviV_ok {k : IntKind} {s d : TypeId} {x v : V} {a : Value} (hs : ∃ t, P.underlying s = some t) (hd : P.underlying d = some (.int k)) (hx : VR r x a) (h : cviV k x = some v) : ∃ u, VR r v u ∧ ∀ w, (convert s d a).run P w = .ok u w := by
  unfold cviV at h
  split at h
  · rename_i j n
    obtain ⟨t, ht⟩ := hs
    cases hx; cases h
    refine ⟨_, rfl, fun w => ?_⟩
    simp only [convert, Sem.run_bind, run_underlying ht, run_underlying hd, Result.andThen_ok, Conv.intToInt, wr_eq, Sem.run_pure]
  · cases h
theorem lenV_ok {t : TypeId} {ts : Array TypeId} {ty : TypeId} {x v : V} {a : Value} (ht : (P.underlying t = some .string) ∨ ∃ e, P.underlying t = some (.slice e)) (h0 : ts[0]? = some t) (hx : VR r x a) (h : lenV x = some v)
    (hk : (match x with | .s _ _ => P.underlying t = some .string | _ => ∃ e, P.underlying t = some (.slice e))) : ∃ u, VR r v u ∧ ∀ w, (Builtin.len_ ts ty #[a]).run P w = .ok u w := by
  unfold lenV at h
  split at h
  · rename_i n l
    obtain ⟨rfl, hn, _⟩ := hx
    cases h
    refine ⟨_, rfl, fun w => ?_⟩
    simp [Builtin.len_, h0, run_underlying hk, goInt, bts_size, hn]
  · cases h
    obtain ⟨b, C, n, hr, rfl, _⟩ := VR_sl hx
    obtain ⟨e, he⟩ := hk
    exact ⟨_, rfl, fun w => by simp [Builtin.len_, h0, run_underlying he, goInt]⟩
  · cases h; cases hx
    obtain ⟨e, he⟩ := hk
    exact ⟨_, rfl, fun w => by simp [Builtin.len_, h0, run_underlying he, goInt]⟩
  · cases h
theorem capV_ok {t e : TypeId} {ts : Array TypeId} {ty : TypeId} {x v : V} {a : Value} (ht : P.underlying t = some (.slice e)) (h0 : ts[0]? = some t) (hx : VR r x a) (h : capV x = some v) : ∃ u, VR r v u ∧ ∀ w, (Builtin.cap_ ts ty #[a]).run P w = .ok u w := by
  unfold capV at h
  split at h
  · cases h
    obtain ⟨b, C, hr, rfl⟩ := hx
    exact ⟨_, rfl, fun w => by simp [Builtin.cap_, h0, run_underlying ht, goInt]⟩
  · cases h; cases hx
    exact ⟨_, rfl, fun w => by simp [Builtin.cap_, h0, run_underlying ht, goInt]⟩
  · cases h
theorem minV_ok {ts : Array TypeId} {ty : TypeId} {l : List V} {v : V} {l' : List Value} (hl : VRs r l l') (h : minV l = some v) : ∃ u, VR r v u ∧ ∀ w, (Builtin.min_ ts ty l'.toArray).run P w = .ok u w := by
  unfold minV at h
  split at h
  · rename_i k a j b
    obtain ⟨y, ys, rfl, hy, z, zs, rfl, hz, rfl⟩ := hl
    cases hy; cases hz
    cases hk : Nat.beq (ikn k) (ikn j) with
    | false => rw [hk] at h; cases h
    | true =>
      rw [hk] at h
      simp only [cond_true, Option.some.injEq] at h
      subst h
      refine ⟨_, rfl, fun w => ?_⟩
      rw [ilt_eq]
      by_cases e : b < a <;> simp [Builtin.min_, Builtin.min2, e]
  · cases h
theorem maxV_ok {ts : Array TypeId} {ty : TypeId} {l : List V} {v : V} {l' : List Value} (hl : VRs r l l') (h : maxV l = some v) : ∃ u, VR r v u ∧ ∀ w, (Builtin.max_ ts ty l'.toArray).run P w = .ok u w := by
  unfold maxV at h
  split at h
  · rename_i k a j b
    obtain ⟨y, ys, rfl, hy, z, zs, rfl, hz, rfl⟩ := hl
    cases hy; cases hz
    cases hk : Nat.beq (ikn k) (ikn j) with
    | false => rw [hk] at h; cases h
    | true =>
      rw [hk] at h
      simp only [cond_true, Option.some.injEq] at h
      subst h
      refine ⟨_, rfl, fun w => ?_⟩
      rw [ilt_eq]
      by_cases e : a < b <;> simp [Builtin.max_, Builtin.max2, e]
  · cases h

/-! aggregates put together -/
theorem VRs.over {c n m : List V} {c' n' : List Value} {k : Nat} (hc : VRs r c c') (hn : VRs r n n') (h : overL c k n = some m) : VRs r m (c'.take k ++ n' ++ c'.drop (k + n'.length)) ∧ k + n'.length ≤ c'.length := by
  have h1 := hc.len
  have h2 := hn.len
  obtain ⟨rfl, hl⟩ := overL_eq h
  exact ⟨by rw [h2]; exact ((hc.take k).app hn).app (hc.drop _), by omega⟩
theorem fold_set : ∀ (ns : List Value) (i off : Nat) (c : List Value), off + i + ns.length ≤ c.length → ((ns.zipIdx i).foldl (fun cs (x : Value × Nat) => cs.setIfInBounds (off + x.2) x.1) c.toArray) = (c.take (off + i) ++ ns ++ c.drop (off + i + ns.length)).toArray
  | [], i, off, c, h => by simp
  | n :: ns, i, off, c, h => by
    simp only [List.zipIdx_cons, List.foldl_cons, List.setIfInBounds_toArray, List.length_cons] at h ⊢
    rw [fold_set ns (i + 1) off (c.set (off + i) n) (by simp; omega)]
    congr 1
    apply List.ext_getElem?
    intro j
    simp only [List.getElem?_append, List.length_take, List.length_append, List.length_set, List.getElem?_take, List.getElem?_set, List.getElem?_drop, List.length_cons, List.getElem?_cons]
    grind
theorem fill_step {place : Nat → Option (Nat × Nat)} {c m : List V} {c' : List Value} {off n i : Nat} {x : V} {v : Value} {rest : List (Nat × Value)} (hp : place i = some (off, n)) (hc : VRs r c c') (hn : (cellsV x).length = n) (hv : VRs r (cellsV x) v.cells.toList) (h : overL c off (cellsV x) = some m) :
    ∃ m', VRs r m m' ∧ Instr.fill place c'.toArray ((i, v) :: rest) = Instr.fill place m'.toArray rest := by
  obtain ⟨h1, h2⟩ := hc.over hv h
  have hl := hv.len
  have hsz : v.cells.size = n := by rw [← hn, hl]; simp
  refine ⟨_, h1, ?_⟩
  have : ¬ (decide (v.cells.size ≠ n) || decide (off + v.cells.size > c'.toArray.size)) = true := by simp at h2 ⊢; omega
  simp only [Instr.fill, hp]
  rw [if_neg this]
  congr 1
  have := fold_set v.cells.toList 0 off c' (by simpa using h2)
  simp only [Nat.add_zero] at this
  rw [← this]
  conv => lhs; rw [← Array.foldl_toList]
  simp [Array.toList_zipIdx]
theorem cellsV_ok {x : V} {v : Value} {n : Nat} (hx : VR r x v) (hu : x ≠ .un) : VRs r (cellsV x) v.cells.toList := by
  cases x with
  | ag l => obtain ⟨l', rfl, hl⟩ := hx; simpa [cellsV, Value.cells] using hl
  | un => exact absurd rfl hu
  | sl i off len c =>
    obtain ⟨b, C, n, hr, e, _⟩ := VR_sl hx
    have hx' := hx
    subst e
    exact ⟨_, [], rfl, hx', rfl⟩
  | fn f a b =>
    have hx' := hx
    obtain ⟨a', b', e, _⟩ := hx
    subst e
    exact ⟨_, [], rfl, hx', rfl⟩
  | tu l =>
    have hx' := hx
    obtain ⟨a', e, _⟩ := hx
    subst e
    exact ⟨_, [], rfl, hx', rfl⟩
  | p i o =>
    have hx' := hx
    obtain ⟨a', b', _, e⟩ := hx
    subst e
    exact ⟨_, [], rfl, hx', rfl⟩
  | m i =>
    have hx' := hx
    obtain ⟨a', b', _, e⟩ := hx
    subst e
    exact ⟨_, [], rfl, hx', rfl⟩
  | s n l =>
    have hx' := hx
    obtain ⟨e, _⟩ := hx
    subst e
    exact ⟨_, [], rfl, hx', rfl⟩
  | ifc t y =>
    have hx' := hx
    obtain ⟨_, e, _⟩ := hx
    subst e
    exact ⟨_, [], rfl, hx', rfl⟩
  | _ =>
    have hx' := hx
    simp only [VR] at hx
    subst hx
    exact ⟨_, [], rfl, hx', rfl⟩
end
end Go.Ev
