/- The evaluator: operations that make memory, and maps. No program is named here. -/
import Derived.Test.YtngdkgddeobiiaaEv11
import Derived.Laws.MakeOwn
namespace Go.Ev
open Go Go.TL

section
variable {P : Program} {r : Ren} {E : Env} {a : Act} {w0 w : World} {H : Heap} {c : Id}
theorem run_getObj {b : Nat} {o : Obj} (h : w.heap[b]? = some o) (hn : ∀ c e f, o ≠ .cells c e f) : (getObj b).run P w = .ok o w := by
  unfold getObj
  cases o with
  | cells c e f => exact absurd rfl (hn c e f)
  | _ => simp [Sem.run, h]
theorem run_setObj {b : Nat} {o o' : Obj} (h : w.heap[b]? = some o) (hn : ∀ c e f, o ≠ .cells c e f) : (setObj b o').run P w = .ok () { w with heap := w.heap.setIfInBounds b o' } := by
  unfold setObj
  cases o with
  | cells c e f => exact absurd rfl (hn c e f)
  | _ => simp [Sem.run, h]
theorem run_zeroC {t : TypeId} {z : List V} (h : zeroC P t = some z) : ∃ zz : Value, (∀ w, (zeroValue t).run P w = .ok zz w) ∧ VRs r z zz.cells.toList ∧ zz.cells.size = z.length ∧ sizeP P t = some z.length := by
  obtain ⟨i, zz, hi, hz, hv, h1, h2⟩ := zeroC_ok (r := r) h
  exact ⟨zz, fun w => by simp [zeroValue, typeInfo, hi, hz], hv, by omega, by simp [sizeP, hi, h1]⟩
theorem m_box {t n : Nat} {x : Operand} {X : XV} {v : V} {H' : Heap} {c' : Id} (hX : trV x = some X) (hE : RE r E a) (h : RH w0 r H c w) (hv : (XM.box t n X).ev E H c = some (v, H', c')) : MOK P w0 r a (.box t x) w v H' c' := by
  simp only [XM.ev] at hv
  split at hv
  · rename_i xv hx
    cases hk : (known xv && Nat.beq (cellsV xv).length n) with
    | false => rw [hk] at hv; cases hv
    | true =>
      rw [hk] at hv
      simp only [cond_true] at hv
      simp only [Bool.and_eq_true] at hk
      have hu : xv ≠ .un := fun e => by subst e; simp [known] at hk
      have hxv := trV_vr hX hE hx
      have hc := cellsV_ok (n := 0) hxv hu
      refine MOK.new (x := .cells (a.eval x).cells t) (z := .pointer (some ⟨w.heap.size, 0, none⟩)) 0 h hv (fun r' hr' => ⟨(a.eval x).cells.toList, by simp, hc.mono hr'⟩) (fun r' hr' => ⟨_, _, hr', rfl⟩) fun oo ho => ?_
      obtain ⟨_, _, _, _, _, _⟩ := oo; cases ho
      simp [execOp, Instr.box, newVar, newRow]
  · cases hv
theorem m_alloc {t : TypeId} {z : List V} {v : V} {H' : Heap} {c' : Id} (hz : zeroC P t = some z) (h : RH w0 r H c w) (hv : (XM.alloc t z).ev E H c = some (v, H', c')) : MOK P w0 r a (.alloc t) w v H' c' := by
  obtain ⟨zz, q1, q2, q3, q4⟩ := run_zeroC (r := r) hz
  simp only [XM.ev] at hv
  refine MOK.new (x := .cells zz.cells t) (z := .pointer (some ⟨w.heap.size, 0, none⟩)) 0 h hv (fun r' hr' => ⟨zz.cells.toList, by simp, q2.mono hr'⟩) (fun r' hr' => ⟨_, _, hr', rfl⟩) fun oo ho => ?_
  obtain ⟨_, _, _, _, _, _⟩ := oo; cases ho
  simp [execOp, Instr.alloc, q1, newVar, newRow]
theorem rep_get {α : Type} : ∀ (n : Nat) (l : List α) (i : Nat), 0 < l.length → ((List.replicate n l).flatten)[i]? = if i < n * l.length then l[i % l.length]? else none
  | 0, l, i, _ => by simp
  | n + 1, l, i, h => by
    rw [List.replicate_succ, List.flatten_cons, List.getElem?_append]
    by_cases hi : i < l.length
    · rw [if_pos hi, if_pos (by rw [Nat.add_mul, Nat.one_mul]; omega), Nat.mod_eq_of_lt hi]
    · rw [if_neg hi, rep_get n l (i - l.length) h]
      have e1 : (i - l.length) % l.length = i % l.length := by
        conv => rhs; rw [show i = (i - l.length) + l.length by omega, Nat.add_mod_right]
      rw [e1]
      by_cases h2 : i < (n + 1) * l.length
      · rw [if_pos h2, if_pos (by rw [Nat.add_mul, Nat.one_mul] at h2; omega)]
      · rw [if_neg h2, if_neg (by rw [Nat.add_mul, Nat.one_mul] at h2; omega)]
theorem VRs.rep {l : List V} {l' : List Value} (h : VRs r l l') : ∀ n, VRs r (List.flatten (List.replicate n l)) (List.flatten (List.replicate n l'))
  | 0 => by simp [VRs]
  | n + 1 => by simp only [List.replicate_succ, List.flatten_cons]; exact h.app (h.rep n)
theorem range_rep {n : Nat} {zz : Array Value} (h : 0 < zz.size) : ((Array.range (n * zz.size)).map (fun i => zz[i % zz.size]!)) = (List.flatten (List.replicate n zz.toList)).toArray := by
  apply Array.ext'
  apply List.ext_getElem?
  intro i
  simp only [Array.toList_map, Array.toList_range, List.getElem?_map]
  rw [rep_get _ _ _ (by simpa using h)]
  simp only [Array.length_toList]
  by_cases hi : i < n * zz.size
  · rw [if_pos hi, List.getElem?_range hi]
    have : i % zz.size < zz.size := Nat.mod_lt _ h
    simp [this]
  · rw [if_neg hi, List.getElem?_eq_none (by simp; omega)]; rfl
theorem m_bsl {t e len : Nat} {ps : Array (Nat × Operand)} {z : List V} {pl : List (Nat × Nat)} {L : List XV} {v : V} {H' : Heap} {c' : Id} (hu : P.underlying t = some (.slice e)) (hz : zeroC P e = some z) (hp : places P t (ps.toList.map (·.1)) = some pl) (hL : trVs (ps.toList.map (·.2)) = some L)
    (hsz : (Nat.ble (len * z.length) 16777216 && Nat.blt 0 (len * z.length)) = true) (hE : RE r E a) (h : RH w0 r H c w) (hv : (XM.bsl e len (List.flatten (List.replicate len z)) pl L).ev E H c = some (v, H', c')) : MOK P w0 r a (.buildSlice t len ps) w v H' c' := by
  simp only [XM.ev] at hv
  obtain ⟨zz, q1, q2, q3, q4⟩ := run_zeroC (r := r) hz
  simp only [Bool.and_eq_true, bltN, decide_eq_true_eq] at hsz
  have hs1 := Nat.le_of_ble_eq_true hsz.1
  split at hv
  · rename_i vs hvs
    cases hk : vs.all known with
    | false => rw [hk] at hv; cases hv
    | true =>
      rw [hk] at hv
      simp only [cond_true] at hv
      split at hv
      · rename_i cs hcs
        obtain ⟨hlen, hget⟩ := places_get hp
        have hpos : 0 < z.length := by
          rcases Nat.eq_zero_or_pos z.length with e | e
          · rw [e] at hsz; simp at hsz
          · exact e
        obtain ⟨m', g1, g2⟩ := fillV_ok (r := r) (place := fun i => some (i * z.length, z.length)) (fun j i p h1 h2 => by
          have h3 := hget j i p h1 h2
          simpa only [placeF, hu, q4] using h3) hlen (q2.rep len) (trVs_vr hE hL hvs) hk hcs
        refine MOK.new (x := .cells m'.toArray e) (z := .slice (some ⟨w.heap.size, 0, none⟩) len len) 0 h hv (fun r' hr' => ⟨m', rfl, g1.mono hr'⟩) (fun r' hr' => ⟨_, _, hr', rfl⟩) fun oo ho => ?_
        obtain ⟨_, _, _, _, _, _⟩ := oo; cases ho
        have h1 : ¬ len * z.length > 2 ^ 24 := by omega
        have h2 : ¬ len * z.length = 0 := by omega
        have hrr : ((Array.range (len * z.length)).map (fun i => zz.cells[i % zz.cells.size]!)) = (List.flatten (List.replicate len zz.cells.toList)).toArray := by
          rw [← q3]; exact range_rep (by omega)
        simp only [execOp, zip_map, Instr.buildSlice, Sem.run_bind, run_underlying hu, Result.andThen_ok, run_sizeP q4, if_neg h1, if_neg h2, q1, Sem.run_pure]
        simp only [hrr, g2]
        simp [newRow]
      · cases hv
  · cases hv
theorem m_mkm {t : TypeId} {v : V} {H' : Heap} {c' : Id} (h : RH w0 r H c w) (hv : XM.mkm.ev E H c = some (v, H', c')) : MOK P w0 r a (.makeMap t none) w v H' c' := by
  simp only [XM.ev] at hv
  refine MOK.new (x := .map #[] 0) (z := .map (some w.heap.size)) 0 h hv (fun r' hr' => ⟨[], rfl, rfl, rfl⟩) (fun r' hr' => ⟨_, _, hr', rfl⟩) fun oo ho => ?_
  obtain ⟨_, _, _, _, _, _⟩ := oo; cases ho
  simp [execOp, Instr.makeMap]
theorem m_rng {t : TypeId} {x : Operand} {X : XV} {v : V} {H' : Heap} {c' : Id} (hu : P.underlying t = some .string) (hX : trV x = some X) (hE : RE r E a) (h : RH w0 r H c w) (hv : (XM.rng X).ev E H c = some (v, H', c')) : MOK P w0 r a (.range t x) w v H' c' := by
  simp only [XM.ev] at hv
  split at hv
  · rename_i n l hx
    obtain ⟨e, hn, hl⟩ := trV_vr hX hE hx
    refine MOK.new (x := .stringIter (bts l) 0) (z := .pointer (some ⟨w.heap.size, 0, none⟩)) 0 h hv (fun r' hr' => ⟨rfl, hn, hl, rfl, Nat.zero_le _⟩) (fun r' hr' => ⟨_, _, hr', rfl⟩) fun oo ho => ?_
    obtain ⟨_, _, _, _, _, _⟩ := oo; cases ho
    simp [execOp, e, Instr.range, run_underlying hu]
  · cases hv
theorem m_nxt {x : Operand} {X : XV} {v : V} {H' : Heap} {c' : Id} (hX : trV x = some X) (hE : RE r E a) (h : RH w0 r H c w) (hv : (XM.nxt X).ev E H c = some (v, H', c')) : MOK P w0 r a (.next x true) w v H' c' := by
  simp only [XM.ev] at hv
  split at hv
  · rename_i i hx
    obtain ⟨b, n, hr, e⟩ := trV_vr hX hE hx
    split at hv
    · rename_i m l rest pos hi
      obtain ⟨b', n', x', g1, g2, g3, g4⟩ := h.obj _ _ hi
      rw [hr] at g1
      simp only [Option.some.injEq, Prod.mk.injEq] at g1
      obtain ⟨rfl, rfl⟩ := g1
      obtain ⟨rfl, hm, hl, hrest, hpos⟩ := g4
      split at hv
      · simp only [Option.some.injEq, Prod.mk.injEq] at hv
        obtain ⟨rfl, rfl, rfl⟩ := hv
        refine MOK.val h (z := .tuple #[.bool false]) ⟨[.bool false], rfl, .bool false, [], rfl, rfl, rfl⟩ fun oo ho => ?_
        obtain ⟨_, _, _, _, _, _⟩ := oo; cases ho
        have hlt : ¬ pos < (bts l).size := by
          rw [bts_size]
          have := congrArg List.length hrest
          simp at this; omega
        simp only [execOp, e, Instr.next, Sem.run_bind, run_getObj g3 (fun _ _ _ e => by cases e), Result.andThen_ok, if_neg hlt, Sem.run_pure]
      · rename_i bb rest'
        cases hb : Nat.blt bb 128 with
        | false => rw [hb] at hv; cases hv
        | true =>
          rw [hb] at hv
          rw [bltN] at hb
          simp only [decide_eq_true_eq] at hb
          simp only [cond_true, Option.some.injEq, Prod.mk.injEq] at hv
          obtain ⟨rfl, rfl, rfl⟩ := hv
          have hlt : pos < l.length := by
            have := congrArg List.length hrest
            simp at this; omega
          have hget : l[pos] = bb := by
            have := congrArg (fun q : List Nat => q[0]?) hrest
            simp at this
            rw [List.getElem?_eq_getElem hlt] at this
            simpa using this.symm
          have hlt' : pos < (bts l).size := by rw [bts_size]; exact hlt
          have hbt : ((bts l)[pos]'hlt').toNat = bb := by
            have h1 := bts_get l pos
            rw [getElem?_pos (bts l) pos hlt', List.getElem?_eq_getElem hlt] at h1
            simp only [Option.map_some, Option.some.injEq] at h1
            rw [h1, hget]; simp; omega
          have hdec := decode_ascii (bts l) pos hlt' (by rw [hbt]; exact hb)
          rw [hbt] at hdec
          let w' : World := { w with heap := w.heap.setIfInBounds b (.stringIter (bts l) (pos + 1)) }
          have hbl := (Array.getElem?_eq_some_iff.1 g3).1
          refine ⟨r, .tuple #[.bool true, .int .i64 (.ofNat pos), .int .i32 (.ofNat bb)], w', r.le_refl, ⟨_, rfl, .bool true, _, rfl, rfl, .int .i64 (.ofNat pos), _, rfl, rfl, .int .i32 (.ofNat bb), _, rfl, rfl, rfl⟩,
            h.upd hi hr rfl rfl rfl (x' := .stringIter (bts l) (pos + 1)) (by simp [w', hbl]) (fun k hk => by simp [w', Array.getElem?_setIfInBounds_ne (fun e => hk e.symm)]) ⟨rfl, hm, hl, ?_, by omega⟩, fun oo ho => .inl ?_⟩
          · rw [← List.drop_drop, ← hrest]; rfl
          · obtain ⟨_, _, _, _, _, _⟩ := oo; cases ho
            simp only [execOp, e, Instr.next, Sem.run_bind, run_getObj g3 (fun _ _ _ e => by cases e), Result.andThen_ok, if_pos hlt', hdec, run_setObj g3 (fun _ _ _ e => by cases e), Sem.run_pure]
            rfl
    · cases hv
  · cases hv
/-! maps -/
theorem bts_self (b : ByteArray) : (b == b) = true := by rw [beq_toListBytes]; simp
theorem same_ok {k k' : V} {K K' : Value} {b : Bool} {d : TypeDesc} (hk : VR r k K) (hk' : VR r k' K') (hb : cellEq k k' = some b) (ht : tyTag (some d) = vTag k) (h56 : vTag k = 5 ∨ vTag k = 6) : Instr.sameNow d K K' = some b ∧ (b = true → K = K') ∧ Instr.sameBits 10000 K K = true := by
  unfold cellEq at hb
  split at hb
  · simp [vTag] at h56
  · rename_i kd a kj c
    cases hk; cases hk'
    cases hq : Nat.beq (ikn kd) (ikn kj) with
    | false => rw [hq] at hb; cases hb
    | true =>
      rw [hq] at hb
      have := ikn_inj hq
      subst this
      simp only [cond_true, Option.some.injEq] at hb
      subst hb
      rw [ieq_eq]
      cases d <;> simp [tyTag, vTag] at ht
      refine ⟨?_, fun e => by simpa using e, by simp [Instr.sameBits]⟩
      simp only [Instr.sameNow, if_true]
      by_cases e : a = c <;> simp [e]
  · rename_i n l m l'
    obtain ⟨rfl, hl⟩ := hk
    obtain ⟨rfl, hl'⟩ := hk'
    simp only [Option.some.injEq] at hb
    subst hb
    cases d <;> simp [tyTag, vTag] at ht
    refine ⟨?_, fun e => ?_, by simp [Instr.sameBits, bts_self]⟩
    · simp only [Instr.sameNow]
      rw [beq_toListBytes, bts_beq hl.2 hl'.2]
    · rw [beqL_eq] at e
      simp only [decide_eq_true_eq] at e
      rw [e]
  · cases hb
theorem findNow_ok {k : V} {K : Value} {d : TypeDesc} (hk : VR r k K) (ht : tyTag (some d) = vTag k) (h56 : vTag k = 5 ∨ vTag k = 6) : ∀ {es : List (V × V)} {bs : List Nat} {l : List MapEntry} {res : Option (Nat × V)}, ERs r es bs l → findK k es = some res → ∀ i0,
    match res with
    | none => Instr.findNow d K l i0 = some none
    | some (n, v) => ∃ m, l[n]? = some m ∧ VR r v m.val ∧ m.key = K ∧ Instr.findNow d K l i0 = some (some (i0 + n, m.val))
  | [], bs, l, res, he, hf, i0 => by
    obtain ⟨_, rfl⟩ := he
    simp only [findK, Option.some.injEq] at hf
    subst hf
    rfl
  | (k', v) :: es, bs, l, res, he, hf, i0 => by
    obtain ⟨b, bs', m, l', rfl, rfl, e3, h1, h2, h3⟩ := he
    simp only [findK] at hf
    split at hf
    · rename_i hc
      cases hf
      obtain ⟨q1, q2, _⟩ := same_ok hk h1 hc ht h56
      exact ⟨m, rfl, h2, (q2 rfl).symm, by simp [Instr.findNow, q1]⟩
    · rename_i hc
      obtain ⟨q1, q2, _⟩ := same_ok hk h1 hc ht h56
      split at hf
      · rename_i n u hrec
        cases hf
        obtain ⟨m', g1, g2, g3, g4⟩ := findNow_ok hk ht h56 h3 hrec (i0 + 1)
        refine ⟨m', by simpa using g1, g2, g3, ?_⟩
        simp only [Instr.findNow, q1, g4]
        congr 3; omega
      · rename_i hno
        have hres : res = none := by
          cases res with
          | none => rfl
          | some x => exact absurd hf (by obtain ⟨n, u⟩ := x; exact hno n u)
        subst hres
        have := findNow_ok hk ht h56 h3 hf (i0 + 1)
        simp only [Instr.findNow, q1]
        exact this
    · cases hf
theorem ERs.len : ∀ {es : List (V × V)} {bs : List Nat} {l : List MapEntry}, ERs r es bs l → l.length = es.length ∧ bs.length = es.length
  | [], _, _, ⟨h1, h2⟩ => by subst h1 h2; exact ⟨rfl, rfl⟩
  | (_, _) :: es, _, _, ⟨b, bs', m, l', e1, e2, e3, h1, h2, h3⟩ => by subst e1 e2; have := h3.len; simp [this]
theorem ERs.push {k v : V} {K x : Value} {b : Nat} (hk : VR r k K) (hv : VR r v x) : ∀ {es : List (V × V)} {bs : List Nat} {l : List MapEntry}, ERs r es bs l → ERs r (es ++ [(k, v)]) (bs ++ [b]) (l ++ [{ key := K, val := x, born := b }])
  | [], _, _, ⟨h1, h2⟩ => by subst h1 h2; exact ⟨b, [], _, [], rfl, rfl, rfl, hk, hv, rfl, rfl⟩
  | (_, _) :: es, _, _, ⟨b', bs', m, l', e1, e2, e3, h1, h2, h3⟩ => by subst e1 e2; exact ⟨b', _, m, _, rfl, rfl, e3, h1, h2, h3.push hk hv⟩
theorem ERs.setE {k v : V} {K x : Value} (hk : VR r k K) (hv : VR r v x) : ∀ {es : List (V × V)} {bs : List Nat} {l : List MapEntry} (n : Nat), ERs r es bs l → ERs r (setE es n k v) bs (l.modify n fun e => { e with key := K, val := x })
  | [], _, _, n, ⟨h1, h2⟩ => by subst h1 h2; exact ⟨rfl, by simp⟩
  | (_, _) :: es, _, _, 0, ⟨b', bs', m, l', e1, e2, e3, h1, h2, h3⟩ => by subst e1 e2; exact ⟨b', bs', _, l', rfl, rfl, e3, hk, hv, h3⟩
  | (_, _) :: es, _, _, n + 1, ⟨b', bs', m, l', e1, e2, e3, h1, h2, h3⟩ => by subst e1 e2; exact ⟨b', bs', m, _, rfl, rfl, e3, h1, h2, h3.setE hk hv n⟩
theorem checkKey_ok {kt : TypeId} {d : TypeDesc} (hu : P.underlying kt = some d) (h : tyTag (some d) = 5 ∨ tyTag (some d) = 6) (b : Bool) (K : Value) (w : World) : (Instr.checkKey b 10000 kt K).run P w = .ok () w := by
  show (Instr.checkKey b (9999 + 1) kt K).run P w = _
  unfold Instr.checkKey
  simp only [Sem.run_bind, run_underlying hu, Result.andThen_ok]
  cases d <;> simp [tyTag] at h <;> simp
theorem m_ins {t kt et : TypeId} {m k x : Operand} {M K X : XV} {v : V} {H' : Heap} {c' : Id} (hu : P.underlying t = some (.map kt et)) (ht : (Nat.beq (tyTag (P.underlying kt)) 5 || Nat.beq (tyTag (P.underlying kt)) 6) = true) (hM : trV m = some M) (hK : trV k = some K) (hX : trV x = some X)
    (hE : RE r E a) (h : RH w0 r H c w) (hv : (XM.ins (tyTag (P.underlying kt)) M K X).ev E H c = some (v, H', c')) :
    MOK P w0 r a (.insert t m k x) w v H' c' ∧ MOK P w0 r a (.mapUpdate t m k x) w v H' c' := by
  simp only [XM.ev] at hv
  split at hv
  · rename_i i kv xv hm hk hx
    cases hb : Nat.beq (vTag kv) (tyTag (P.underlying kt)) with
    | false => rw [hb] at hv; cases hv
    | true =>
      rw [hb] at hv
      simp only [cond_true] at hv
      have htag := Nat.eq_of_beq_eq_true hb
      obtain ⟨b, n, hr, em⟩ := trV_vr hM hE hm
      have hkv := trV_vr hK hE hk
      have hxv := trV_vr hX hE hx
      cases hud : P.underlying kt with
      | none => rw [hud] at ht; simp [tyTag] at ht
      | some d =>
        rw [hud] at ht htag
        have h56 : tyTag (some d) = 5 ∨ tyTag (some d) = 6 := by simpa using ht
        split at hv
        · rename_i es bs clock hi
          obtain ⟨b', n', x', g1, g2, g3, g4⟩ := h.obj _ _ hi
          rw [hr] at g1
          simp only [Option.some.injEq, Prod.mk.injEq] at g1
          obtain ⟨rfl, rfl⟩ := g1
          obtain ⟨l, rfl, hers⟩ := g4
          have hbl := (Array.getElem?_eq_some_iff.1 g3).1
          split at hv
          · rename_i q u hf
            simp only [Option.some.injEq, Prod.mk.injEq] at hv
            obtain ⟨rfl, rfl, rfl⟩ := hv
            obtain ⟨me, f1, f2, f3, f4⟩ := findNow_ok hkv (d := d) htag.symm (by rw [htag]; exact h56) hers hf 0
            have hsb : Instr.sameBits 10000 (a.eval k) (a.eval k) = true := by
              have hq := hers
              -- the key found is equal to the one asked for
              rcases h56 with h56 | h56 <;> rw [← htag] at h56 <;> cases kv <;> simp [vTag] at h56
              · simp only [VR] at hkv; rw [hkv]; simp [Instr.sameBits]
              · obtain ⟨e, _⟩ := hkv; rw [e]; simp [Instr.sameBits, bts_self]
            let w' : World := { w with heap := w.heap.setIfInBounds b (.map (l.toArray.modify q fun e => { e with key := a.eval k, val := a.eval x }) clock) }
            have run : (Instr.mapUpdate t (a.eval m) (a.eval k) (a.eval x)).run P w = .ok () w' := by
              simp only [Instr.mapUpdate, Sem.run_bind, run_underlying hu, Result.andThen_ok, em, run_getObj g3 (fun _ _ _ e => by cases e), checkKey_ok hud h56, Instr.findKey, run_underlying hud, f4, Sem.run_pure, Nat.zero_add, Instr.keyThatStays]
              simp only [List.getElem?_toArray, f1, Option.map_some, Option.getD_some, f3, hsb, if_true, Sem.run_pure, Result.andThen_ok, run_setObj g3 (fun _ _ _ e => by cases e)]
              rfl
            have hup : RH w0 r (put5 H i (.lf (.mp (setE es q kv xv) bs clock))) c w' := h.upd hi hr rfl rfl rfl (x' := .map (l.toArray.modify q fun e => { e with key := a.eval k, val := a.eval x }) clock) (by simp [w', hbl]) (fun k hk => by simp [w', Array.getElem?_setIfInBounds_ne (fun e => hk e.symm)]) ⟨_, by rw [List.modify_toArray], hers.setE hkv hxv q⟩
            exact ⟨⟨r, undef, w', r.le_refl, trivial, hup, fun oo ho => .inr ⟨rfl, by obtain ⟨_, _, _, _, _, _⟩ := oo; cases ho; simp [execOp, run]⟩⟩, ⟨r, undef, w', r.le_refl, trivial, hup, fun oo ho => .inr ⟨rfl, by obtain ⟨_, _, _, _, _, _⟩ := oo; cases ho; simp [execOp, run]⟩⟩⟩
          · rename_i hf
            simp only [Option.some.injEq, Prod.mk.injEq] at hv
            obtain ⟨rfl, rfl, rfl⟩ := hv
            have f4 := findNow_ok hkv (d := d) htag.symm (by rw [htag]; exact h56) hers hf 0
            let w' : World := { w with heap := w.heap.setIfInBounds b (.map (l.toArray.push { key := a.eval k, val := a.eval x, born := clock }) (clock + 1)) }
            have run : (Instr.mapUpdate t (a.eval m) (a.eval k) (a.eval x)).run P w = .ok () w' := by
              simp only at f4
              simp only [Instr.mapUpdate, Sem.run_bind, run_underlying hu, Result.andThen_ok, em, run_getObj g3 (fun _ _ _ e => by cases e), checkKey_ok hud h56, Instr.findKey, run_underlying hud, f4, Sem.run_pure, run_setObj g3 (fun _ _ _ e => by cases e)]
              rfl
            have hup : RH w0 r (put5 H i (.lf (.mp (es ++ [(kv, xv)]) (bs ++ [clock]) (clock + 1)))) c w' := h.upd hi hr rfl rfl rfl (x' := .map (l.toArray.push { key := a.eval k, val := a.eval x, born := clock }) (clock + 1)) (by simp [w', hbl]) (fun k hk => by simp [w', Array.getElem?_setIfInBounds_ne (fun e => hk e.symm)]) ⟨_, by rw [List.push_toArray], hers.push hkv hxv⟩
            exact ⟨⟨r, undef, w', r.le_refl, trivial, hup, fun oo ho => .inr ⟨rfl, by obtain ⟨_, _, _, _, _, _⟩ := oo; cases ho; simp [execOp, run]⟩⟩, ⟨r, undef, w', r.le_refl, trivial, hup, fun oo ho => .inr ⟨rfl, by obtain ⟨_, _, _, _, _, _⟩ := oo; cases ho; simp [execOp, run]⟩⟩⟩
          · cases hv
        · cases hv
  · cases hv
theorem m_lkp {t kt et : TypeId} {m k : Operand} {M K : XV} {ok : Bool} {zero v : V} {H' : Heap} {c' : Id} (hu : P.underlying t = some (.map kt et)) (ht : (Nat.beq (tyTag (P.underlying kt)) 5 || Nat.beq (tyTag (P.underlying kt)) 6) = true) (hM : trV m = some M) (hK : trV k = some K) (hz : zero1 P et = some zero)
    (hE : RE r E a) (h : RH w0 r H c w) (hv : (XM.lkp (tyTag (P.underlying kt)) zero ok M K).ev E H c = some (v, H', c')) : MOK P w0 r a (.lookup t m k ok) w v H' c' := by
  simp only [XM.ev] at hv
  split at hv
  · rename_i i kv hm hk
    obtain ⟨b, n, hr, em⟩ := trV_vr hM hE hm
    have hkv := trV_vr hK hE hk
    split at hv
    · rename_i es bs clock hi
      cases hb : Nat.beq (vTag kv) (tyTag (P.underlying kt)) with
      | false => rw [hb] at hv; cases hv
      | true =>
        rw [hb] at hv
        simp only [cond_true] at hv
        have htag := Nat.eq_of_beq_eq_true hb
        cases hud : P.underlying kt with
        | none => rw [hud] at ht; simp [tyTag] at ht
        | some d =>
          rw [hud] at ht htag
          have h56 : tyTag (some d) = 5 ∨ tyTag (some d) = 6 := by simpa using ht
          obtain ⟨b', n', x', g1, g2, g3, g4⟩ := h.obj _ _ hi
          rw [hr] at g1
          simp only [Option.some.injEq, Prod.mk.injEq] at g1
          obtain ⟨rfl, rfl⟩ := g1
          obtain ⟨l, rfl, hers⟩ := g4
          split at hv
          · rename_i q u hf
            simp only [Option.some.injEq, Prod.mk.injEq] at hv
            obtain ⟨rfl, rfl, rfl⟩ := hv
            obtain ⟨me, f1, f2, f3, f4⟩ := findNow_ok hkv (d := d) htag.symm (by rw [htag]; exact h56) hers hf 0
            refine MOK.val h (z := if ok then .tuple #[me.val, .bool true] else me.val) ?_ fun oo ho => ?_
            · cases ok with
              | true => exact ⟨_, rfl, _, _, rfl, f2, _, _, rfl, rfl, rfl⟩
              | false => exact f2
            · obtain ⟨_, _, _, _, _, _⟩ := oo; cases ho
              simp only [execOp, Instr.lookup, Sem.run_bind, run_underlying hu, Result.andThen_ok, em, run_getObj g3 (fun _ _ _ e => by cases e), Sem.run_pure, checkKey_ok hud h56, Instr.findKey, run_underlying hud, f4]
          · rename_i hf
            simp only [Option.some.injEq, Prod.mk.injEq] at hv
            obtain ⟨rfl, rfl, rfl⟩ := hv
            have f4 := findNow_ok hkv (d := d) htag.symm (by rw [htag]; exact h56) hers hf 0
            simp only at f4
            unfold zero1 at hz
            split at hz
            · rename_i ii hii
              split at hz
              · rename_i zz hzz
                have hzv := ofVal_vr (r := r) hz
                have hzr : ∀ w, (zeroValue et).run P w = .ok zz w := fun w => by simp [zeroValue, typeInfo, hii, hzz]
                refine MOK.val h (z := if ok then .tuple #[zz, .bool false] else zz) ?_ fun oo ho => ?_
                · cases ok with
                  | true => exact ⟨_, rfl, _, _, rfl, hzv, _, _, rfl, rfl, rfl⟩
                  | false => exact hzv
                · obtain ⟨_, _, _, _, _, _⟩ := oo; cases ho
                  simp only [execOp, Instr.lookup, Sem.run_bind, run_underlying hu, Result.andThen_ok, em, run_getObj g3 (fun _ _ _ e => by cases e), Sem.run_pure, checkKey_ok hud h56, Instr.findKey, run_underlying hud, f4, hzr]
              · cases hz
            · cases hz
          · cases hv
    · cases hv
  · cases hv
end
end Go.Ev
