/- The evaluator: append and make; all operations on memory, translated. No program is named here. -/
import Derived.Test.YtngdkgddeobiiaaEv12
namespace Go.Ev
open Go Go.TL

section
variable {P : Program} {r : Ren} {E : Env} {a : Act} {w0 w : World} {H : Heap} {c : Id}
theorem appCells_ok {sz m : Nat} {x : V} {A : Value} {news : List V} (h : RH w0 r H c w) (hx : VR r x A) (ha : appCells H sz x = some (m, news)) : ∃ ad cap news', A = .slice (some ad) m cap ∧ VRs r news news' ∧ news.length = m * sz ∧ ∀ (j : Nat) u, news'[j]? = some u → w.cell? (ad.add j) = some u := by
  unfold appCells at ha
  split at ha
  · rename_i i off m' cc
    obtain ⟨b, C, n, hr, rfl, _⟩ := VR_sl hx
    split at ha
    · rename_i o ho
      split at ha
      · rename_i cs hcs
        split at ha
        · rename_i l hl
          simp only [Option.some.injEq, Prod.mk.injEq] at ha
          obtain ⟨rfl, rfl⟩ := ha
          rw [dropL_eq] at hl
          obtain ⟨rfl, hlen⟩ := takeL_eq hl
          have hat : at5 H (.p i off) = some (i, off, o, cs) := by simp [at5, ho, hcs]
          obtain ⟨b', n', t, vs, ex, e1, e2, e3, e4, e5, e6, e7, e8⟩ := h.at (x := .p i off) (A := .pointer (some ⟨b, off, none⟩)) ⟨b, C, hr, rfl⟩ hat
          simp only [Value.pointer.injEq, Option.some.injEq, Addr.mk.injEq, and_true] at e1
          subst e1
          refine ⟨⟨b, off, none⟩, n, (vs.drop off).take (m' * sz), rfl, (e7.drop off).take _, by rw [List.length_take]; omega, fun j u hj => ?_⟩
          rw [addr_at]
          refine cell_of e6 ?_
          rw [List.getElem?_take] at hj
          split at hj
          · simpa using hj
          · cases hj
        · cases ha
      · cases ha
    · cases ha
  · cases ha
theorem ownCells_ok {t sz n : Nat} {x : V} {A : Value} {i : Id} {xs : List V} (h : RH w0 r H c w) (hx : VR r x A) (ha : ownCells H t sz x = some (i, n, xs)) :
    ∃ b N o xs', r i = some (b, N) ∧ get5 H i = some o ∧ w0.heap.size ≤ b ∧ VRs r xs xs' ∧ A.ownBlock = some b ∧ w.ownsRow 0 t sz A n xs' ∧ A ≠ .slice none 0 0 := by
  unfold ownCells at ha
  split at ha
  · rename_i j n' cc
    split at ha
    · rename_i t' sz' cs hg
      split at ha
      · cases hb : (Nat.beq sz sz' && Nat.beq t t') with
        | false => rw [hb] at ha; cases ha
        | true =>
          rw [hb] at ha
          simp only [Bool.and_eq_true] at hb
          have h1 := Nat.eq_of_beq_eq_true hb.1
          have h2 := Nat.eq_of_beq_eq_true hb.2
          subst h1 h2
          simp only [cond_true] at ha
          split at ha
          · rename_i l hl
            simp only [Option.some.injEq, Prod.mk.injEq] at ha
            obtain ⟨rfl, rfl, rfl⟩ := ha
            obtain ⟨rfl, hlen⟩ := takeL_eq hl
            obtain ⟨b, C, hr, rfl, hle⟩ := hx
            obtain ⟨b', n'', x', g1, g2, g3, g4⟩ := h.obj _ _ hg
            rw [hr] at g1
            simp only [Option.some.injEq, Prod.mk.injEq] at g1
            obtain ⟨rfl, rfl⟩ := g1
            obtain ⟨vs, ex, rfl, hvs, hl2, hmx⟩ := g4
            have hlv := hvs.len
            refine ⟨b, C, _, vs.take (n' * sz), hr, hg, g2, hvs.take _, rfl, ⟨by rw [List.length_take]; omega, .inr ⟨b, C, (vs ++ ex).toArray, by simp, Nat.zero_le _, g3, by omega, by unfold maxLen; omega, by simpa using hl2, by simp [List.take_append_of_le_length (show n' * sz ≤ vs.length by omega)]⟩⟩, by simp⟩
          · cases ha
      · cases ha
    · rename_i t' cs hg
      split at ha
      · rename_i cap
        cases hb : (Nat.beq cs.length (cap * sz) && Nat.ble cap 4611686018427387904 && Nat.beq t t' && Nat.ble n' cap) with
        | false => rw [hb] at ha; cases ha
        | true =>
          rw [hb] at ha
          simp only [Bool.and_eq_true] at hb
          obtain ⟨⟨⟨hb1, hb2⟩, hb3⟩, hb4⟩ := hb
          have h1 := Nat.eq_of_beq_eq_true hb1
          have h2 := Nat.eq_of_beq_eq_true hb3
          have h3 := Nat.le_of_ble_eq_true hb2
          have h4 := Nat.le_of_ble_eq_true hb4
          subst h2
          simp only [cond_true] at ha
          split at ha
          · rename_i l hl
            simp only [Option.some.injEq, Prod.mk.injEq] at ha
            obtain ⟨rfl, rfl, rfl⟩ := ha
            obtain ⟨rfl, hlen⟩ := takeL_eq hl
            obtain ⟨b, C, hr, rfl⟩ := hx
            obtain ⟨b', n'', x', g1, g2, g3, g4⟩ := h.obj _ _ hg
            rw [hr] at g1
            simp only [Option.some.injEq, Prod.mk.injEq] at g1
            obtain ⟨rfl, rfl⟩ := g1
            obtain ⟨vs, rfl, hvs⟩ := g4
            have hlv := hvs.len
            refine ⟨b, C, _, vs.take (n' * sz), hr, hg, g2, hvs.take _, rfl, ⟨by rw [List.length_take]; omega, .inr ⟨b, cap, vs.toArray, by simp, Nat.zero_le _, g3, h4, by unfold maxLen; omega, by simp; omega, by simp⟩⟩, by simp⟩
          · cases ha
      · cases ha
    · cases ha
  · cases ha
theorem RH.grown {w' : World} {ob : Option Nat} (h : RH w0 r H c w) (hg : w.grownBy w' ob) (hb : ∀ k, ob = some k → w0.heap.size ≤ k) (hne : ∀ i o b n, get5 H i = some o → r i = some (b, n) → some b ≠ ob) : RH w0 r H c w' := by
  have hold : ∀ k, k < w0.heap.size → w'.heap[k]? = w.heap[k]? := fun k hk => hg.block k (h.lt hk) (fun e => by have := hb k e.symm; omega)
  refine ⟨hg.os.trans h.os, hg.tape.trans h.tape, hg.output.trans h.output, fun k hk => (hold k hk).trans (h.old k hk), Nat.le_trans h.size hg.size, fun i o hi => ?_, h.inj, h.fresh, h.freshH⟩
  obtain ⟨b, n, x, g1, g2, g3, g4⟩ := h.obj i o hi
  exact ⟨b, n, x, g1, g2, by rw [hg.block b (Array.getElem?_eq_some_iff.1 g3).1 (hne i o b n hi g1)]; exact g3, g4⟩
theorem m_app {t e : TypeId} {i : TypeInfo} {s x : Operand} {S X : XV} {v : V} {H' : Heap} {c' : Id} (hu : P.underlying t = some (.slice e)) (hi : P.info? e = some i) (h0 : Nat.blt 0 i.size = true) (hzz : ∃ z, i.zero = some z ∧ z.cells.size = i.size) (hS : trV s = some S) (hX : trV x = some X)
    (hE : RE r E a) (h : RH w0 r H c w) (hv : (XM.app e i.size i.bytes S X).ev E H c = some (v, H', c')) :
    ∃ r' z w', r.le r' ∧ VR r' v z ∧ RH w0 r' H' c' w' ∧ ∀ ty, (Builtin.append_ #[t, t] ty #[a.eval s, a.eval x]).run P w = .ok z w' := by
  rw [bltN] at h0
  simp only [decide_eq_true_eq] at h0
  obtain ⟨zv, hz, hzs⟩ := hzz
  simp only [XM.ev] at hv
  split at hv
  · rename_i sv xv hs hx
    have hsv := trV_vr hS hE hs
    have hxv := trV_vr hX hE hx
    split at hv
    · rename_i m news hap
      obtain ⟨ad, cap, news', ex, hn1, hn2, hn3⟩ := appCells_ok h hxv hap
      have hnl := hn1.len
      cases hone : news.all one with
      | false => rw [hone] at hv; cases hv
      | true =>
        rw [hone] at hv
        simp only [cond_true] at hv
        have h1 := ones_cells hn1 hone
        -- the law, for whatever the slice is
        have law : ∀ (n : Nat) (xs' : List Value) (ob : Option Nat), w.ownsRow 0 e i.size (a.eval s) n xs' → (a.eval s).ownBlock = ob → goodApp (n + m) i.bytes = true → ∃ g N cur w', w'.heap[g]? = some (.cells cur e (0, 0)) ∧ n + m ≤ N ∧ N ≤ maxLen ∧ cur.size = N * i.size ∧ cur.toList.take ((n + m) * i.size) = xs' ++ news' ∧
            w.grownBy w' ob ∧ (some g = ob ∨ g = w.heap.size) ∧ (∀ ty, (Builtin.append_ #[t, t] ty #[a.eval s, a.eval x]).run P w = .ok (.slice (some ⟨g, 0, none⟩) (n + m) N) w') ∨ (a.eval s = .slice none 0 0 ∧ m = 0) := by
          intro n xs' ob hown hob hg
          unfold goodApp at hg
          simp only [Bool.and_eq_true] at hg
          have g1 := Nat.le_of_ble_eq_true hg.1
          have g2 := Nat.le_of_ble_eq_true hg.2
          obtain ⟨v', w', q1, q2, q3, q4, q5⟩ := run_append_own_at (P := P) w 0 t 0 e i zv i.size i.bytes hu hi hz rfl rfl hzs h0 (a.eval s) n xs' hown ad m cap news' (by omega) hn3 h1 (by unfold maxLen; omega) (by omega) (Nat.zero_le _)
          obtain ⟨_, q2 | ⟨g, N, cur, rfl, _, k1, k2, k3, k4, k5⟩⟩ := q2
          · exact ⟨0, 0, #[], w, .inr (q4.1 q2.1)⟩
          · refine ⟨g, N, cur, w', .inl ⟨k1, k2, k3, k4, k5, by rw [← hob]; exact q3, ?_, fun ty => ?_⟩⟩
            · rcases q5 with q5 | q5
              · left; rw [← hob, ← q5]; rfl
              · right; simpa [Value.ownBlock] using q5
            · rw [ex]
              have := q1
              simpa [Builtin.append_] using this
        -- adopting the row that came of it
        have adopt : ∀ (H1 : Heap) (ob : Option Nat) (n : Nat) (xs : List V) (xs' : List Value), RH w0 r H1 c w → (∀ k, ob = some k → w0.heap.size ≤ k) → (∀ i o b n, get5 H1 i = some o → r i = some (b, n) → some b ≠ ob) → VRs r xs xs' →
            newO H1 c (.g e i.size (xs ++ news)) (fun i => .sl i 0 (n + m) (.u 0)) = some (v, H', c') → (∃ g N cur w', w'.heap[g]? = some (.cells cur e (0, 0)) ∧ n + m ≤ N ∧ N ≤ maxLen ∧ cur.size = N * i.size ∧ cur.toList.take ((n + m) * i.size) = xs' ++ news' ∧
            w.grownBy w' ob ∧ (some g = ob ∨ g = w.heap.size) ∧ (∀ ty, (Builtin.append_ #[t, t] ty #[a.eval s, a.eval x]).run P w = .ok (.slice (some ⟨g, 0, none⟩) (n + m) N) w')) →
            ∃ r' z w', r.le r' ∧ VR r' v z ∧ RH w0 r' H' c' w' ∧ ∀ ty, (Builtin.append_ #[t, t] ty #[a.eval s, a.eval x]).run P w = .ok z w' := by
          intro H1 ob n xs xs' hH1 hob hne hxs hnew ⟨g, N, cur, w', k1, k2, k3, k4, k5, k6, k7, k8⟩
          obtain ⟨hc, rfl, rfl⟩ := newO_some hnew
          have hw' := hH1.grown k6 hob hne
          have hgb : w0.heap.size ≤ g := by
            rcases k7 with k7 | k7
            · exact hob g k7.symm
            · rw [k7]; exact hH1.size
          have hle : r.le (r.set c (g, N)) := Ren.le_set (hH1.fresh c (Nat.le_refl _))
          have hmx : N ≤ 9223372036854775807 := by unfold maxLen at k3; omega
          obtain ⟨j1, j2⟩ := hw'.new (x := .cells cur e (0, 0)) (o := .g e i.size (xs ++ news)) (n := N) (b' := g) hc rfl rfl rfl hw'.size (fun _ _ => rfl) (fun i' o' b1 n1 hi' hri' => ⟨fun e' => by
            subst e'
            rcases k7 with k7 | k7
            · exact hne i' o' b1 n1 hi' hri' k7
            · obtain ⟨b2, n2, x2, z1, z2, z3, z4⟩ := hH1.obj i' o' hi'
              rw [hri'] at z1
              simp only [Option.some.injEq, Prod.mk.injEq] at z1
              obtain ⟨rfl, rfl⟩ := z1
              have := (Array.getElem?_eq_some_iff.1 z3).1
              omega, rfl⟩) hgb k1 ⟨xs' ++ news', cur.toList.drop ((n + m) * i.size), by rw [← k5, List.take_append_drop], (hxs.app hn1).mono hle, by rw [← k5, List.take_append_drop]; simpa using k4, hmx⟩
          exact ⟨_, _, w', j1, ⟨g, N, by simp [Ren.set], rfl, by omega⟩, j2, k8⟩
        split at hv
        · -- nil
          have hnil : a.eval s = .slice none 0 0 := hsv
          have hown : w.ownsRow 0 e i.size (a.eval s) 0 [] := by rw [hnil]; exact World.ownsRow_nil w 0 e i.size
          cases hm : Nat.beq m 0 with
          | true =>
            rw [hm] at hv
            have hm' := Nat.eq_of_beq_eq_true hm
            subst hm'
            simp only [cond_true, Option.some.injEq, Prod.mk.injEq] at hv
            obtain ⟨rfl, rfl, rfl⟩ := hv
            obtain ⟨v', w', q1, q2, q3, q4, q5⟩ := run_append_own_at (P := P) w 0 t 0 e i zv i.size i.bytes hu hi hz rfl rfl hzs h0 (a.eval s) 0 [] hown ad 0 cap news' (by omega) hn3 h1 (by unfold maxLen; omega) (by omega) (Nat.zero_le _)
            have hv' : v' = .slice none 0 0 := q4.2 ⟨hnil, rfl⟩
            subst hv'
            refine ⟨r, _, w', r.le_refl, rfl, h.grown q3 (fun k e => by rw [hnil] at e; cases e) (fun i o b n _ _ e => by rw [hnil] at e; cases e), fun ty => ?_⟩
            rw [ex]
            simpa [Builtin.append_] using q1
          | false =>
            rw [hm] at hv
            simp only [cond_false] at hv
            cases hg : goodApp m i.bytes with
            | false => rw [hg] at hv; cases hv
            | true =>
              rw [hg] at hv
              simp only [cond_true] at hv
              obtain ⟨g, N, cur, w', hl | ⟨_, hl⟩⟩ := law 0 [] none hown (by rw [hnil]; rfl) (by simpa using hg)
              · exact adopt H none 0 [] [] h (fun k e => by cases e) (fun _ _ _ _ _ _ e => by cases e) rfl (by simpa using hv) ⟨g, N, cur, w', hl⟩
              · rw [hl] at hm; cases hm
        · split at hv
          · rename_i j n xs hoc
            obtain ⟨b, N0, o, xs', q1, q2, q3, q4, q5, q6, q7⟩ := ownCells_ok h hsv hoc
            cases hg : goodApp (n + m) i.bytes with
            | false => rw [hg] at hv; cases hv
            | true =>
              rw [hg] at hv
              simp only [cond_true] at hv
              obtain ⟨g, N, cur, w', hl | ⟨hl, _⟩⟩ := law n xs' (some b) q6 q5 hg
              · refine adopt (put5 H j .mt) (some b) n xs xs' h.drop (fun k e => by cases e; exact q3) (fun i' o' b' n' hi' hri' e' => ?_) q4 hv ⟨g, N, cur, w', hl⟩
                rw [get5_put5] at hi'
                by_cases ej : j = i'
                · subst ej; simp [Tr.val] at hi'
                · rw [if_neg ej] at hi'
                  cases e'
                  exact ej (h.inj j i' o o' b N0 n' q2 hi' q1 hri')
              · exact absurd hl q7
          · cases hv
    · cases hv
  · cases hv
theorem m_mks {t e : TypeId} {i : TypeInfo} {n k : Operand} {N K : XV} {z : List V} {v : V} {H' : Heap} {c' : Id} (hu : P.underlying t = some (.slice e)) (hz : zeroC P e = some z) (hi : P.info? e = some i) (hN : trV n = some N) (hK : trV k = some K)
    (hE : RE r E a) (h : RH w0 r H c w) (hv : (XM.mks e i.size i.bytes z N K).ev E H c = some (v, H', c')) : MOK P w0 r a (.makeSlice t n k) w v H' c' := by
  simp only [XM.ev] at hv
  split at hv
  · rename_i k1 n1 k2 m1 h1 h2
    have q1 := trV_vr hN hE h1
    have q2 := trV_vr hK hE h2
    simp only [VR] at q1 q2
    cases hb : (Nat.ble n1 m1 && goodApp m1 i.bytes && Nat.blt 0 i.size) with
    | false => rw [hb] at hv; cases hv
    | true =>
      rw [hb] at hv
      simp only [cond_true] at hv
      unfold goodApp at hb
      simp only [Bool.and_eq_true, bltN, decide_eq_true_eq] at hb
      obtain ⟨⟨hb1, hb2, hb3⟩, hb4⟩ := hb
      have g1 := Nat.le_of_ble_eq_true hb1
      have g2 := Nat.le_of_ble_eq_true hb2
      have g3 := Nat.le_of_ble_eq_true hb3
      obtain ⟨i', zz, hi', hzz, hvz, hl1, hl2⟩ := zeroC_ok (r := r) hz
      rw [hi] at hi'
      cases hi'
      have hrun := run_make (P := P) w t e i zz hu hi hzz k1 k2 (.ofNat n1) (.ofNat m1) (by simp) (by simp; omega) (by
        have : ((i.bytes * m1 : Nat) : Int) ≤ 281474976710656 := by rw [Nat.mul_comm]; omega
        rw [Int.natCast_mul] at this
        exact this) (by simp; omega)
      have hmade : madeCells zz.cells (m1 * i.size) = (List.flatten (List.replicate m1 zz.cells.toList)).toArray := by
        rw [← hl2]; exact range_rep (by omega)
      refine MOK.new (x := .cells (madeCells zz.cells (m1 * i.size)) e) (z := .slice (some ⟨w.heap.size, 0, none⟩) n1 m1) 0 h hv (fun r' hr' => ⟨_, by rw [hmade], (hvz.mono hr').rep m1⟩) (fun r' hr' => ⟨_, _, hr', rfl⟩) fun oo ho => ?_
      obtain ⟨_, _, _, _, _, _⟩ := oo; cases ho
      simp only [execOp, q1, q2, Sem.run_bind, hrun, Result.andThen_ok, Sem.run_pure]
      rfl
  · cases hv
/-- All operations on memory. -/
theorem trM_ok {op : Op} {m : XM} {v : V} {H' : Heap} {c' : Id} (ht : trM P op = some m) (hE : RE r E a) (h : RH w0 r H c w) (hv : m.ev E H c = some (v, H', c')) : MOK P w0 r a op w v H' c' := by
  cases op with
  | load t x =>
    simp only [trM] at ht; split at ht
    · rename_i X _ hX hty; cases ht; exact m_ld1 hX hty hE h hv
    · rename_i X n hX hty; cases ht; exact m_ldn hX hty hE h hv
    · cases ht
  | store t x y =>
    simp only [trM] at ht; split at ht
    · rename_i X Y hX hY hty
      cases ht
      simp only [XM.ev] at hv
      split at hv
      · rename_i xv yv hx hy
        cases h1 : one yv with
        | false => rw [h1] at hv; cases hv
        | true =>
          rw [h1] at hv
          simp only [cond_true] at hv
          split at hv
          · rename_i i off o cs hat
            split at hv
            · rename_i l hl
              simp only [Option.some.injEq, Prod.mk.injEq] at hv
              obtain ⟨rfl, rfl, rfl⟩ := hv
              have hcv : cellsV yv = [yv] := by cases yv <;> first | rfl | cases h1
              exact m_store hX hY hty hE h hx hy hcv (fun e => by subst e; cases h1) rfl (by simpa using h1) hat hl
            · cases hv
          · cases hv
      · cases hv
    · rename_i X Y n hX hY hty
      cases ht
      simp only [XM.ev] at hv
      split at hv
      · rename_i xv ys hx hy
        cases h1 : (Nat.beq ys.length n && ys.all one) with
        | false => rw [h1] at hv; cases hv
        | true =>
          rw [h1] at hv
          simp only [Bool.and_eq_true] at h1
          simp only [cond_true] at hv
          split at hv
          · rename_i i off o cs hat
            split at hv
            · rename_i l hl
              simp only [Option.some.injEq, Prod.mk.injEq] at hv
              obtain ⟨rfl, rfl, rfl⟩ := hv
              exact m_store hX hY hty hE h hx hy rfl (fun e => by cases e) (Nat.eq_of_beq_eq_true h1.1) h1.2 hat hl
            · cases hv
          · cases hv
      · cases hv
    · cases ht
  | box t x =>
    simp only [trM] at ht; split at ht
    · rename_i X n hX hn; cases ht; exact m_box hX hE h hv
    · cases ht
  | alloc t =>
    simp only [trM] at ht; split at ht
    · rename_i z hz; cases ht; exact m_alloc hz h hv
    · cases ht
  | buildSlice t len ps =>
    simp only [trM] at ht; split at ht
    · rename_i e hu
      split at ht
      · rename_i z pl l hz hp hl
        cases hb : (Nat.ble (len * z.length) 16777216 && Nat.blt 0 (len * z.length)) with
        | false => rw [hb] at ht; cases ht
        | true =>
          rw [hb] at ht
          simp only [cond_true, Option.some.injEq] at ht
          subst ht
          exact m_bsl hu hz hp hl hb hE h hv
      · cases ht
    · cases ht
  | makeMap t r0 =>
    cases r0 with
    | some _ => simp only [trM, reduceCtorEq] at ht
    | none => simp only [trM, Option.some.injEq] at ht; subst ht; exact m_mkm h hv
  | insert t m k x =>
    simp only [trM] at ht; split at ht
    · rename_i kt et M K X hu hM hK hX
      cases hb : (Nat.beq (tyTag (P.underlying kt)) 5 || Nat.beq (tyTag (P.underlying kt)) 6) with
      | false => rw [hb] at ht; cases ht
      | true => rw [hb] at ht; cases ht; exact (m_ins hu hb hM hK hX hE h hv).1
    · cases ht
  | mapUpdate t m k x =>
    simp only [trM] at ht; split at ht
    · rename_i kt et M K X hu hM hK hX
      cases hb : (Nat.beq (tyTag (P.underlying kt)) 5 || Nat.beq (tyTag (P.underlying kt)) 6) with
      | false => rw [hb] at ht; cases ht
      | true => rw [hb] at ht; cases ht; exact (m_ins hu hb hM hK hX hE h hv).2
    · cases ht
  | lookup t m k ok =>
    simp only [trM] at ht; split at ht
    · rename_i kt et M K hu hM hK
      cases hb : (Nat.beq (tyTag (P.underlying kt)) 5 || Nat.beq (tyTag (P.underlying kt)) 6) with
      | false => rw [hb] at ht; cases ht
      | true =>
        rw [hb] at ht
        simp only [cond_true] at ht
        split at ht
        · rename_i z hz; cases ht; exact m_lkp hu hb hM hK hz hE h hv
        · cases ht
    · cases ht
  | range t x =>
    simp only [trM] at ht; split at ht
    · rename_i X hu hX; cases ht; exact m_rng hu hX hE h hv
    · cases ht
  | next x b =>
    cases b with
    | false => simp only [trM, reduceCtorEq] at ht
    | true =>
      simp only [trM] at ht; split at ht
      · rename_i X hX; cases ht; exact m_nxt hX hE h hv
      · cases ht
  | makeSlice t n k =>
    simp only [trM] at ht; split at ht
    · rename_i e N K hu hN hK
      split at ht
      · rename_i z i hz hi; cases ht; exact m_mks hu hz hi hN hK hE h hv
      · cases ht
    · cases ht
  | call cl =>
    obtain ⟨callee, args, ats⟩ := cl
    simp only [trM] at ht
    split at ht
    · split at ht
      · rename_i s x t t' hargs hats
        cases hb : Nat.beq t t' with
        | false => rw [hb] at ht; cases ht
        | true =>
          rw [hb] at ht
          have := Nat.eq_of_beq_eq_true hb
          subst this
          simp only [cond_true] at ht
          split at ht
          · rename_i e S X hu hS hX
            split at ht
            · rename_i i z hi hz
              cases h0 : Nat.blt 0 i.size with
              | false => rw [h0] at ht; cases ht
              | true =>
                rw [h0] at ht
                cases ht
                obtain ⟨i', zz, hi', hzz, hvz, hl1, hl2⟩ := zeroC_ok (r := r) hz
                rw [hi] at hi'
                cases hi'
                obtain ⟨r', q, w', q1, q2, q3, q4⟩ := m_app hu hi h0 ⟨zz, hzz, hl2⟩ hS hX hE h hv
                have ha : args = #[s, x] := by rw [← Array.toArray_toList (xs := args), hargs]
                have hat : ats = #[t, t] := by rw [← Array.toArray_toList (xs := ats), hats]
                refine ⟨r', q, w', q1, q2, q3, fun oo ho => .inl ?_⟩
                obtain ⟨_, _, ty, _, _, _⟩ := oo; cases ho
                simp [execOp, resolve, invoke, builtin, ha, hat, q4 ty]
            · cases ht
          · cases ht
      · cases ht
    · cases ht
  | _ => simp only [trM, reduceCtorEq] at ht
end
end Go.Ev
