/- What a row hands in, opened: a configuration, parts, statements; and the frame of a law that answers true. -/
import Derived.Test.YtngdkgddeobiiaaPDeep
import Derived.Test.YtngdkgddeobiiaaProg
import Derived.Deep.Slices
import Derived.SizedLaws
import Derived.Carry
import Derived.ProofKit
namespace Go.Proofs.Ytngdkgddeobiiaa
open Go Go.TL Go.ChangeShapes Go.WideShapes Go.ChangeAt Go.RowKit Go.Deep
set_option maxRecDepth 100000
def immOf (W : World) : Imm := ⟨W.os, W.tape, W.output, fun k => W.heap[k]?⟩
theorem immOf_holds (W : World) : Holds (immOf W) [] W := ⟨rfl, rfl, rfl, fun _ _ h => h, fun _ h => by simp at h, by simp, fun _ h => by simp at h⟩
theorem holds_below {W W' : World} (h : Holds (immOf W) [] W') : Below W.heap.size W W' := by
  have hb : ∀ k, k < W.heap.size → W'.heap[k]? = W.heap[k]? := fun k hk => by
    rw [Array.getElem?_eq_getElem hk]; exact h.imm k _ (Array.getElem?_eq_getElem hk)
  refine ⟨h.os, h.tape, h.output, ?_, hb⟩
  rcases Nat.eq_zero_or_pos W.heap.size with e | e
  · omega
  · have h1 : W'.heap[W.heap.size - 1]? = some W.heap[W.heap.size - 1] := (hb (W.heap.size - 1) (by omega)).trans (Array.getElem?_eq_getElem (by omega))
    have := lt_of_heap h1
    omega
section
variable {H : Type} {enc : TypeId × Value → H} {W : World} {base : Nat} {sp : Nat → Bool} {hd : Bool}
theorem cellsI_of {a : Addr} {n : Nat} {cs : List Value} (h : W.cells? base a n = some cs) : CellsI (immOf W) a cs := fun j v hj => by
  obtain ⟨_, hl, hc⟩ := World.cells?_some h
  have hn : j < n := by obtain ⟨h1, _⟩ := List.getElem?_eq_some_iff.1 hj; omega
  have := hc j hn
  rw [hj] at this
  exact this
theorem field_of {P : Program} {fs : Array Field} {xs : List (DataW H × List MemPlace)} {n : Nat} {cs : List Value} (hx : xs.length = fs.size)
    (hf : ∀ (i : Nat) (f : Field), fs[i]? = some f → DataW.trod enc P W base sp hd n f.type ((cs.drop f.offset).take (P.cellsOf f.type)) = xs[i]?) {i : Nat} {f : Field} (h : fs[i]? = some f) :
    ∃ y, DataW.trod enc P W base sp hd n f.type ((cs.drop f.offset).take (P.cellsOf f.type)) = some y ∧ xs[i]? = some y := by
  have hi : i < xs.length := by rw [hx]; exact (Array.getElem?_eq_some_iff.1 h).1
  refine ⟨xs[i], ?_, List.getElem?_eq_getElem hi⟩
  rw [hf i f h]; exact List.getElem?_eq_getElem hi
theorem range_map {α : Type} {f : Nat → α} {n i : Nat} {x : α} (h : ((List.range n).map f)[i]? = some x) : i < n ∧ x = f i := by
  obtain ⟨h1, h2⟩ := List.getElem?_eq_some_iff.1 h
  simp at h1 h2
  exact ⟨h1, h2.symm⟩
theorem list_four {α : Type} {l : List α} (h : l.length = 4) : ∃ a b c d, l = [a, b, c, d] := by
  match l, h with | [a, b, c, d], _ => exact ⟨a, b, c, d, rfl⟩
theorem list_five {α : Type} {l : List α} (h : l.length = 5) : ∃ a b c d e, l = [a, b, c, d, e] := by
  match l, h with | [a, b, c, d, e], _ => exact ⟨a, b, c, d, e, rfl⟩
theorem list_seven {α : Type} {l : List α} (h : l.length = 7) : ∃ a b c d e f g, l = [a, b, c, d, e, f, g] := by
  match l, h with | [a, b, c, d, e, f, g], _ => exact ⟨a, b, c, d, e, f, g, rfl⟩
theorem list_eight {α : Type} {l : List α} (h : l.length = 8) : ∃ a b c d e f g i, l = [a, b, c, d, e, f, g, i] := by
  match l, h with | [a, b, c, d, e, f, g, i], _ => exact ⟨a, b, c, d, e, f, g, i, rfl⟩
theorem list_thirteen {α : Type} {l : List α} (h : l.length = 13) : ∃ a b c d e f g i j k m n o, l = [a, b, c, d, e, f, g, i, j, k, m, n, o] := by
  match l, h with | [a, b, c, d, e, f, g, i, j, k, m, n, o], _ => exact ⟨a, b, c, d, e, f, g, i, j, k, m, n, o, rfl⟩
theorem weightsAll_mem {P : Program} {e : TypeId} {d : DataW H} {m : Nat} (hm : m ∈ d.weights P e) : ∀ {l : List (DataW H)}, d ∈ l → m ∈ DataW.weightsAll P e l
  | [], h => by simp at h
  | x :: r, h => by
    simp only [DataW.weightsAll, List.mem_append]
    rcases List.mem_cons.1 h with rfl | h
    · exact Or.inl hm
    · exact Or.inr (weightsAll_mem hm h)
theorem ci3 : Try.prog.cellsOf 3 = 1 := by kernel_rfl
theorem ci4 : Try.prog.cellsOf 4 = 1 := by kernel_rfl
theorem ci22 : Try.prog.cellsOf 22 = 1 := by kernel_rfl
theorem ci23 : Try.prog.cellsOf 23 = 1 := by kernel_rfl
theorem ci25 : Try.prog.cellsOf 25 = 8 := by kernel_rfl
theorem ci71 : Try.prog.cellsOf 71 = 1 := by kernel_rfl
theorem ci72 : Try.prog.cellsOf 72 = 1 := by kernel_rfl
theorem ci74 : Try.prog.cellsOf 74 = 4 := by kernel_rfl
theorem ci76 : Try.prog.cellsOf 76 = 5 := by kernel_rfl
theorem ci78 : Try.prog.cellsOf 78 = 13 := by kernel_rfl
theorem ci81 : Try.prog.cellsOf 81 = 1 := by kernel_rfl
theorem ci83 : Try.prog.cellsOf 83 = 7 := by kernel_rfl
theorem by78 : Try.prog.bytesOf 78 = 136 := by kernel_rfl
theorem open_i64 {fuel : Nat} {v : Value} {x : DataW H × List MemPlace} (h : DataW.trod enc Try.prog W base sp hd fuel 3 [v] = some x) : ∃ n, v = .int .i64 n := by
  obtain ⟨n, h, _⟩ := DataW.trod_int Try.underlying3 h
  exact ⟨n, by simpa using h⟩
theorem open_bool {fuel : Nat} {v : Value} {x : DataW H × List MemPlace} (h : DataW.trod enc Try.prog W base sp hd fuel 4 [v] = some x) : ∃ b, v = .bool b := by
  obtain ⟨n, h, _⟩ := DataW.trod_bool Try.underlying4 h
  exact ⟨n, by simpa using h⟩
theorem open_u8 {t : TypeId} (ht : Try.prog.underlying t = some (.int .u8)) {fuel : Nat} {v : Value} {x : DataW H × List MemPlace} (h : DataW.trod enc Try.prog W base sp hd fuel t [v] = some x) : ∃ n, v = .int .u8 n ∧ 0 ≤ n := by
  obtain ⟨n, h, _, hw⟩ := DataW.trod_int ht h
  exact ⟨n, by simpa using h, by have h2 : 0 ≤ n ∧ n ≤ 255 := by simpa [Lit.wf, IntKind.min, IntKind.max, IntKind.signed, IntKind.bits] using hw
                                 exact h2.1⟩
theorem open_part {fuel : Nat} {cs : List Value} {x : DataW H × List MemPlace} (h : DataW.trod enc Try.prog W base sp hd fuel 83 cs = some x) : ∃ p : Part, cs = p.cells ∧ 0 ≤ p.kind := by
  obtain ⟨xs, n, rfl, rfl, hl, hx, hf⟩ := DataW.trod_struct Try.underlying83 h
  rw [ci83] at hl
  obtain ⟨v0, v1, v2, v3, v4, v5, v6, rfl⟩ := list_seven hl
  obtain ⟨y0, h0, _⟩ := field_of hx hf (i := 0) rfl
  obtain ⟨y1, h1, _⟩ := field_of hx hf (i := 1) rfl
  obtain ⟨y2, h2, _⟩ := field_of hx hf (i := 2) rfl
  obtain ⟨y3, h3, _⟩ := field_of hx hf (i := 3) rfl
  obtain ⟨y4, h4, _⟩ := field_of hx hf (i := 4) rfl
  obtain ⟨y5, h5, _⟩ := field_of hx hf (i := 5) rfl
  obtain ⟨y6, h6, _⟩ := field_of hx hf (i := 6) rfl
  simp [ci81, ci3] at h0 h1 h2 h3 h4 h5 h6
  obtain ⟨n0, rfl, hk⟩ := open_u8 Try.underlying81 h0
  obtain ⟨n1, rfl⟩ := open_i64 h1
  obtain ⟨n2, rfl⟩ := open_i64 h2
  obtain ⟨n3, rfl⟩ := open_i64 h3
  obtain ⟨n4, rfl⟩ := open_i64 h4
  obtain ⟨n5, rfl⟩ := open_i64 h5
  obtain ⟨n6, rfl⟩ := open_i64 h6
  exact ⟨⟨n0, n1, n2, n3, n4, n5, n6⟩, rfl, hk⟩
instance : Inhabited Part := ⟨⟨0, 0, 0, 0, 0, 0, 0⟩⟩
instance : Inhabited Stmt := ⟨.mk 0 ⟨0, 0, 0, 0⟩ ⟨false, ⟨0, 0, 0, 0⟩⟩ [] [] 0⟩
theorem open_parts {fuel : Nat} {v : Value} {x : DataW H × List MemPlace} (h : DataW.trod enc Try.prog W base sp hd fuel 22 [v] = some x) :
    ∃ (l : List Part) (A : Option Addr) (cap : Nat), v = .slice A l.length cap ∧ SlI (immOf W) 7 A (l.map Part.cells) ∧ ∀ p ∈ l, 0 ≤ p.kind := by
  rcases DataW.trod_slice Try.underlying22 h with ⟨e, rfl⟩ | ⟨a, len, cap, elems, rest, n, rfl, e, rfl, hb, hl, hm, hlen, hel, hsp, hns⟩
  · obtain rfl : v = .slice none 0 0 := by simpa using e
    exact ⟨[], none, 0, rfl, fun i c h => by simp at h, fun p hp => by simp at hp⟩
  · obtain rfl : v = .slice (some a) len cap := by simpa using e
    have hs : ∀ i, i < len → ∃ p : Part, CellsI (immOf W) (a.add (i * 7)) p.cells ∧ 0 ≤ p.kind := fun i hi => by
      have he := hel i hi
      rw [List.getElem?_eq_getElem (by omega), ci83] at he
      obtain ⟨cs', h1, h2⟩ := Option.bind_eq_some_iff.1 he
      obtain ⟨p, rfl, hp⟩ := open_part h2
      exact ⟨p, cellsI_of h1, hp⟩
    obtain ⟨f, hf⟩ := choose_lt hs
    refine ⟨(List.range len).map f, some a, cap, by simp, fun i c hc => ?_, fun p hp => ?_⟩
    · rw [List.map_map] at hc
      obtain ⟨hj, rfl⟩ := range_map hc
      exact ⟨a, rfl, (hf i hj).1⟩
    · simp at hp
      obtain ⟨j, hj, rfl⟩ := hp
      exact (hf j hj).2
theorem open_ins {fuel : Nat} {cs : List Value} {x : DataW H × List MemPlace} (h : DataW.trod enc Try.prog W base sp hd fuel 74 cs = some x) : ∃ i : Ins, cs = i.cells ∧ 0 ≤ i.op := by
  obtain ⟨xs, n, rfl, rfl, hl, hx, hf⟩ := DataW.trod_struct Try.underlying74 h
  rw [ci74] at hl
  obtain ⟨v0, v1, v2, v3, rfl⟩ := list_four hl
  obtain ⟨y0, h0, _⟩ := field_of hx hf (i := 0) rfl
  obtain ⟨y1, h1, _⟩ := field_of hx hf (i := 1) rfl
  obtain ⟨y2, h2, _⟩ := field_of hx hf (i := 2) rfl
  obtain ⟨y3, h3, _⟩ := field_of hx hf (i := 3) rfl
  simp [ci72, ci3] at h0 h1 h2 h3
  obtain ⟨n0, rfl, hk⟩ := open_u8 Try.underlying72 h0
  obtain ⟨n1, rfl⟩ := open_i64 h1
  obtain ⟨n2, rfl⟩ := open_i64 h2
  obtain ⟨n3, rfl⟩ := open_i64 h3
  exact ⟨⟨n0, n1, n2, n3⟩, rfl, hk⟩
theorem open_cond {fuel : Nat} {cs : List Value} {x : DataW H × List MemPlace} (h : DataW.trod enc Try.prog W base sp hd fuel 76 cs = some x) : ∃ c : Cond, cs = c.cells ∧ 0 ≤ c.ins.op := by
  obtain ⟨xs, n, rfl, rfl, hl, hx, hf⟩ := DataW.trod_struct Try.underlying76 h
  rw [ci76] at hl
  obtain ⟨v0, v1, v2, v3, v4, rfl⟩ := list_five hl
  obtain ⟨y0, h0, _⟩ := field_of hx hf (i := 0) rfl
  obtain ⟨y1, h1, _⟩ := field_of hx hf (i := 1) rfl
  simp [ci4, ci74] at h0 h1
  obtain ⟨b, rfl⟩ := open_bool h0
  obtain ⟨i, hi, hk⟩ := open_ins h1
  simp [Ins.cells] at hi
  obtain ⟨rfl, rfl, rfl, rfl⟩ := hi
  exact ⟨⟨b, i⟩, rfl, hk⟩
theorem open_stmt {fuel : Nat} {cs : List Value} {x : DataW H × List MemPlace} (h : DataW.trod enc Try.prog W base sp hd fuel 78 cs = some x) :
    ∃ (k : Int) (i : Ins) (c : Cond) (vb ve : Value) (line : Int) (n : Nat) (xb xe : DataW H × List MemPlace), n < fuel ∧ cs = .int .u8 k :: (i.cells ++ c.cells ++ [vb, ve, .int .i64 line]) ∧ 0 ≤ k ∧ 0 ≤ i.op ∧ 0 ≤ c.ins.op ∧
      DataW.trod enc Try.prog W base sp hd n 23 [vb] = some xb ∧ DataW.trod enc Try.prog W base sp hd n 23 [ve] = some xe ∧
      (∀ m ∈ xb.1.weights Try.prog 23, m ∈ x.1.weights Try.prog 78) ∧ (∀ m ∈ xe.1.weights Try.prog 23, m ∈ x.1.weights Try.prog 78) := by
  obtain ⟨xs, n, rfl, rfl, hl, hx, hf⟩ := DataW.trod_struct Try.underlying78 h
  rw [ci78] at hl
  obtain ⟨v0, v1, v2, v3, v4, v5, v6, v7, v8, v9, v10, v11, v12, rfl⟩ := list_thirteen hl
  obtain ⟨y0, h0, _⟩ := field_of hx hf (i := 0) rfl
  obtain ⟨y1, h1, _⟩ := field_of hx hf (i := 1) rfl
  obtain ⟨y2, h2, _⟩ := field_of hx hf (i := 2) rfl
  obtain ⟨y3, h3, e3⟩ := field_of hx hf (i := 3) rfl
  obtain ⟨y4, h4, e4⟩ := field_of hx hf (i := 4) rfl
  obtain ⟨y5, h5, _⟩ := field_of hx hf (i := 5) rfl
  simp [ci71, ci74, ci76, ci23, ci3] at h0 h1 h2 h3 h4 h5
  obtain ⟨k, rfl, hk⟩ := open_u8 Try.underlying71 h0
  obtain ⟨i, hi, hio⟩ := open_ins h1
  obtain ⟨c, hc, hco⟩ := open_cond h2
  obtain ⟨line, rfl⟩ := open_i64 h5
  have hw : ∀ (j : Nat) (y : DataW H × List MemPlace), xs[j]? = some y → ([71, 74, 76, 23, 23, 3] : List TypeId)[j]? = some 23 → ∀ m ∈ y.1.weights Try.prog 23, m ∈ (DataW.agg (xs.map (·.1))).weights Try.prog 78 := fun j y hy ht m hm => by
    simp only [DataW.weights, Try.underlying78]
    exact DataW.weights_mem_each (j := j) (t := 23) (d := y.1) ht (by simp [hy]) m hm
  refine ⟨k, i, c, v10, v11, line, n, y3, y4, Nat.lt_succ_self n, ?_, hk, hio, hco, h3, h4, hw 3 _ e3 rfl, hw 4 _ e4 rfl⟩
  rw [← hi, ← hc]; rfl
theorem open_stmts : ∀ (fuel : Nat) (v : Value) (x : DataW H × List MemPlace), DataW.trod enc Try.prog W base sp hd fuel 23 [v] = some x → (∀ m ∈ x.1.weights Try.prog 23, m ≤ reachBytes) →
    ∃ (l : List Stmt) (A : Option Addr) (cap : Nat), v = .slice A l.length cap ∧ SRep (immOf W) l A ∧ OkS l := by
  intro fuel
  induction fuel using Nat.strongRecOn with
  | _ fuel ih =>
    intro v x h hz
    rcases DataW.trod_slice Try.underlying23 h with ⟨e, rfl⟩ | ⟨a, len, cap, elems, rest, n, rfl, e, rfl, hb, hl, hm, hlen, hel, hsp, hns⟩
    · obtain rfl : v = .slice none 0 0 := by simpa using e
      exact ⟨[], none, 0, rfl, .nil, .mk (by simp) (by simp) (by simp) (by simp)⟩
    · obtain rfl : v = .slice (some a) len cap := by simpa using e
      simp only [DataW.weights, Try.underlying23, List.mem_cons, List.mem_append] at hz
      have hbytes := hz _ (Or.inl rfl)
      rw [by78] at hbytes
      simp only [List.length_map, reachBytes] at hbytes
      have hs : ∀ i, i < len → ∃ y : Stmt × (Option Addr × Nat) × (Option Addr × Nat), CellsI (immOf W) (a.add (i * 13)) (y.1.cells y.2.1.1 y.2.1.2 y.2.2.1 y.2.2.2) ∧ SRep (immOf W) y.1.body y.2.1.1 ∧ SRep (immOf W) y.1.els y.2.2.1 ∧
          (0 ≤ y.1.kind ∧ 0 ≤ y.1.ins.op ∧ 0 ≤ y.1.cond.ins.op) ∧ OkS y.1.body ∧ OkS y.1.els := fun i hi => by
        have he := hel i hi
        have hi' : i < elems.length := by omega
        rw [List.getElem?_eq_getElem hi', ci78] at he
        obtain ⟨cs', h1, h2⟩ := Option.bind_eq_some_iff.1 he
        obtain ⟨k, ins, c, vb, ve, line, n', xb, xe, hn', hcs, hk, hio, hco, hvb, hve, hwb, hwe⟩ := open_stmt h2
        have hall : ∀ m ∈ (elems[i]).1.weights Try.prog 78, m ≤ reachBytes := fun m hm => hz m (Or.inr (Or.inl (weightsAll_mem hm (List.mem_map.2 ⟨elems[i], List.getElem_mem hi', rfl⟩))))
        obtain ⟨lb, Ab, cb, rfl, hb1, hb2⟩ := ih n' (by omega) vb xb hvb (fun m hm => hall m (hwb m hm))
        obtain ⟨le, Ae, ce, rfl, he1, he2⟩ := ih n' (by omega) ve xe hve (fun m hm => hall m (hwe m hm))
        refine ⟨⟨.mk k ins c lb le line, (Ab, cb), (Ae, ce)⟩, ?_, hb1, he1, ⟨hk, hio, hco⟩, hb2, he2⟩
        have := cellsI_of h1
        rw [hcs] at this
        exact this
      obtain ⟨f, hf⟩ := choose_lt hs
      have hmem : ∀ s ∈ (List.range len).map (fun i => (f i).1), ∃ i, i < len ∧ s = (f i).1 := fun s hs => by
        simp at hs
        obtain ⟨j, hj, rfl⟩ := hs
        exact ⟨j, hj, rfl⟩
      refine ⟨(List.range len).map (fun i => (f i).1), some a, cap, by simp, .mk (fun i => (f i).2.1.1) (fun i => (f i).2.2.1) (fun i => (f i).2.1.2) (fun i => (f i).2.2.2) ?_ ?_ ?_, .mk ?_ ?_ ?_ ?_⟩
      · intro i s hi
        obtain ⟨hj, rfl⟩ := range_map hi
        exact ⟨a, rfl, (hf i hj).1⟩
      · intro i s hi
        obtain ⟨hj, rfl⟩ := range_map hi
        exact (hf i hj).2.1
      · intro i s hi
        obtain ⟨hj, rfl⟩ := range_map hi
        exact (hf i hj).2.2.1
      · simp; omega
      · intro s hs
        obtain ⟨i, hi, rfl⟩ := hmem s hs
        exact (hf i hi).2.2.2.1
      · intro s hs
        obtain ⟨i, hi, rfl⟩ := hmem s hs
        exact (hf i hi).2.2.2.2.1
      · intro s hs
        obtain ⟨i, hi, rfl⟩ := hmem s hs
        exact (hf i hi).2.2.2.2.2
theorem open_config {b0 : Nat} {v : Value} {d : DataW H} {ps : List MemPlace} (hval : Value.okWide Try.prog W .any b0 25 v) (h : DataW.Trod enc Try.prog W base sp hd 25 v d ps) (hz : ∀ m ∈ d.weights Try.prog 25, m ≤ reachBytes) :
    ∃ (c : Conf) (Ap Aq Ar : Option Addr) (cp cq cr : Nat), v = .agg #[.int .i64 c.size, .int .i64 c.cells, .int .i64 c.sa, .int .i64 c.sb, .slice Ap c.parts.length cp, .slice Aq c.pre.length cq, .slice Ar c.post.length cr, .bool c.flag] ∧ c.In (immOf W) Ap Aq Ar := by
  unfold Value.okWide at hval
  rw [Try.underlying25] at hval
  obtain ⟨cs, rfl, hcs, _⟩ := hval
  obtain ⟨fuel, h⟩ := h
  obtain ⟨xs, n, rfl, hxe, hl, hx, hf⟩ := DataW.trod_struct Try.underlying25 h
  obtain ⟨rfl, rfl⟩ : d = .agg (xs.map (·.1)) ∧ ps = xs.flatMap (·.2) := by simpa using hxe
  rw [ci25] at hl
  obtain ⟨v0, v1, v2, v3, v4, v5, v6, v7, hv⟩ := list_eight hl
  have hcs' : cs = #[v0, v1, v2, v3, v4, v5, v6, v7] := by
    have : cs.toList = [v0, v1, v2, v3, v4, v5, v6, v7] := by simpa [Value.cells] using hv
    cases cs; simp_all
  subst hcs'
  obtain ⟨y0, h0, _⟩ := field_of hx hf (i := 0) rfl
  obtain ⟨y1, h1, _⟩ := field_of hx hf (i := 1) rfl
  obtain ⟨y2, h2, _⟩ := field_of hx hf (i := 2) rfl
  obtain ⟨y3, h3, _⟩ := field_of hx hf (i := 3) rfl
  obtain ⟨y4, h4, _⟩ := field_of hx hf (i := 4) rfl
  obtain ⟨y5, h5, e5⟩ := field_of hx hf (i := 5) rfl
  obtain ⟨y6, h6, e6⟩ := field_of hx hf (i := 6) rfl
  obtain ⟨y7, h7, _⟩ := field_of hx hf (i := 7) rfl
  simp [ci3, ci22, ci23, ci4, Value.cells] at h0 h1 h2 h3 h4 h5 h6 h7
  obtain ⟨n0, rfl⟩ := open_i64 h0
  obtain ⟨n1, rfl⟩ := open_i64 h1
  obtain ⟨n2, rfl⟩ := open_i64 h2
  obtain ⟨n3, rfl⟩ := open_i64 h3
  have hw : ∀ (j : Nat) (y : DataW H × List MemPlace), xs[j]? = some y → ([3, 3, 3, 3, 22, 23, 23, 4] : List TypeId)[j]? = some 23 → ∀ m ∈ y.1.weights Try.prog 23, m ≤ reachBytes := fun j y hy ht m hm => hz m (by
    simp only [DataW.weights, Try.underlying25]
    exact DataW.weights_mem_each (j := j) (t := 23) (d := y.1) ht (by simp [hy]) m hm)
  obtain ⟨lp, Ap, cp, rfl, hp1, hp2⟩ := open_parts h4
  obtain ⟨lq, Aq, cq, rfl, hq1, hq2⟩ := open_stmts _ _ _ h5 (hw 5 _ e5 rfl)
  obtain ⟨lr, Ar, cr, rfl, hr1, hr2⟩ := open_stmts _ _ _ h6 (hw 6 _ e6 rfl)
  obtain ⟨b, rfl⟩ := open_bool h7
  exact ⟨⟨n0, n1, n2, n3, lp, lq, lr, b⟩, Ap, Aq, Ar, cp, cq, cr, rfl, hp1, hq1, hr1, hq2, hr2, hp2⟩
end
section
variable {H : Type} {enc : TypeId × Value → H} {P : Program}
theorem trodAll_below (hl : laidOutB P = true) {W W' : World} (hb : Below W.heap.size W W') : ∀ {ts : List TypeId} {vs : List Value} {ds : List (DataW H)} {ps : List MemPlace}, (∀ t ∈ ts, P.readableRec t = true ∧ t < P.types.size) →
    DataW.TrodAll enc P W 0 (fun _ => true) true ts vs ds ps → (∀ x ∈ ps, x.block < W.heap.size) → DataW.TrodAll enc P W' 0 (fun b => decide (b < W.heap.size)) true ts vs ds ps
  | [], vs, ds, ps, _, h, _ => by
    obtain ⟨rfl, rfl, rfl⟩ := trodAll_nil h
    exact rfl
  | t :: ts, vs, ds, ps, hr, h, hlt => by
    obtain ⟨v, vs', d, ds', p, q, rfl, rfl, rfl, h1, h2⟩ := trodAll_cons h
    exact ⟨p, q, Below.trod hl (hr t (by simp)).1 (hr t (by simp)).2 h1 hb (fun x hx => hlt x (by simp [hx])), trodAll_below hl hb (fun t ht => hr t (by simp [ht])) h2 (fun x hx => hlt x (by simp [hx])), rfl⟩
/-- A law that answers true and leaves what it is given. -/
theorem law_frame {f : FuncId} {fn : Func} {s : ChangeSpec} {W : World} {args : Array Value} {ds gs : List (DataW H)} {before : List MemPlace} (hl : laidOutB P = true) (hr : ∀ t ∈ fn.params.toList, P.readableRec t = true ∧ t < P.types.size)
    (hv : s.vars = []) {tb : TypeId} (hres : fn.resultTypes = #[tb]) (htb : P.underlying tb = some .bool)
    (hW : DataW.Whole enc P fn.params.toList s.vars false W args.toList ds gs before) (hs : s.fn H ds = { results := [.lit (.bool true)], args := ds }) (h : PAt P (immOf W) f args.toList (.bool true)) :
    Calls P f args W fun e W' => ∃ v, e = .returned v ∧ s.post enc P fn false true false false W args v W' := by
  have hc := h [] W (immOf_holds W)
  rw [Array.toArray_toList] at hc
  refine hc.mono fun e W' ⟨he, hw⟩ => ?_
  subst he
  have hb := holds_below hw
  have hW' := hW
  obtain ⟨p, q, hA, hV, rfl, hfz, hnd⟩ := hW
  rw [hv] at hV
  obtain ⟨rfl, rfl⟩ := trodVars_none hV
  refine ⟨_, rfl, ds, [], p ++ [], [], p, [], hW', ?_, ?_, ?_, hb.frame _, fun h => by cases h⟩
  · rw [List.append_nil, hs, hres]
    exact trodAll_mk1 (shut_bool htb true)
  · rw [List.append_nil, hs]
    exact trodAll_below hl hb hr hA (fun x hx => hW'.lt x (by simp [hx]))
  · rw [List.append_nil, hs, hv]
    exact rfl
end
end Go.Proofs.Ytngdkgddeobiiaa
