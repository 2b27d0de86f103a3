/- The evaluator: operands and operations that leave memory alone. No program is named here. -/
import Derived.Test.YtngdkgddeobiiaaEv1
namespace Go.Ev
open Go Go.TL

/-! ## Numbers, forced -/
section
variable {R : Type}
noncomputable def forceN (n : Nat) (k : Nat → R) : R := Nat.rec (k 0) (fun m _ => k (Nat.succ m)) n
theorem forceN_eq (n : Nat) (k : Nat → R) : forceN n k = k n := by cases n <;> rfl
noncomputable def forceI (n : Int) (k : Int → R) : R := Int.rec (fun m => forceN m fun m => k (.ofNat m)) (fun m => forceN m fun m => k (.negSucc m)) n
theorem forceI_eq (n : Int) (k : Int → R) : forceI n k = k n := by cases n <;> simp only [forceI, forceN_eq]
noncomputable def forceB (b : Bool) (k : Bool → R) : R := Bool.rec (k false) (k true) b
theorem forceB_eq (b : Bool) (k : Bool → R) : forceB b k = k b := by cases b <;> rfl
noncomputable def forceL (l : List Nat) (k : List Nat → R) : R := List.rec (motive := fun _ => (List Nat → R) → R) (fun k => k []) (fun x _ ih k => forceN x fun x => ih fun l => k (x :: l)) l k
theorem forceL_eq (l : List Nat) (k : List Nat → R) : forceL l k = k l := by
  unfold forceL
  induction l generalizing k with
  | nil => rfl
  | cons x l ih =>
    show (forceN x fun x => _) = _
    rw [forceN_eq]
    exact ih _
end
def iadd : Int → Int → Int
  | .ofNat m, .ofNat n => .ofNat (m + n)
  | a, b => a + b
theorem iadd_eq (a b : Int) : iadd a b = a + b := by
  unfold iadd
  split <;> rfl
def ieq : Int → Int → Bool
  | .ofNat m, .ofNat n => Nat.beq m n
  | .negSucc m, .negSucc n => Nat.beq m n
  | _, _ => false
theorem beqN (m n : Nat) : Nat.beq m n = decide (m = n) := by
  rcases h : Nat.beq m n with _ | _
  · have := Nat.ne_of_beq_eq_false h; simp [this]
  · have := Nat.eq_of_beq_eq_true h; simp [this]
theorem bltN (m n : Nat) : Nat.blt m n = decide (m < n) := by
  rcases h : Nat.blt m n with _ | _
  · have : ¬ m < n := fun h' => by
      have h2 : Nat.blt m n = true := by simpa using h'
      rw [h2] at h; cases h
    simp [this]
  · have : m < n := by simpa using h
    simp [this]
theorem ieq_eq (a b : Int) : ieq a b = decide (a = b) := by
  cases a <;> cases b <;> simp [ieq, beqN] <;> omega
def ilt : Int → Int → Bool
  | .ofNat m, .ofNat n => Nat.blt m n
  | .negSucc _, .ofNat _ => true
  | .ofNat _, .negSucc _ => false
  | .negSucc m, .negSucc n => Nat.blt n m
theorem ilt_eq (a b : Int) : ilt a b = decide (a < b) := by
  cases a <;> cases b <;> simp only [ilt, bltN]
  · congr 1; simp
  · symm; simp only [decide_eq_false_iff_not, Int.ofNat_eq_natCast]; omega
  · symm; simp only [decide_eq_true_eq, Int.ofNat_eq_natCast]; omega
  · congr 1; simp only [eq_iff_iff]; omega
def inS (h : Nat) : Int → Bool
  | .ofNat m => Nat.blt m h
  | .negSucc m => Nat.blt m h
def wrS (h : Nat) (n : Int) : Int := bif inS h n then n else (n + h) % (2 * h) - h
theorem wrS_eq (h : Nat) (n : Int) : wrS h n = (n + h) % (2 * h) - h := by
  unfold wrS
  cases e : inS h n with
  | false => rfl
  | true =>
    have : -(h : Int) ≤ n ∧ n < h := by
      cases n with
      | ofNat m => simp only [inS, bltN, decide_eq_true_eq] at e; simp only [Int.ofNat_eq_natCast]; omega
      | negSucc m => simp only [inS, bltN, decide_eq_true_eq] at e; omega
    simp only [cond_true]
    rw [Int.emod_eq_of_lt (by omega) (by omega)]; omega
def wrU (h : Nat) : Int → Int
  | .ofNat m => .ofNat (m % h)
  | n => n % h
theorem wrU_eq (h : Nat) (n : Int) : wrU h n = n % h := by cases n <;> rfl
def wr : IntKind → Int → Int
  | .i64, n => wrS 9223372036854775808 n
  | .u8, n => wrU 256 n
  | .i32, n => wrS 2147483648 n
  | .u32, n => wrU 4294967296 n
  | .u64, n => wrU 18446744073709551616 n
  | .i8, n => wrS 128 n
  | .i16, n => wrS 32768 n
  | .u16, n => wrU 65536 n
theorem wr_eq (k : IntKind) (n : Int) : wr k n = k.wrap n := by
  cases k <;> simp only [wr, wrS_eq, wrU_eq] <;> simp [IntKind.wrap, IntKind.bits, IntKind.signed] <;> (split <;> omega)

/-! ## Strings -/
def beqL : List Nat → List Nat → Bool
  | [], [] => true
  | x :: l, y :: m => Nat.beq x y && beqL l m
  | _, _ => false
theorem beqL_eq : ∀ (l m : List Nat), beqL l m = decide (l = m)
  | [], [] => rfl
  | [], _ :: _ => rfl
  | _ :: _, [] => rfl
  | x :: l, y :: m => by
    simp only [beqL, beqL_eq l m, beqN, List.cons.injEq]
    by_cases h1 : x = y <;> by_cases h2 : l = m <;> simp [h1, h2]
def ltL : List Nat → List Nat → Bool
  | _, [] => false
  | [], _ :: _ => true
  | x :: l, y :: m => Nat.blt x y || (Nat.beq x y && ltL l m)
theorem bts_toList (l : List Nat) : (bts l).toList = l.map UInt8.ofNat := by rw [ByteArray.toList_eq]; rfl
theorem bts_size (l : List Nat) : (bts l).size = l.length := by simp [bts, ByteArray.size]
theorem u8_inj {x y : Nat} (hx : x < 256) (hy : y < 256) (h : UInt8.ofNat x = UInt8.ofNat y) : x = y := by
  have := congrArg UInt8.toNat h
  simp at this
  omega
theorem map_u8_inj : ∀ {l m : List Nat}, (∀ x ∈ l, x < 256) → (∀ x ∈ m, x < 256) → l.map UInt8.ofNat = m.map UInt8.ofNat → l = m
  | [], [], _, _, _ => rfl
  | [], _ :: _, _, _, h => by cases h
  | _ :: _, [], _, _, h => by cases h
  | x :: l, y :: m, hl, hm, h => by
    simp only [List.map_cons, List.cons.injEq] at h
    rw [u8_inj (hl x (by simp)) (hm y (by simp)) h.1, map_u8_inj (fun z hz => hl z (by simp [hz])) (fun z hz => hm z (by simp [hz])) h.2]
theorem bts_beq {l m : List Nat} (hl : ∀ x ∈ l, x < 256) (hm : ∀ x ∈ m, x < 256) : ((bts l).toList == (bts m).toList) = beqL l m := by
  rw [bts_toList, bts_toList, beqL_eq]
  by_cases h : l = m
  · subst h; simp
  · have : l.map UInt8.ofNat ≠ m.map UInt8.ofNat := fun e => h (map_u8_inj hl hm e)
    simp only [h, decide_false, beq_eq_false_iff_ne, ne_eq, this, not_false_eq_true]
theorem bts_lt : ∀ {l m : List Nat}, (∀ x ∈ l, x < 256) → (∀ x ∈ m, x < 256) → Op.bytesLess (l.map UInt8.ofNat) (m.map UInt8.ofNat) = ltL l m
  | [], [], _, _ => rfl
  | [], _ :: _, _, _ => rfl
  | _ :: _, [], _, _ => rfl
  | x :: l, y :: m, hl, hm => by
    have hr := bts_lt (l := l) (m := m) (fun z hz => hl z (by simp [hz])) (fun z hz => hm z (by simp [hz]))
    simp only [List.map_cons, Op.bytesLess, ltL, bltN, beqN, hr]
    have hx := hl x (by simp)
    have hy := hm y (by simp)
    have h1 : decide (UInt8.ofNat x < UInt8.ofNat y) = decide (x < y) := by
      congr 1; rw [UInt8.lt_iff_toNat_lt]; simp; omega
    have h2 : (UInt8.ofNat x == UInt8.ofNat y) = decide (x = y) := by
      by_cases e : x = y
      · subst e; simp
      · have : UInt8.ofNat x ≠ UInt8.ofNat y := fun e' => e (u8_inj hx hy e')
        simp [e, this]
    rw [h1, h2]
theorem bts_append (l m : List Nat) : bts l ++ bts m = bts (l ++ m) := by
  apply ByteArray.ext
  simp [bts, ByteArray.data_append]
theorem bts_extract (l : List Nat) (a b : Nat) : (bts l).extract a b = bts ((l.take b).drop a) := by
  apply ByteArray.ext
  simp [bts, ByteArray.data_extract, List.map_drop, List.map_take, List.drop_take]
theorem bts_get (l : List Nat) (i : Nat) : (bts l)[i]? = (l[i]?).map UInt8.ofNat := by
  by_cases h : i < l.length
  · rw [getElem?_pos _ _ (by rw [bts_size]; exact h), List.getElem?_eq_getElem h]
    simp [bts, ByteArray.getElem_eq_getElem_data]
  · rw [getElem?_neg _ _ (by rw [bts_size]; exact h), List.getElem?_eq_none (by omega)]; rfl

/-! ## Constants -/
def D8.of : Nat → D8 | 0 => .a | 1 => .b | 2 => .c | 3 => .d | 4 => .e | 5 => .f | 6 => .g | _ => .h
theorem D8.of_nat {n : Nat} (h : n < 8) : (D8.of n).nat = n := by
  rcases (by omega : n = 0 ∨ n = 1 ∨ n = 2 ∨ n = 3 ∨ n = 4 ∨ n = 5 ∨ n = 6 ∨ n = 7) with rfl | rfl | rfl | rfl | rfl | rfl | rfl | rfl <;> rfl
def ixOf (n : Nat) : Option Ix := bif Nat.blt n 512 then some ⟨D8.of (n / 64), D8.of (n / 8 % 8), D8.of (n % 8)⟩ else none
theorem ixOf_nat {n : Nat} {i : Ix} (h : ixOf n = some i) : i.nat = n := by
  unfold ixOf at h
  rw [bltN] at h
  by_cases hn : n < 512
  · simp only [hn, decide_true, cond_true, Option.some.injEq] at h
    subst h
    simp only [Ix.nat]
    rw [D8.of_nat (by omega), D8.of_nat (by omega), D8.of_nat (by omega)]; omega
  · simp [hn] at h
def cell1 : Value → Option V
  | .bool b => some (.b b)
  | .int k n => some (.i k n)
  | .string s => some (.s s.size (s.data.toList.map UInt8.toNat))
  | .pointer none => some .np
  | .slice none 0 0 => some .ns
  | .map none => some .nm
  | .nilFunc => some .nf
  | .nilIface => some .ni
  | _ => none
def cellsOf : List Value → Option (List V)
  | [] => some []
  | v :: l => match cell1 v with
    | some x => match cellsOf l with
      | some m => some (x :: m)
      | none => none
    | none => none
def ofVal : Value → Option V
  | .agg cs => match cellsOf cs.toList with | some l => some (.ag l) | none => none
  | .tuple cs => match cellsOf cs.toList with | some l => some (.tu l) | none => none
  | v => cell1 v
theorem cell1_vr {r : Ren} {v : Value} {x : V} (h : cell1 v = some x) : VR r x v := by
  cases v with
  | bool b => simp only [cell1, Option.some.injEq] at h; subst h; rfl
  | int k n => simp only [cell1, Option.some.injEq] at h; subst h; rfl
  | string s =>
    simp only [cell1, Option.some.injEq] at h; subst h
    refine ⟨?_, by rw [List.length_map]; rfl, fun x hx => ?_⟩
    · congr 1
      apply ByteArray.ext
      have e : UInt8.ofNat ∘ UInt8.toNat = id := funext fun x => UInt8.ofNat_toNat
      simp only [bts, List.map_map, e, List.map_id, Array.toArray_toList]
    · obtain ⟨u, _, rfl⟩ := List.mem_map.1 hx; exact u.toNat_lt
  | pointer a => cases a <;> simp only [cell1, Option.some.injEq, reduceCtorEq] at h; subst h; rfl
  | slice a n c =>
    cases a with
    | some a => cases h
    | none =>
      cases n with
      | succ n => cases h
      | zero => cases c <;> simp only [cell1, Option.some.injEq, reduceCtorEq] at h; subst h; rfl
  | map a => cases a <;> simp only [cell1, Option.some.injEq, reduceCtorEq] at h; subst h; rfl
  | nilFunc => simp only [cell1, Option.some.injEq] at h; subst h; rfl
  | nilIface => simp only [cell1, Option.some.injEq] at h; subst h; rfl
  | _ => cases h
theorem cellsOf_vr {r : Ren} : ∀ {l : List Value} {m : List V}, cellsOf l = some m → VRs r m l
  | [], m, h => by simp only [cellsOf, Option.some.injEq] at h; subst h; rfl
  | v :: l, m, h => by
    simp only [cellsOf] at h
    split at h
    · rename_i x hx
      split at h
      · rename_i m' hm
        cases h
        exact ⟨v, l, rfl, cell1_vr hx, cellsOf_vr hm⟩
      · cases h
    · cases h
theorem ofVal_vr {r : Ren} {v : Value} {x : V} (h : ofVal v = some x) : VR r x v := by
  unfold ofVal at h
  split at h
  · split at h
    · rename_i hl; cases h; exact ⟨_, by simp, cellsOf_vr hl⟩
    · cases h
  · split at h
    · rename_i hl; cases h; exact ⟨_, by simp, cellsOf_vr hl⟩
    · cases h
  · exact cell1_vr h

/-! ## Operands -/
inductive XV where
  | t (i : Ix)
  | c (v : V)
def trV : Operand → Option XV
  | .tmp t => match ixOf t with | some i => some (.t i) | none => none
  | .const v => match ofVal v with | some x => some (.c x) | none => none
  | .func f => match ixOf f with | some i => some (.c (.fn i [] [])) | none => none
  | .global _ => none
def XV.get (x : XV) (E : Env) : Option V := match x with | .t i => get3 E i | .c v => some v
noncomputable def XV.K {R : Type} (x : XV) (E : Env) (k : V → R) (bad : R) : R := XV.rec (fun i => get3K E i k bad) k x
theorem XV.K_eq {R : Type} (x : XV) (E : Env) (k : V → R) (bad : R) : x.K E k bad = match x.get E with | some v => k v | none => bad := by
  cases x with
  | t i =>
    show get3K E i k bad = match get3 E i with | some v => k v | none => bad
    rw [get3K_eq]
    cases get3 E i <;> rfl
  | c v => rfl
theorem trV_vr {r : Ren} {E : Env} {a : Act} {o : Operand} {x : XV} {v : V} (h : trV o = some x) (hr : RE r E a) (hv : x.get E = some v) : VR r v (a.eval o) := by
  cases o with
  | tmp t =>
    simp only [trV] at h
    split at h
    · rename_i i hi; cases h; have := hr i v hv; rwa [ixOf_nat hi] at this
    · cases h
  | const c =>
    simp only [trV] at h
    split at h
    · rename_i hi; cases h; cases hv; exact ofVal_vr hi
    · cases h
  | func f =>
    simp only [trV] at h
    split at h
    · rename_i i hi; cases h; cases hv; exact ⟨[], [], by rw [ixOf_nat hi]; rfl, rfl, rfl⟩
    · cases h
  | global g => cases h
def trVs : List Operand → Option (List XV)
  | [] => some []
  | o :: l => match trV o with
    | some x => match trVs l with
      | some m => some (x :: m)
      | none => none
    | none => none
def getVs (E : Env) : List XV → Option (List V)
  | [] => some []
  | x :: l => match x.get E with
    | some v => match getVs E l with
      | some m => some (v :: m)
      | none => none
    | none => none
noncomputable def XVs.K {R : Type} (l : List XV) (E : Env) (k : List V → R) (bad : R) : R :=
  List.rec (motive := fun _ => (List V → R) → R) (fun k => k []) (fun x _ ih k => x.K E (fun v => ih fun m => k (v :: m)) bad) l k
theorem XVs.K_eq {R : Type} (l : List XV) (E : Env) (k : List V → R) (bad : R) : XVs.K l E k bad = match getVs E l with | some v => k v | none => bad := by
  unfold XVs.K
  induction l generalizing k with
  | nil => rfl
  | cons x l ih =>
    show XV.K x E _ bad = _
    rw [XV.K_eq]
    simp only [getVs]
    cases x.get E with
    | none => rfl
    | some v =>
      simp only
      rw [ih]
      cases getVs E l <;> rfl
theorem trVs_vr {r : Ren} {E : Env} {a : Act} (hr : RE r E a) : ∀ {l : List Operand} {m : List XV} {vs : List V}, trVs l = some m → getVs E m = some vs → VRs r vs (l.map a.eval)
  | [], m, vs, h, hv => by simp only [trVs, Option.some.injEq] at h; subst h; simp only [getVs, Option.some.injEq] at hv; subst hv; rfl
  | o :: l, m, vs, h, hv => by
    simp only [trVs] at h
    split at h
    · rename_i x hx
      split at h
      · rename_i m' hm
        cases h
        simp only [getVs] at hv
        split at hv
        · rename_i v hv1
          split at hv
          · rename_i vs' hv2
            cases hv
            exact ⟨_, _, rfl, trV_vr hx hr hv1, trVs_vr hr hm hv2⟩
          · cases hv
        · cases hv
      · cases h
    · cases h
end Go.Ev
