/- The evaluator: operations that leave memory alone and do not read it. No program is named here. -/
import Derived.Test.YtngdkgddeobiiaaEv2
namespace Go.Ev
open Go Go.TL

def ikn : IntKind → Nat | .i8 => 0 | .i16 => 1 | .i32 => 2 | .i64 => 3 | .u8 => 4 | .u16 => 5 | .u32 => 6 | .u64 => 7
theorem ikn_inj {j k : IntKind} (h : Nat.beq (ikn j) (ikn k) = true) : j = k := by cases j <;> cases k <;> first | rfl | cases h
section
variable {R : Type}
noncomputable def forceS (l : List V) (k : List V → R) : R := List.rec (motive := fun _ => (List V → R) → R) (fun k => k []) (fun x _ ih k => ih fun l => k (x :: l)) l k
theorem forceS_eq (l : List V) (k : List V → R) : forceS l k = k l := by
  unfold forceS
  induction l generalizing k with
  | nil => rfl
  | cons x l ih => exact ih _
noncomputable def forceV (v : V) (k : V → R) : R := match v with
  | .b x => forceB x fun x => k (.b x)
  | .i kd n => forceI n fun n => k (.i kd n)
  | .s n l => forceN n fun n => forceL l fun l => k (.s n l)
  | .p i off => forceN off fun off => k (.p i off)
  | .sl i off len (.k c) => forceN off fun off => forceN len fun len => forceN c fun c => k (.sl i off len (.k c))
  | .sl i off len (.u c) => forceN off fun off => forceN len fun len => forceN c fun c => k (.sl i off len (.u c))
  | .ag l => forceS l fun l => k (.ag l)
  | .tu l => forceS l fun l => k (.tu l)
  | v => k v
theorem forceV_eq (v : V) (k : V → R) : forceV v k = k v := by
  cases v with
  | sl i off len c => cases c <;> simp only [forceV, forceN_eq]
  | _ => first | rfl | simp only [forceV, forceB_eq, forceI_eq, forceN_eq, forceL_eq, forceS_eq]
noncomputable def ret (o : Option V) (k : V → R) (bad : R) : R := Option.rec bad (fun v => forceV v k) o
theorem ret_eq (o : Option V) (k : V → R) (bad : R) : ret o k bad = match o with | some v => k v | none => bad := by
  cases o with
  | none => rfl
  | some v => exact forceV_eq v k
end

/-! ## What the operations compute -/
def intOp (op : BinOp) (k : IntKind) (a b : Int) : Option V := match op with
  | .add => some (.i k (wr k (iadd a b)))
  | .sub => some (.i k (wr k (a - b)))
  | .mul => some (.i k (wr k (a * b)))
  | .quo => bif ieq b 0 then none else some (.i k (wr k (a.tdiv b)))
  | .rem => bif ieq b 0 then none else some (.i k (a.tmod b))
  | .and => some (.i k (k.wrap ((BitVec.ofInt k.bits a &&& BitVec.ofInt k.bits b).toNat)))
  | .or => some (.i k (k.wrap ((BitVec.ofInt k.bits a ||| BitVec.ofInt k.bits b).toNat)))
  | .xor => some (.i k (k.wrap ((BitVec.ofInt k.bits a ^^^ BitVec.ofInt k.bits b).toNat)))
  | .andNot => some (.i k (k.wrap ((BitVec.ofInt k.bits a &&& ~~~BitVec.ofInt k.bits b).toNat)))
  | .eql => some (.b (ieq a b))
  | .neq => some (.b (!ieq a b))
  | .lss => some (.b (ilt a b))
  | .leq => some (.b (!ilt b a))
  | .gtr => some (.b (ilt b a))
  | .geq => some (.b (!ilt a b))
  | _ => none
def strOp (op : BinOp) (n : Nat) (l : List Nat) (m : Nat) (l' : List Nat) : Option V := match op with
  | .add => bif Nat.ble (n + m) 9223372036854775807 then some (.s (n + m) (l ++ l')) else none
  | .eql => some (.b (beqL l l'))
  | .neq => some (.b (!beqL l l'))
  | .lss => some (.b (ltL l l'))
  | .leq => some (.b (ltL l l' || beqL l l'))
  | .gtr => some (.b (!(ltL l l' || beqL l l')))
  | .geq => some (.b (!ltL l l'))
  | _ => none
def bin2 (op : BinOp) (x y : V) : Option V := match x, y with
  | .i k a, .i j b => bif Nat.beq (ikn k) (ikn j) then intOp op k a b else none
  | .s n l, .s m l' => strOp op n l m l'
  | _, _ => none
def shf (left : Bool) (x y : V) : Option V := match x, y with
  | .i k a, .i _ (.ofNat m) => match left with
    | true => some (.i k (wr k (a * (2 ^ (min m k.bits) : Nat))))
    | false => some (.i k (match a with | .ofNat a => .ofNat (a / 2 ^ (min m k.bits)) | a => a.fdiv ((2 : Int) ^ (min m k.bits))))
  | _, _ => none
/-- Against nil, or a Bool. -/
def eqn (x y : V) : Option Bool := match x, y with
  | .b a, .b c => some (a == c)
  | .np, .np => some true
  | .np, .p _ _ => some false
  | .p _ _, .np => some false
  | .ns, .ns => some true
  | .ns, .sl _ _ _ _ => some false
  | .sl _ _ _ _, .ns => some false
  | .nm, .nm => some true
  | .nm, .m _ => some false
  | .m _, .nm => some false
  | .nf, .nf => some true
  | .nf, .fn _ _ _ => some false
  | .fn _ _ _, .nf => some false
  | _, _ => none
def eqTy : Option TypeDesc → V → Bool
  | some .bool, .b _ => true
  | some (.pointer _), .np => true
  | some (.pointer _), .p _ _ => true
  | some (.slice _), .ns => true
  | some (.slice _), .sl _ _ _ _ => true
  | some (.map _ _), .nm => true
  | some (.map _ _), .m _ => true
  | some (.func _ _ _), .nf => true
  | some (.func _ _ _), .fn _ _ _ => true
  | _, _ => false
def notV : V → Option V | .b x => some (.b (!x)) | _ => none
def negV : V → Option V | .i k n => some (.i k (wr k (0 - n))) | _ => none
def xorV : V → Option V | .i k n => some (.i k (k.wrap ((BitVec.ofInt k.bits (if k.signed then -1 else k.max) ^^^ BitVec.ofInt k.bits n).toNat))) | _ => none
def getL {α : Type} : List α → Nat → Option α
  | [], _ => none
  | x :: _, 0 => some x
  | _ :: l, n + 1 => getL l n
theorem getL_eq {α : Type} : ∀ (l : List α) (n : Nat), getL l n = l[n]?
  | [], _ => by simp [getL]
  | _ :: _, 0 => rfl
  | _ :: l, n + 1 => by simpa [getL] using getL_eq l n
def dropL {α : Type} : Nat → List α → List α
  | 0, l => l
  | _ + 1, [] => []
  | n + 1, _ :: l => dropL n l
theorem dropL_eq {α : Type} : ∀ (n : Nat) (l : List α), dropL n l = l.drop n
  | 0, _ => rfl
  | _ + 1, [] => rfl
  | n + 1, _ :: l => dropL_eq n l
/-- So many from a place on, all there. -/
def takeL {α : Type} : Nat → List α → Option (List α)
  | 0, _ => some []
  | _ + 1, [] => none
  | n + 1, x :: l => match takeL n l with | some m => some (x :: m) | none => none
theorem takeL_eq {α : Type} : ∀ {n : Nat} {l m : List α}, takeL n l = some m → m = l.take n ∧ n ≤ l.length
  | 0, _, _, h => by simp only [takeL, Option.some.injEq] at h; subst h; simp
  | _ + 1, [], _, h => by cases h
  | n + 1, x :: l, m, h => by
    simp only [takeL] at h
    split at h
    · rename_i m' hm; cases h; obtain ⟨e, hl⟩ := takeL_eq hm; subst e; simp; omega
    · cases h
/-- A part of an aggregate. -/
def partV (agg : Bool) (off n : Nat) (l : List V) : Option V := match agg with
  | true => match takeL n (dropL off l) with | some m => some (.ag m) | none => none
  | false => getL l off
def extV (n : Nat) : V → Option V | .tu l => getL l n | _ => none
def nckV : V → Option V
  | .p i o => some (.p i o)
  | .fn f a c => some (.fn f a c)
  | _ => none
def faV (off : Nat) : V → Option V | .p i o => some (.p i (o + off)) | _ => none
def fldV (agg : Bool) (off n : Nat) : V → Option V | .ag l => partV agg off n l | _ => none
/-- An index that is no less than nought and less than so much. -/
def idx (n : Nat) : V → Option Nat | .i _ (.ofNat m) => bif Nat.blt m n then some m else none | _ => none
def ixaV (sz : Nat) (x y : V) : Option V := match x with
  | .sl i off len _ => match idx len y with | some m => some (.p i (off + m * sz)) | none => none
  | _ => none
def ixpV (sz len : Nat) (x y : V) : Option V := match x with
  | .p i off => match idx len y with | some m => some (.p i (off + m * sz)) | none => none
  | _ => none
def ixsV (x y : V) : Option V := match x with
  | .s n l => match idx n y with | some m => (match getL l m with | some b => some (.i .u8 (.ofNat b)) | none => none) | none => none
  | _ => none
def ixvV (agg : Bool) (sz len : Nat) (x y : V) : Option V := match x with
  | .ag l => match idx len y with | some m => partV agg (m * sz) sz l | none => none
  | _ => none
def bnd (d n : Nat) : Option V → Option Nat
  | none => some d
  | some y => idx (n + 1) y
/-- low, high, max -/
def bnds (len cap : Nat) (lo hi mx : Option V) : Option (Nat × Nat × Nat) :=
  match bnd cap cap mx with
  | none => none
  | some m => match (match hi with | none => (match mx with | none => some len | some _ => none) | some y => idx (m + 1) y) with
    | none => none
    | some h => match (match lo with | none => some 0 | some y => idx (h + 1) y) with
      | none => none
      | some l => some (l, h, m)
def slsV (x : V) (lo hi : Option V) : Option V := match x with
  | .s n l => match bnds n n lo hi none with
    | some (a, b, _) => (match takeL (b - a) (dropL a l) with | some m => some (.s (b - a) m) | none => none)
    | none => none
  | _ => none
def sllV (sz : Nat) (x : V) (lo hi mx : Option V) : Option V := match x with
  | .ns => match bnds 0 0 lo hi mx with | some _ => some .ns | none => none
  | .sl i off len (.k c) => match bnds len c lo hi mx with
    | some (a, b, m) => some (.sl i (bif Nat.beq m a then off else off + a * sz) (b - a) (.k (m - a)))
    | none => none
  | .sl i off len (.u c) => match mx with
    | some _ => (match bnds len len lo hi mx with
      | some (a, b, m) => bif Nat.beq m a then none else some (.sl i (off + a * sz) (b - a) (.k (m - a)))
      | none => none)
    | none => match bnds len len lo hi none with
      -- up to the length alone: more the block may not have; at its very end the address would stay
      | some (a, b, _) => bif Nat.blt a len then some (.sl i (off + a * sz) (b - a) (.u (c + a))) else (bif Nat.beq a 0 then some (.sl i off (b - a) (.u c)) else none)
      | none => none
  | _ => none
def slpV (sz n : Nat) (x : V) (lo hi mx : Option V) : Option V := match x with
  | .p i off => match bnds n n lo hi mx with
    | some (a, b, m) => some (.sl i (bif Nat.beq m a then off else off + a * sz) (b - a) (.k (m - a)))
    | none => none
  | _ => none
def cviV (k : IntKind) : V → Option V | .i _ n => some (.i k (wr k n)) | _ => none
def lenV : V → Option V
  | .s n _ => some (.i .i64 (.ofNat n))
  | .sl _ _ n _ => some (.i .i64 (.ofNat n))
  | .ns => some (.i .i64 (.ofNat 0))
  | _ => none
def capV : V → Option V
  | .sl _ _ _ (.k c) => some (.i .i64 (.ofNat c))
  | .ns => some (.i .i64 (.ofNat 0))
  | _ => none
def minV : List V → Option V
  | [.i k a, .i j b] => bif Nat.beq (ikn k) (ikn j) then some (.i k (bif ilt b a then b else a)) else none
  | _ => none
def maxV : List V → Option V
  | [.i k a, .i j b] => bif Nat.beq (ikn k) (ikn j) then some (.i k (bif ilt a b then b else a)) else none
  | _ => none
def cellsV : V → List V | .ag l => l | v => [v]
/-- Cells put over others from a place on. -/
def overL {α : Type} : List α → Nat → List α → Option (List α)
  | cs, 0, [] => some cs
  | _ :: cs, 0, n :: ns => match overL cs 0 ns with | some r => some (n :: r) | none => none
  | c :: cs, k + 1, ns => match overL cs k ns with | some r => some (c :: r) | none => none
  | [], _, _ => none
theorem overL_eq {α : Type} : ∀ {cs : List α} {k : Nat} {ns r : List α}, overL cs k ns = some r → r = cs.take k ++ ns ++ cs.drop (k + ns.length) ∧ k + ns.length ≤ cs.length
  | cs, 0, [], _, h => by
    have : overL cs 0 ([] : List α) = some cs := by cases cs <;> rfl
    rw [this] at h; cases h; simp
  | [], 0, n :: ns, r, h => by cases h
  | [], k + 1, ns, r, h => by cases ns <;> cases h
  | c :: cs, 0, n :: ns, r, h => by
    simp only [overL] at h
    split at h
    · rename_i r' hr
      cases h
      obtain ⟨rfl, hl⟩ := overL_eq hr
      refine ⟨?_, ?_⟩
      · simp only [List.take_zero, List.nil_append, List.length_cons, Nat.zero_add, List.cons_append, List.drop_succ_cons] at *
      · simp only [List.length_cons] at *; omega
    · cases h
  | c :: cs, k + 1, ns, r, h => by
    have e : overL (c :: cs) (k + 1) ns = match overL cs k ns with | some r => some (c :: r) | none => none := by cases ns <;> rfl
    rw [e] at h
    split at h
    · rename_i r' hr
      cases h
      obtain ⟨rfl, hl⟩ := overL_eq hr
      refine ⟨?_, ?_⟩
      · rw [show k + 1 + ns.length = (k + ns.length) + 1 by omega]; simp
      · simp only [List.length_cons]; omega
    · cases h
def fillV : List V → List (Nat × Nat) → List V → Option (List V)
  | cs, [], [] => some cs
  | cs, (off, n) :: ps, v :: vs => bif Nat.beq (cellsV v).length n then (match overL cs off (cellsV v) with | some cs => fillV cs ps vs | none => none) else none
  | _, _, _ => none
end Go.Ev
