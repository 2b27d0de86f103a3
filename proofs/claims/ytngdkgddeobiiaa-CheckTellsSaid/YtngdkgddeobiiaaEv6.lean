/- The evaluator itself. No program is named here. -/
import Derived.Test.YtngdkgddeobiiaaEv5
namespace Go.Ev
open Go Go.TL

/-! ## Operations that only compute -/
inductive XP where
  | mv (x : XV)
  | pick (c a b : XV)
  | bin (op : BinOp) (x y : XV)
  | shf (left : Bool) (x y : XV)
  | eqn (neg : Bool) (tag : Nat) (x y : XV)
  | eqs (neg : Bool) (tags : List Nat) (x y : XV)
  | not (x : XV)
  | neg (x : XV)
  | xor (x : XV)
  | ext (n : Nat) (x : XV)
  | nck (x : XV)
  | fa (off : Nat) (x : XV)
  | fld (agg : Bool) (off n : Nat) (x : XV)
  | ixa (sz : Nat) (x y : XV)
  | ixp (sz len : Nat) (x y : XV)
  | ixs (x y : XV)
  | ixv (agg : Bool) (sz len : Nat) (x y : XV)
  | sls (x : XV) (lo hi : Option XV)
  | sll (sz : Nat) (x : XV) (lo hi mx : Option XV)
  | slp (sz n : Nat) (x : XV) (lo hi mx : Option XV)
  | cvi (k : IntKind) (x : XV)
  | mkf (f : Ix) (first cap : List XV)
  | lenS (x : XV)
  | lenL (x : XV)
  | cap (x : XV)
  | min (l : List XV)
  | max (l : List XV)
  | bld (zero : List V) (ps : List (Nat × Nat)) (l : List XV)
def vTag : V → Nat | .b _ => 0 | .np => 1 | .p _ _ => 1 | .ns => 2 | .sl _ _ _ _ => 2 | .nm => 3 | .m _ => 3 | .nf => 4 | .fn _ _ _ => 4 | .i _ _ => 5 | .s _ _ => 6 | _ => 8
def cellEq (x y : V) : Option Bool := match x, y with
  | .b a, .b c => some (a == c)
  | .i k a, .i j b => bif Nat.beq (ikn k) (ikn j) then some (ieq a b) else none
  | .s _ l, .s _ m => some (beqL l m)
  | _, _ => none
def eqCells : List Nat → List V → List V → Option Bool
  | [], [], [] => some true
  | t :: ts, x :: xs, y :: ys => bif Nat.beq (vTag x) t then (match cellEq x y with
    | some true => eqCells ts xs ys
    | some false => (match eqCells ts xs ys with | some _ => some false | none => none)
    | none => none) else none
  | _, _, _ => none
def eqsV (tags : List Nat) (x y : V) : Option Bool := match x, y with | .ag l, .ag m => eqCells tags l m | _, _ => none
def getO (E : Env) : Option XV → Option (Option V)
  | none => some none
  | some x => match x.get E with | some v => some (some v) | none => none
noncomputable def getOK {R : Type} (E : Env) (o : Option XV) (k : Option V → R) (bad : R) : R := Option.rec (k none) (fun x => x.K E (fun v => k (some v)) bad) o
theorem getOK_eq {R : Type} (E : Env) (o : Option XV) (k : Option V → R) (bad : R) : getOK E o k bad = match getO E o with | some v => k v | none => bad := by
  cases o with
  | none => rfl
  | some x =>
    show x.K E _ bad = _
    rw [XV.K_eq]
    simp only [getO]
    cases x.get E <;> rfl
/-- Nothing unknown in it. -/
def known : V → Bool | .un => false | _ => true
def b1 (f : V → Option V) : Option V → Option V | some x => f x | none => none
def b2 (f : V → V → Option V) : Option V → Option V → Option V | some x, some y => f x y | _, _ => none
def nB (neg : Bool) : Option Bool → Option V | some c => some (.b (bif neg then !c else c)) | none => none
def pickV (c a b : V) : Option V := match c with | .b true => some a | .b false => some b | _ => none
def XP.ev (p : XP) (E : Env) : Option V := match p with
  | .mv x => x.get E
  | .pick c a b => match c.get E, a.get E, b.get E with | some c, some a, some b => pickV c a b | _, _, _ => none
  | .bin op x y => b2 (bin2 op) (x.get E) (y.get E)
  | .shf left x y => b2 (Ev.shf left) (x.get E) (y.get E)
  | .eqn ng tag x y => b2 (fun x y => bif Nat.beq (vTag x) tag then nB ng (Ev.eqn x y) else none) (x.get E) (y.get E)
  | .eqs ng tags x y => b2 (fun x y => nB ng (eqsV tags x y)) (x.get E) (y.get E)
  | .not x => b1 notV (x.get E)
  | .neg x => b1 negV (x.get E)
  | .xor x => b1 xorV (x.get E)
  | .ext n x => b1 (extV n) (x.get E)
  | .nck x => b1 nckV (x.get E)
  | .fa off x => b1 (faV off) (x.get E)
  | .fld agg off n x => b1 (fldV agg off n) (x.get E)
  | .ixa sz x y => b2 (ixaV sz) (x.get E) (y.get E)
  | .ixp sz len x y => b2 (ixpV sz len) (x.get E) (y.get E)
  | .ixs x y => b2 ixsV (x.get E) (y.get E)
  | .ixv agg sz len x y => b2 (ixvV agg sz len) (x.get E) (y.get E)
  | .sls x lo hi => match x.get E, getO E lo, getO E hi with | some x, some lo, some hi => slsV x lo hi | _, _, _ => none
  | .sll sz x lo hi mx => match x.get E, getO E lo, getO E hi, getO E mx with | some x, some lo, some hi, some mx => sllV sz x lo hi mx | _, _, _, _ => none
  | .slp sz n x lo hi mx => match x.get E, getO E lo, getO E hi, getO E mx with | some x, some lo, some hi, some mx => slpV sz n x lo hi mx | _, _, _, _ => none
  | .cvi k x => b1 (cviV k) (x.get E)
  | .mkf f first cp => match getVs E first, getVs E cp with | some a, some b => some (.fn f a b) | _, _ => none
  | .lenS x => b1 (fun x => match x with | .s _ _ => lenV x | _ => none) (x.get E)
  | .lenL x => b1 (fun x => match x with | .s _ _ => none | _ => lenV x) (x.get E)
  | .cap x => b1 capV (x.get E)
  | .min l => match getVs E l with | some l => minV l | none => none
  | .max l => match getVs E l with | some l => maxV l | none => none
  | .bld zero ps l => match getVs E l with | some l => bif l.all known then (match fillV zero ps l with | some cs => some (.ag cs) | none => none) else none | none => none
section
variable {R : Type}
noncomputable def k2 (E : Env) (x y : XV) (f : V → V → Option V) (k : V → R) (bad : R) : R := x.K E (fun x => y.K E (fun y => ret (f x y) k bad) bad) bad
noncomputable def k1 (E : Env) (x : XV) (f : V → Option V) (k : V → R) (bad : R) : R := x.K E (fun x => ret (f x) k bad) bad
noncomputable def XP.K (p : XP) (E : Env) (k : V → R) (bad : R) : R :=
  XP.casesOn p (fun x => x.K E k bad)
    (fun c a b => c.K E (fun c => a.K E (fun a => b.K E (fun b => ret (pickV c a b) k bad) bad) bad) bad)
    (fun op x y => k2 E x y (bin2 op) k bad)
    (fun left x y => k2 E x y (Ev.shf left) k bad)
    (fun ng tag x y => k2 E x y (fun x y => bif Nat.beq (vTag x) tag then nB ng (Ev.eqn x y) else none) k bad)
    (fun ng tags x y => k2 E x y (fun x y => nB ng (eqsV tags x y)) k bad)
    (fun x => k1 E x notV k bad)
    (fun x => k1 E x negV k bad)
    (fun x => k1 E x xorV k bad)
    (fun n x => k1 E x (extV n) k bad)
    (fun x => k1 E x nckV k bad)
    (fun off x => k1 E x (faV off) k bad)
    (fun agg off n x => k1 E x (fldV agg off n) k bad)
    (fun sz x y => k2 E x y (ixaV sz) k bad)
    (fun sz len x y => k2 E x y (ixpV sz len) k bad)
    (fun x y => k2 E x y ixsV k bad)
    (fun agg sz len x y => k2 E x y (ixvV agg sz len) k bad)
    (fun x lo hi => x.K E (fun x => getOK E lo (fun lo => getOK E hi (fun hi => ret (slsV x lo hi) k bad) bad) bad) bad)
    (fun sz x lo hi mx => x.K E (fun x => getOK E lo (fun lo => getOK E hi (fun hi => getOK E mx (fun mx => ret (sllV sz x lo hi mx) k bad) bad) bad) bad) bad)
    (fun sz n x lo hi mx => x.K E (fun x => getOK E lo (fun lo => getOK E hi (fun hi => getOK E mx (fun mx => ret (slpV sz n x lo hi mx) k bad) bad) bad) bad) bad)
    (fun kd x => k1 E x (cviV kd) k bad)
    (fun f first cp => XVs.K first E (fun a => XVs.K cp E (fun b => k (.fn f a b)) bad) bad)
    (fun x => k1 E x (fun x => match x with | .s _ _ => lenV x | _ => none) k bad)
    (fun x => k1 E x (fun x => match x with | .s _ _ => none | _ => lenV x) k bad)
    (fun x => k1 E x capV k bad)
    (fun l => XVs.K l E (fun l => ret (minV l) k bad) bad)
    (fun l => XVs.K l E (fun l => ret (maxV l) k bad) bad)
    (fun zero ps l => XVs.K l E (fun l => ret (bif l.all known then (match fillV zero ps l with | some cs => some (.ag cs) | none => none) else none) k bad) bad)
theorem k1_eq (E : Env) (x : XV) (f : V → Option V) (k : V → R) (bad : R) : k1 E x f k bad = match b1 f (x.get E) with | some v => k v | none => bad := by
  simp only [k1, XV.K_eq, ret_eq]
  cases x.get E <;> simp only [b1] <;> split <;> simp_all
theorem k2_eq (E : Env) (x y : XV) (f : V → V → Option V) (k : V → R) (bad : R) : k2 E x y f k bad = match b2 f (x.get E) (y.get E) with | some v => k v | none => bad := by
  simp only [k2, XV.K_eq, ret_eq]
  cases x.get E <;> cases y.get E <;> simp only [b2] <;> split <;> simp_all
theorem XP.K_eq (p : XP) (E : Env) (k : V → R) (bad : R) : p.K E k bad = match p.ev E with | some v => k v | none => bad := by
  cases p with
  | mv x => exact (XV.K_eq x E k bad).trans (by simp only [XP.ev]; cases x.get E <;> rfl)
  | pick c a b =>
    simp only [XP.K, XP.ev, XV.K_eq, ret_eq]
    cases c.get E <;> cases a.get E <;> cases b.get E <;> simp only <;> split <;> simp_all
  | sls x lo hi =>
    simp only [XP.K, XP.ev, XV.K_eq, ret_eq, getOK_eq]
    cases x.get E <;> cases getO E lo <;> cases getO E hi <;> simp only <;> split <;> simp_all
  | sll sz x lo hi mx =>
    simp only [XP.K, XP.ev, XV.K_eq, ret_eq, getOK_eq]
    cases x.get E <;> cases getO E lo <;> cases getO E hi <;> cases getO E mx <;> simp only <;> split <;> simp_all
  | slp sz n x lo hi mx =>
    simp only [XP.K, XP.ev, XV.K_eq, ret_eq, getOK_eq]
    cases x.get E <;> cases getO E lo <;> cases getO E hi <;> cases getO E mx <;> simp only <;> split <;> simp_all
  | mkf f first cp =>
    simp only [XP.K, XP.ev, XVs.K_eq]
    cases getVs E first <;> cases getVs E cp <;> rfl
  | min l =>
    simp only [XP.K, XP.ev, XVs.K_eq, ret_eq]
    cases getVs E l <;> simp only <;> split <;> simp_all
  | max l =>
    simp only [XP.K, XP.ev, XVs.K_eq, ret_eq]
    cases getVs E l <;> simp only <;> split <;> simp_all
  | bld zero ps l =>
    simp only [XP.K, XP.ev, XVs.K_eq, ret_eq]
    cases getVs E l <;> simp only <;> split <;> simp_all
  | _ => first | exact k1_eq E _ _ k bad | exact k2_eq E _ _ _ k bad
end
end Go.Ev
