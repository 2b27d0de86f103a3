/- The evaluator: code, calls; the translation of the model's code. No program is named here. -/
import Derived.Test.YtngdkgddeobiiaaEv7
namespace Go.Ev
open Go Go.TL

inductive XA where
  | p (p : XP)
  | m (m : XM)
  | call (f : Ix) (args : List XV)
  | callv (x : XV) (args : List XV)
structure XO where
  g : Option (Ix × Bool)
  d : Option Ix
  a : XA
inductive Plan where
  | done
  | step (o : XO) (p : Plan)
  | alt (p q : Plan)
inductive X where
  | skip
  | ret
  | ex (id : Nat)
  | seq (a b : X)
  | cond (c : XV) (a b : X)
  | blk (id : Nat) (a : X)
  | loop (a : X)
  | reg (l : List XO)
  | dreg (p : Plan)
inductive XR where
  | t (i : Ix)
  | c (agg : Bool) (n : Nat) (i : Ix)
inductive Ent where
  | body (prm : List Ix) (x : X) (res : List XR)
  | prim (f : List V → Heap → Id → OutM)
inductive Ex where | n | x (id : Nat) | r

/-! ## Are two states the same? -/
mutual
def V.same : V → V → Bool
  | .un, .un => true
  | .b x, .b y => x == y
  | .i k a, .i j b => Nat.beq (ikn k) (ikn j) && ieq a b
  | .s n l, .s n' m => Nat.beq n n' && beqL l m
  | .np, .np => true
  | .p i a, .p j b => Nat.beq i.nat j.nat && Nat.beq a b
  | .ns, .ns => true
  | .sl i a n (.k c), .sl j b m (.k d) => Nat.beq i.nat j.nat && Nat.beq a b && Nat.beq n m && Nat.beq c d
  | .sl i a n (.u c), .sl j b m (.u d) => Nat.beq i.nat j.nat && Nat.beq a b && Nat.beq n m && Nat.beq c d
  | .nm, .nm => true
  | .m i, .m j => Nat.beq i.nat j.nat
  | .nf, .nf => true
  | .fn f a b, .fn g c d => Nat.beq f.nat g.nat && Vs.same a c && Vs.same b d
  | .ag a, .ag b => Vs.same a b
  | .tu a, .tu b => Vs.same a b
  | .ni, .ni => true
  | .ifc t x, .ifc u y => Nat.beq t u && V.same x y
  | _, _ => false
def Vs.same : List V → List V → Bool
  | [], [] => true
  | x :: l, y :: m => V.same x y && Vs.same l m
  | _, _ => false
end
def Es.same : List (V × V) → List (V × V) → Bool
  | [], [] => true
  | (a, b) :: l, (c, d) :: m => V.same a c && V.same b d && Es.same l m
  | _, _ => false
def O.same : O → O → Bool
  | .c t l, .c u m => Nat.beq t u && Vs.same l m
  | .g t s l, .g u r m => Nat.beq t u && Nat.beq s r && Vs.same l m
  | .mp a b q, .mp d e f => Es.same a d && beqL b e && Nat.beq q f
  | .it n l r p, .it n' m s q => Nat.beq n n' && beqL l m && beqL r s && Nat.beq p q
  | _, _ => false
def Tr.same {α : Type} (f : α → α → Bool) : Tr α → Tr α → Bool
  | .mt, .mt => true
  | .lf x, .lf y => f x y
  | .nd a b c d e g h i, .nd a' b' c' d' e' g' h' i' => Tr.same f a a' && Tr.same f b b' && Tr.same f c c' && Tr.same f d d' && Tr.same f e e' && Tr.same f g g' && Tr.same f h h' && Tr.same f i i'
  | _, _ => false

/-! ## Running -/
section
variable {α : Type}
abbrev Ih (α : Type) := X → Env → Heap → Id → (Ex → Env → Heap → Id → Option α) → Option α
noncomputable def bindR (k : Env → Option α) (prm : List Ix) : List V → Env → Option α :=
  List.rec (motive := fun _ => List V → Env → Option α) (fun args E => match args with | [] => k E | _ => none)
    (fun i _ ih args E => match args with | [] => none | v :: args => set3K E i v fun E => ih args E) prm
noncomputable def bindK (prm : List Ix) (args : List V) (k : Env → Option α) : Option α := bindR k prm args .mt
noncomputable def resK (res : List XR) (E : Env) (H : Heap) (k : List V → Option α) : Option α :=
  List.rec (motive := fun _ => (List V → Option α) → Option α) (fun k => k [])
    (fun x _ ih k => match x with
      | .t i => get3K E i (fun v => ih fun l => k (v :: l)) none
      | .c agg n i => get3K E i (fun v => atK5 H v (fun _ off _ cs => Option.rec none (fun v => forceV v fun v => ih fun l => k (v :: l)) (partV agg off n cs)) none) none) res k
def packV : List V → V | [v] => v | l => .tu l
noncomputable def callK (T : Tr Ent) (ih : Ih α) (f : Ix) (args : List V) (H : Heap) (c : Id) (k : V → Heap → Id → Option α) : Option α :=
  get3K T f (fun e => match e with
    | .body prm x res => bindK prm args fun E => ih x E H c fun e E H c => match e with
      | .x _ => none
      | _ => resK res E H fun l => k (packV l) H c
    | .prim g => outK (g args H c) k none) none
noncomputable def setK (d : Option Ix) (v : V) (E : Env) (k : Env → Option α) : Option α := Option.rec (k E) (fun d => set3K E d v k) d
noncomputable def actK (T : Tr Ent) (ih : Ih α) (a : XA) (E : Env) (H : Heap) (c : Id) (k : V → Heap → Id → Option α) : Option α := match a with
  | .p p => p.K E (fun v => k v H c) none
  | .m m => m.K E H c k none
  | .call f args => XVs.K args E (fun args => callK T ih f args H c k) none
  | .callv x args => x.K E (fun x => XVs.K args E (fun args => match x with
    | .fn f fi cp => callK T ih f (fi ++ (args ++ cp)) H c k
    | _ => none) none) none
noncomputable def opK (T : Tr Ent) (ih : Ih α) (o : XO) (E : Env) (H : Heap) (c : Id) (k : Env → Heap → Id → Option α) : Option α := match o with
  | ⟨g, d, a⟩ => match g with
    | none => actK T ih a E H c fun v H c => setK d v E fun E => k E H c
    | some (j, want) => get3K E j (fun v => match v with
      | .b b => Bool.rec (setK d (.tu []) E fun E => k E H c) (actK T ih a E H c fun v H c => setK d v E fun E => k E H c) (b == want)
      | .tu [] => setK d (.tu []) E fun E => k E H c
      | _ => none) none
noncomputable def opsK (T : Tr Ent) (ih : Ih α) (l : List XO) (E : Env) (H : Heap) (c : Id) (k : Env → Heap → Id → Option α) : Option α :=
  List.rec (motive := fun _ => Env → Heap → Id → Option α) (fun E H c => k E H c) (fun o _ r E H c => opK T ih o E H c r) l E H c
noncomputable def planK (T : Tr Ent) (ih : Ih α) (p : Plan) : Env → Heap → Id → (Env → Heap → Id → Option α) → Option α :=
  Plan.rec (fun E H c k => k E H c) (fun o _ r E H c k => opK T ih o E H c fun E H c => r E H c k)
    (fun _ _ r s E H c k => r E H c fun E1 H1 c1 => s E H c fun E2 H2 c2 =>
      Bool.rec none (k E1 H1 c1) (Tr.same V.same E1 E2 && Tr.same O.same H1 H2 && Nat.beq c1.nat c2.nat)) p
noncomputable def stepK (T : Tr Ent) (ih : Ih α) (x : X) (E : Env) (H : Heap) (c : Id) (k : Ex → Env → Heap → Id → Option α) : Option α :=
  X.casesOn x (k .n E H c) (k .r E H c) (fun id => k (.x id) E H c)
    (fun a b => ih a E H c fun e E H c => Ex.casesOn e (ih b E H c k) (fun id => k (.x id) E H c) (k .r E H c))
    (fun cd a b => cd.K E (fun v => match v with | .b b' => Bool.rec (ih b E H c k) (ih a E H c k) b' | _ => none) none)
    (fun id a => ih a E H c fun e E H c => Ex.casesOn e (k .n E H c) (fun j => Bool.rec (k (.x j) E H c) (k .n E H c) (Nat.beq j id)) (k .r E H c))
    (fun a => ih a E H c fun e E H c => Ex.casesOn e (ih (.loop a) E H c k) (fun id => k (.x id) E H c) (k .r E H c))
    (fun l => opsK T ih l E H c fun E H c => k .n E H c)
    (fun p => planK T ih p E H c fun E H c => k .n E H c)
noncomputable def run (T : Tr Ent) (n : Nat) : Ih α := Nat.rec (fun _ _ _ _ _ => none) (fun _ ih => stepK T ih) n
end

/-! ## The translation -/
def D8.Id0 : Id := ⟨.a, .a, .a, .a, .a⟩
def aggD : TypeDesc → Bool | .struct _ => true | .array _ _ => true | _ => false
/-- Is a type one of several cells; how many has it? -/
def tyN (P : Program) (t : TypeId) : Option (Bool × Nat) := match P.underlying t with
  | some d => (match P.info? t with | some i => some (aggD d, i.size) | none => none)
  | none => none
def zeroC (P : Program) (t : TypeId) : Option (List V) := match P.info? t with
  | some i => (match i.zero with
    | some z => (match cellsOf z.cells.toList with | some l => bif Nat.beq l.length i.size then some l else none | none => none)
    | none => none)
  | none => none
def zero1 (P : Program) (t : TypeId) : Option V := match P.info? t with
  | some i => (match i.zero with | some z => ofVal z | none => none)
  | none => none
def tyTag : Option TypeDesc → Nat | some .bool => 0 | some (.pointer _) => 1 | some (.slice _) => 2 | some (.map _ _) => 3 | some (.func _ _ _) => 4 | some (.int _) => 5 | some .string => 6 | _ => 9
/-- A struct of cells that can be compared, one behind another. -/
def flat (P : Program) : Nat → TypeId → Option (List Nat)
  | 0, _ => none
  | d + 1, t => match P.underlying t with
    | some .bool => some [0]
    | some (.int _) => some [5]
    | some .string => some [6]
    | some (.struct fs) => bif P.stoodInHeld t then none else flatFs (flat P d) (fun t => (P.info? t).map (·.size)) fs.toList 0
    | _ => none
where flatFs (g : TypeId → Option (List Nat)) (sz : TypeId → Option Nat) : List Field → Nat → Option (List Nat)
  | [], _ => some []
  | f :: fs, off => bif (f.name == "_") || !Nat.beq f.offset off then none else match g f.type with
    | some ts => (match sz f.type with
      | some n => bif Nat.beq n ts.length then (match flatFs g sz fs (off + n) with | some r => some (ts ++ r) | none => none) else none
      | none => none)
    | none => none
def trO : Option Operand → Option (Option XV)
  | none => some none
  | some o => match trV o with | some x => some (some x) | none => none
def fieldOf (P : Program) (t : TypeId) (f : Nat) : Option Field := match P.underlying t with | some (.struct fs) => fs[f]? | _ => none
def sizeP (P : Program) (t : TypeId) : Option Nat := match P.info? t with | some i => some i.size | none => none
def placeF (P : Program) (t : TypeId) (i : Nat) : Option (Nat × Nat) := match P.underlying t with
  | some (.struct _) => (match fieldOf P t i with | some f => (match sizeP P f.type with | some n => some (f.offset, n) | none => none) | none => none)
  | some (.array _ e) => (match sizeP P e with | some n => some (i * n, n) | none => none)
  | some (.slice e) => (match sizeP P e with | some n => some (i * n, n) | none => none)
  | _ => none
/-- Where the parts go. -/
def places (P : Program) (t : TypeId) : List Nat → Option (List (Nat × Nat))
  | [] => some []
  | i :: l => match placeF P t i with
    | some p => (match places P t l with | some r => some (p :: r) | none => none)
    | none => none
def eqX (P : Program) (t : TypeId) (ng : Bool) (x y : XV) : Option XP :=
  bif Nat.ble (tyTag (P.underlying t)) 4 then some (.eqn ng (tyTag (P.underlying t)) x y)
  else bif Nat.ble (tyTag (P.underlying t)) 6 then some (.bin (bif ng then .neq else .eql) x y)
  else (match P.underlying t with
    | some (.struct _) => bif P.eqGuardType P.depth t then none else (match flat P 8 t, sizeP P t with | some ts, some n => bif Nat.beq n ts.length then some (.eqs ng ts x y) else none | _, _ => none)
    | _ => none)
def trP (P : Program) (op : Op) : Option XP := match op with
  | .move x | .assign x => match trV x with | some x => some (.mv x) | none => none
  | .pick c a b => match trV c, trV a, trV b with | some c, some a, some b => some (.pick c a b) | _, _, _ => none
  | .nilCheck x => match trV x with | some x => some (.nck x) | none => none
  | .binOp op t x y _ => match trV x, trV y with
    | some x, some y => match op with
      | .shl => some (.shf true x y)
      | .shr => some (.shf false x y)
      | .eql => eqX P t false x y
      | .neq => eqX P t true x y
      | op => some (.bin op x y)
    | _, _ => none
  | .unOp op _ x => match trV x with
    | some x => (match op with | .not => some (.not x) | .neg => some (.neg x) | .xor => some (.xor x) | _ => none)
    | none => none
  | .convert s d x => match trV x, P.underlying s, P.underlying d with
    | some x, some _, some (.int k) => some (.cvi k x)
    | _, _, _ => none
  | .makeFunc (.func f) first cap => match ixOf f, trVs first.toList, trVs cap.toList with
    | some f, some a, some b => some (.mkf f a b)
    | _, _, _ => none
  | .fieldAddr t x f => match trV x, fieldOf P t f with
    | some x, some fd => (match sizeP P fd.type with | some n => bif Nat.blt 0 n then some (.fa fd.offset x) else none | none => none)
    | _, _ => none
  | .field t x f => match trV x, fieldOf P t f with
    | some x, some fd => (match tyN P fd.type with | some (agg, n) => some (.fld agg fd.offset n x) | none => none)
    | _, _ => none
  | .indexAddr t x y => match trV x, trV y, P.underlying t with
    | some x, some y, some (.slice e) => (match sizeP P e with | some n => some (.ixa n x y) | none => none)
    | some x, some y, some (.array len e) => (match sizeP P e with | some n => some (.ixp n len x y) | none => none)
    | _, _, _ => none
  | .index t x y => match trV x, trV y, P.underlying t with
    | some x, some y, some .string => some (.ixs x y)
    | some x, some y, some (.array len e) => (match tyN P e with | some (agg, n) => some (.ixv agg n len x y) | none => none)
    | _, _, _ => none
  | .slice t x lo hi mx => match trV x, trO lo, trO hi, trO mx with
    | some x, some lo, some hi, some mx => (match P.underlying t with
      | some .string => (match mx with | none => some (.sls x lo hi) | some _ => none)
      | some (.slice e) => (match sizeP P e with | some n => some (.sll n x lo hi mx) | none => none)
      | some (.array len e) => (match sizeP P e with | some n => some (.slp n len x lo hi mx) | none => none)
      | _ => none)
    | _, _, _, _ => none
  | .extract x n => match trV x with | some x => some (.ext n x) | none => none
  | .build t ps => match P.underlying t, zeroC P t, places P t (ps.toList.map (·.1)), trVs (ps.toList.map (·.2)) with
    | some (.struct fs), some z, some pl, some l => (match fs.toList.mapM (fun f => (P.info? f.type).map fun i => (f.offset, i.size)) with | some _ => some (.bld z pl l) | none => none)
    | some (.array _ e), some z, some pl, some l => (match sizeP P e with | some _ => some (.bld z pl l) | none => none)
    | _, _, _, _ => none
  | .call c => match c.callee with
    | .builtin .len => match c.args.toList, c.argTypes[0]? with
      | [x], some t => (match trV x, P.underlying t with
        | some x, some .string => some (.lenS x)
        | some x, some (.slice _) => some (.lenL x)
        | _, _ => none)
      | _, _ => none
    | .builtin .cap => match c.args.toList, c.argTypes[0]? with
      | [x], some t => (match trV x, P.underlying t with
        | some x, some (.slice _) => some (.cap x)
        | _, _ => none)
      | _, _ => none
    | .builtin .min => match trVs c.args.toList with | some l => some (.min l) | none => none
    | .builtin .max => match trVs c.args.toList with | some l => some (.max l) | none => none
    | _ => none
  | _ => none
def trM (P : Program) (op : Op) : Option XM := match op with
  | .load t x => match trV x, tyN P t with
    | some x, some (false, _) => some (.ld1 x)
    | some x, some (true, n) => some (.ldn n x)
    | _, _ => none
  | .store t x y => match trV x, trV y, tyN P t with
    | some x, some y, some (false, 1) => some (.st1 x y)
    | some x, some y, some (true, n) => some (.stn n x y)
    | _, _, _ => none
  | .box t x => match trV x, sizeP P t with | some x, some n => some (.box t n x) | _, _ => none
  | .alloc t => match zeroC P t with | some z => some (.alloc t z) | none => none
  | .buildSlice t len ps => match P.underlying t with
    | some (.slice e) => (match zeroC P e, places P t (ps.toList.map (·.1)), trVs (ps.toList.map (·.2)) with
      | some z, some pl, some l => bif Nat.ble (len * z.length) 16777216 && Nat.blt 0 (len * z.length) then some (.bsl e len (List.flatten (List.replicate len z)) pl l) else none
      | _, _, _ => none)
    | _ => none
  | .makeMap _ none => some .mkm
  | .insert t m k v | .mapUpdate t m k v => match P.underlying t, trV m, trV k, trV v with
    | some (.map kt _), some m, some k, some v => bif Nat.beq (tyTag (P.underlying kt)) 5 || Nat.beq (tyTag (P.underlying kt)) 6 then some (.ins (tyTag (P.underlying kt)) m k v) else none
    | _, _, _, _ => none
  | .lookup t m k ok => match P.underlying t, trV m, trV k with
    | some (.map kt e), some m, some k => bif Nat.beq (tyTag (P.underlying kt)) 5 || Nat.beq (tyTag (P.underlying kt)) 6 then (match zero1 P e with | some z => some (.lkp (tyTag (P.underlying kt)) z ok m k) | none => none) else none
    | _, _, _ => none
  | .range t x => match P.underlying t, trV x with | some .string, some x => some (.rng x) | _, _ => none
  | .next x true => match trV x with | some x => some (.nxt x) | none => none
  | .makeSlice t n c => match P.underlying t, trV n, trV c with
    | some (.slice e), some n, some c => (match zeroC P e, P.info? e with | some z, some i => some (.mks e i.size i.bytes z n c) | _, _ => none)
    | _, _, _ => none
  | .call c => match c.callee with
    | .builtin .append => match c.args.toList, c.argTypes.toList with
      | [s, x], [t, t'] => bif Nat.beq t t' then (match P.underlying t, trV s, trV x with
        | some (.slice e), some s, some x => (match P.info? e, zeroC P e with | some i, some _ => bif Nat.blt 0 i.size then some (.app e i.size i.bytes s x) else none | _, _ => none)
        | _, _, _ => none) else none
      | _, _ => none
    | _ => none
  | _ => none
def trA (P : Program) (op : Op) : Option XA := match trP P op with
  | some p => some (.p p)
  | none => match trM P op with
    | some m => some (.m m)
    | none => match op with
      | .call c => (match c.callee with
        | .value (.func f) => (match ixOf f, trVs c.args.toList with | some f, some l => some (.call f l) | _, _ => none)
        | .value x => (match trV x, trVs c.args.toList with | some x, some l => some (.callv x l) | _, _ => none)
        | _ => none)
      | _ => none
/-- 'n': how many slots there are. -/
def trD (n : Nat) : Option Tmp → Option (Option Ix)
  | none => some none
  | some t => bif Nat.blt t n then (match ixOf t with | some i => some (some i) | none => none) else none
def trG (ops : List Oper) : Option (Nat × Bool) → Option (Option (Ix × Bool))
  | none => some none
  | some (j, b) => match ops[j]? with
    | some o => (match o.dst with | some t => (match ixOf t with | some i => some (some (i, b)) | none => none) | none => none)
    | none => none
def trOp (P : Program) (n : Nat) (ops : List Oper) (o : Oper) : Option XO := match trG ops o.guard, trD n o.dst, trA P o.op with
  | some g, some d, some a => some ⟨g, d, a⟩
  | _, _, _ => none
def trOps (P : Program) (n : Nat) (ops : List Oper) : List Oper → Option (List XO)
  | [] => some []
  | o :: l => match trOp P n ops o with
    | some x => (match trOps P n ops l with | some m => some (x :: m) | none => none)
    | none => none
/-- Is an operation one that only computes? -/
def isP : XO → Bool | ⟨_, some _, .p _⟩ => true | _ => false
/-- A plan for a region: 'bad' operations are let go. -/
def planOf (P : Program) (n : Nat) (ops : Array Oper) : Nat → Array Bool → Option Plan
  | 0, listed => match Region.ready .any ops listed with | [] => some .done | _ => none
  | f + 1, listed =>
    let rs := Region.ready .any ops listed
    match rs.find? (fun i => (match ops[i]? with | some o => (match trOp P n ops.toList o with | some x => isP x | none => false) | none => false) && Region.free .any ops listed i) with
    | some i => (match ops[i]? with
      | some o => (match trOp P n ops.toList o, planOf P n ops f (listed.setIfInBounds i true) with | some x, some p => some (.step x p) | _, _ => none)
      | none => none)
    | none => alts (fun i => match ops[i]? with
      | some o => (match trOp P n ops.toList o, planOf P n ops f (listed.setIfInBounds i true) with | some x, some p => some (.step x p) | _, _ => none)
      | none => none) rs
where alts (g : Nat → Option Plan) : List Nat → Option Plan
  | [] => some .done
  | [i] => g i
  | i :: l => match g i, alts g l with | some p, some q => some (.alt p q) | _, _ => none
def tr (P : Program) (n : Nat) : Code → Option X
  | .skip => some .skip
  | .ret => some .ret
  | .exit id => some (.ex id)
  | .label _ => some .skip
  | .seq a b => match tr P n a, tr P n b with | some a, some b => some (.seq a b) | _, _ => none
  | .cond c a b => match trV c, tr P n a, tr P n b with | some c, some a, some b => some (.cond c a b) | _, _, _ => none
  | .block id a => match tr P n a with | some a => some (.blk id a) | none => none
  | .loop a => match tr P n a with | some a => some (.loop a) | none => none
  | .region _ ops false => match trOps P n ops.toList ops.toList with | some l => some (.reg l) | none => none
  | .region _ ops true => bif P.follows .mixedOrders && Region.noSelect ops then (match planOf P n ops ops.size (Array.replicate ops.size false) with | some p => some (.dreg p) | none => none) else none
  | _ => none
def trR (P : Program) : List ResultVar → Option (List XR)
  | [] => some []
  | .tmp t :: l => match ixOf t, trR P l with | some i, some m => some (.t i :: m) | _, _ => none
  | .cell x t :: l => match ixOf x, tyN P t, trR P l with | some i, some (agg, n), some m => some (.c agg n i :: m) | _, _, _ => none
def ixs (k : Nat) : Nat → Option (List Ix)
  | 0 => some []
  | n + 1 => match ixOf k, ixs (k + 1) n with | some i, some l => some (i :: l) | _, _ => none
def trF (P : Program) (fn : Func) : Option Ent := match fn.body with
  | some c => bif Nat.ble (fn.params.size + fn.nfree) fn.ntmps && !(fn.name == "runtime.NumGoroutine") then (match ixs 0 (fn.params.size + fn.nfree), tr P fn.ntmps c, trR P fn.results.toList with
    | some l, some x, some r => some (.body l x r)
    | _, _, _ => none) else none
  | none => none
end Go.Ev
