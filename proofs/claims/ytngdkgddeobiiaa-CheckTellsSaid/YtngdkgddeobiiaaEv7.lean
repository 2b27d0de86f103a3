/- The evaluator: operations on memory, code, calls. No program is named here. -/
import Derived.Test.YtngdkgddeobiiaaEv6
namespace Go.Ev
open Go Go.TL

inductive XM where
  | ld1 (x : XV)
  | ldn (n : Nat) (x : XV)
  | lkp (tag : Nat) (zero : V) (ok : Bool) (m k : XV)
  | st1 (x y : XV)
  | stn (n : Nat) (x y : XV)
  | box (t n : Nat) (x : XV)
  | alloc (t : Nat) (zero : List V)
  | bsl (t n : Nat) (zero : List V) (ps : List (Nat × Nat)) (l : List XV)
  | mkm
  | ins (tag : Nat) (m k v : XV)
  | app (t sz bytes : Nat) (s x : XV)
  | rng (x : XV)
  | nxt (x : XV)
  | mks (t sz bytes : Nat) (zero : List V) (n c : XV)
structure S where
  H : Heap
  c : Id
abbrev OutM := Option (V × Heap × Id)
def cellsO : O → Option (List V) | .c _ cs => some cs | .g _ _ cs => some cs | _ => none
def withCells : O → List V → O | .c t _, cs => .c t cs | .g t sz _, cs => .g t sz cs | o, _ => o
def at5 (H : Heap) (x : V) : Option (Id × Nat × O × List V) := match x with
  | .p i off => match get5 H i with
    | some o => (match cellsO o with | some cs => some (i, off, o, cs) | none => none)
    | none => none
  | _ => none
/-- One cell, known. -/
def one : V → Bool | .un => false | .ag _ => false | .tu _ => false | _ => true
def findK (k : V) : List (V × V) → Option (Option (Nat × V))
  | [] => some none
  | (k', v) :: l => match cellEq k k' with
    | some true => some (some (0, v))
    | some false => (match findK k l with | some (some (n, v)) => some (some (n + 1, v)) | r => r)
    | none => none
def setE : List (V × V) → Nat → V → V → List (V × V)
  | [], _, _, _ => []
  | _ :: l, 0, k, v => (k, v) :: l
  | x :: l, n + 1, k, v => x :: setE l n k v
def newO (H : Heap) (c : Id) (o : O) (f : Id → V) : OutM := match c.up with | some c' => some (f c, put5 H c (.lf o), c') | none => none
def appCells (H : Heap) (sz : Nat) (x : V) : Option (Nat × List V) := match x with
  | .sl i off m _ => match get5 H i with
    | some o => (match cellsO o with
      | some cs => (match takeL (m * sz) (dropL off cs) with | some l => some (m, l) | none => none)
      | none => none)
    | none => none
  | _ => none
/-- What a slice of one's own holds: its block, how many elements, the cells. -/
def ownCells (H : Heap) (t sz : Nat) (x : V) : Option (Id × Nat × List V) := match x with
  | .sl i 0 n c => match get5 H i with
    | some (.g t' sz' cs) => (match c with
      | .u 0 => bif Nat.beq sz sz' && Nat.beq t t' then (match takeL (n * sz) cs with | some l => some (i, n, l) | none => none) else none
      | _ => none)
    | some (.c t' cs) => (match c with
      | .k c => bif Nat.beq cs.length (c * sz) && Nat.ble c 4611686018427387904 && Nat.beq t t' && Nat.ble n c then (match takeL (n * sz) cs with | some l => some (i, n, l) | none => none) else none
      | _ => none)
    | _ => none
  | _ => none
def goodApp (n bytes : Nat) : Bool := Nat.ble n 4611686018427387904 && Nat.ble (n * bytes) 140737488355328
def XM.ev (m : XM) (E : Env) (H : Heap) (c : Id) : OutM := match m with
  | .ld1 x => match x.get E with
    | some x => (match at5 H x with | some (_, off, _, cs) => (match getL cs off with | some v => some (v, H, c) | none => none) | none => none)
    | none => none
  | .ldn n x => match x.get E with
    | some x => (match at5 H x with | some (_, off, _, cs) => (match takeL n (dropL off cs) with | some l => some (.ag l, H, c) | none => none) | none => none)
    | none => none
  | .st1 x y => match x.get E, y.get E with
    | some x, some y => bif one y then (match at5 H x with | some (i, off, o, cs) => (match overL cs off [y] with | some l => some (.un, put5 H i (.lf (withCells o l)), c) | none => none) | none => none) else none
    | _, _ => none
  | .stn n x y => match x.get E, y.get E with
    | some x, some (.ag ys) => bif Nat.beq ys.length n && ys.all one then (match at5 H x with | some (i, off, o, cs) => (match overL cs off ys with | some l => some (.un, put5 H i (.lf (withCells o l)), c) | none => none) | none => none) else none
    | _, _ => none
  | .box t n x => match x.get E with
    | some x => bif known x && Nat.beq (cellsV x).length n then newO H c (.c t (cellsV x)) (fun i => .p i 0) else none
    | none => none
  | .alloc t zero => newO H c (.c t zero) (fun i => .p i 0)
  | .bsl t n zero ps l => match getVs E l with
    | some l => bif l.all known then (match fillV zero ps l with | some cs => newO H c (.c t cs) (fun i => .sl i 0 n (.k n)) | none => none) else none
    | none => none
  | .mkm => newO H c (.mp [] [] 0) (fun i => .m i)
  | .ins tag m k v => match m.get E, k.get E, v.get E with
    | some (.m i), some k, some v => bif Nat.beq (vTag k) tag then (match get5 H i with
      | some (.mp es bs clock) => (match findK k es with
        | some (some (n, _)) => some (.un, put5 H i (.lf (.mp (setE es n k v) bs clock)), c)
        | some none => some (.un, put5 H i (.lf (.mp (es ++ [(k, v)]) (bs ++ [clock]) (clock + 1))), c)
        | none => none)
      | _ => none) else none
    | _, _, _ => none
  | .lkp tag zero ok m k => match m.get E, k.get E with
    | some (.m i), some k => (match get5 H i with
      | some (.mp es _ _) => (bif Nat.beq (vTag k) tag then (match findK k es with
        | some (some (_, v)) => some (bif ok then .tu [v, .b true] else v, H, c)
        | some none => some (bif ok then .tu [zero, .b false] else zero, H, c)
        | none => none) else none)
      | _ => none)
    | _, _ => none
  | .app t sz bytes s x => match s.get E, x.get E with
    | some s, some x => (match appCells H sz x with
      | some (m, news) => bif news.all one then (match s with
        | .ns => bif Nat.beq m 0 then some (.ns, H, c) else (bif goodApp m bytes then newO H c (.g t sz news) (fun i => .sl i 0 m (.u 0)) else none)
        | s => (match ownCells H t sz s with
          | some (j, n, xs) => bif goodApp (n + m) bytes then newO (put5 H j .mt) c (.g t sz (xs ++ news)) (fun i => .sl i 0 (n + m) (.u 0)) else none
          | none => none)) else none
      | none => none)
    | _, _ => none
  | .rng x => match x.get E with
    | some (.s n l) => newO H c (.it n l l 0) (fun i => .p i 0)
    | _ => none
  | .nxt x => match x.get E with
    | some (.p i 0) => (match get5 H i with
      | some (.it n l rest pos) => (match rest with
        | [] => some (.tu [.b false], H, c)
        | b :: rest => bif Nat.blt b 128 then some (.tu [.b true, .i .i64 (.ofNat pos), .i .i32 (.ofNat b)], put5 H i (.lf (.it n l rest (pos + 1))), c) else none)
      | _ => none)
    | _ => none
  | .mks t sz bytes zero n k => match n.get E, k.get E with
    | some (.i _ (.ofNat n)), some (.i _ (.ofNat k)) => bif Nat.ble n k && goodApp k bytes && Nat.blt 0 sz then newO H c (.c t (List.flatten (List.replicate k zero))) (fun i => .sl i 0 n (.k k)) else none
    | _, _ => none
section
variable {R : Type}
noncomputable def forceE (l : List (V × V)) (k : List (V × V) → R) : R := List.rec (motive := fun _ => (List (V × V) → R) → R) (fun k => k []) (fun x _ ih k => ih fun l => k (x :: l)) l k
theorem forceE_eq (l : List (V × V)) (k : List (V × V) → R) : forceE l k = k l := by
  unfold forceE
  induction l generalizing k with
  | nil => rfl
  | cons x l ih => exact ih _
noncomputable def forceO (o : O) (k : O → R) : R := match o with
  | .c t cs => forceS cs fun cs => k (.c t cs)
  | .g t sz cs => forceS cs fun cs => k (.g t sz cs)
  | .mp es bs clock => forceE es fun es => forceL bs fun bs => forceN clock fun clock => k (.mp es bs clock)
  | .it n l rest pos => forceN pos fun pos => k (.it n l rest pos)
theorem forceO_eq (o : O) (k : O → R) : forceO o k = k o := by
  cases o <;> simp only [forceO, forceS_eq, forceE_eq, forceL_eq, forceN_eq]
noncomputable def newK (H : Heap) (c : Id) (o : O) (f : Id → V) (k : V → Heap → Id → R) (bad : R) : R :=
  forceO o fun o => put5K H c (.lf o) fun H => c.upK (fun c' => forceV (f c) fun v => k v H c') bad
noncomputable def putO (H : Heap) (c : Id) (i : Id) (o : O) (k : V → Heap → Id → R) : R := forceO o fun o => put5K H i (.lf o) fun H => k .un H c
def outK (o : OutM) (k : V → Heap → Id → R) (bad : R) : R := match o with | some (v, H, c) => k v H c | none => bad
theorem newK_eq (H : Heap) (c : Id) (o : O) (f : Id → V) (k : V → Heap → Id → R) (bad : R) : newK H c o f k bad = outK (newO H c o f) k bad := by
  simp only [newK, forceO_eq, put5K_eq, Id.upK_eq, forceV_eq, newO]
  cases c.up <;> rfl
theorem putO_eq (H : Heap) (c : Id) (i : Id) (o : O) (k : V → Heap → Id → R) : putO H c i o k = k .un (put5 H i (.lf o)) c := by
  simp only [putO, forceO_eq, put5K_eq]
noncomputable def atK5 (H : Heap) (x : V) (k : Id → Nat → O → List V → R) (bad : R) : R := match x with
  | .p i off => get5K H i (fun o => match o with | .c t cs => k i off (.c t cs) cs | .g t sz cs => k i off (.g t sz cs) cs | _ => bad) bad
  | _ => bad
theorem atK5_eq (H : Heap) (x : V) (k : Id → Nat → O → List V → R) (bad : R) : atK5 H x k bad = match at5 H x with | some (i, off, o, cs) => k i off o cs | none => bad := by
  cases x with
  | p i off =>
    simp only [atK5, at5, get5K_eq]
    cases get5 H i with
    | none => rfl
    | some o => cases o <;> rfl
  | _ => rfl
noncomputable def XM.K (m : XM) (E : Env) (H : Heap) (c : Id) (k : V → Heap → Id → R) (bad : R) : R :=
  XM.casesOn m
    (fun x => x.K E (fun x => atK5 H x (fun _ off _ cs => Option.rec bad (fun v => k v H c) (getL cs off)) bad) bad)
    (fun n x => x.K E (fun x => atK5 H x (fun _ off _ cs => Option.rec bad (fun l => forceS l fun l => k (.ag l) H c) (takeL n (dropL off cs))) bad) bad)
    (fun tag zero ok m key => m.K E (fun m => key.K E (fun key => match m with
      | .m i => get5K H i (fun o => match o with
        | .mp es _ _ => Bool.rec bad (match findK key es with
          | some (some (_, v)) => k (bif ok then .tu [v, .b true] else v) H c
          | some none => k (bif ok then .tu [zero, .b false] else zero) H c
          | none => bad) (Nat.beq (vTag key) tag)
        | _ => bad) bad
      | _ => bad) bad) bad)
    (fun x y => x.K E (fun x => y.K E (fun y => Bool.rec bad (atK5 H x (fun i off o cs => Option.rec bad (fun l => putO H c i (withCells o l) k) (overL cs off [y])) bad) (one y)) bad) bad)
    (fun n x y => x.K E (fun x => y.K E (fun y => match y with
      | .ag ys => Bool.rec bad (atK5 H x (fun i off o cs => Option.rec bad (fun l => putO H c i (withCells o l) k) (overL cs off ys)) bad) (Nat.beq ys.length n && ys.all one)
      | _ => bad) bad) bad)
    (fun t n x => x.K E (fun x => Bool.rec bad (newK H c (.c t (cellsV x)) (fun i => .p i 0) k bad) (known x && Nat.beq (cellsV x).length n)) bad)
    (fun t zero => newK H c (.c t zero) (fun i => .p i 0) k bad)
    (fun t n zero ps l => XVs.K l E (fun l => Bool.rec bad (Option.rec bad (fun cs => newK H c (.c t cs) (fun i => .sl i 0 n (.k n)) k bad) (fillV zero ps l)) (l.all known)) bad)
    (newK H c (.mp [] [] 0) (fun i => .m i) k bad)
    (fun tag m key v => m.K E (fun m => key.K E (fun key => v.K E (fun v => match m with
      | .m i => Bool.rec bad (get5K H i (fun o => match o with
        | .mp es bs clock => (match findK key es with
          | some (some (n, _)) => putO H c i (.mp (setE es n key v) bs clock) k
          | some none => putO H c i (.mp (es ++ [(key, v)]) (bs ++ [clock]) (clock + 1)) k
          | none => bad)
        | _ => bad) bad) (Nat.beq (vTag key) tag)
      | _ => bad) bad) bad) bad)
    (fun t sz bytes s x => s.K E (fun s => x.K E (fun x => match appCells H sz x with
      | some (m, news) => Bool.rec bad (match s with
        | .ns => Bool.rec (Bool.rec bad (newK H c (.g t sz news) (fun i => .sl i 0 m (.u 0)) k bad) (goodApp m bytes)) (k .ns H c) (Nat.beq m 0)
        | s => (match ownCells H t sz s with
          | some (j, n, xs) => Bool.rec bad (put5K H j .mt fun H => newK H c (.g t sz (xs ++ news)) (fun i => .sl i 0 (n + m) (.u 0)) k bad) (goodApp (n + m) bytes)
          | none => bad)) (news.all one)
      | none => bad) bad) bad)
    (fun x => x.K E (fun x => match x with | .s n l => newK H c (.it n l l 0) (fun i => .p i 0) k bad | _ => bad) bad)
    (fun x => x.K E (fun x => match x with
      | .p i 0 => get5K H i (fun o => match o with
        | .it n l rest pos => (match rest with
          | [] => k (.tu [.b false]) H c
          | b :: rest => Bool.rec bad (forceO (.it n l rest (pos + 1)) fun o => put5K H i (.lf o) fun H => k (.tu [.b true, .i .i64 (.ofNat pos), .i .i32 (.ofNat b)]) H c) (Nat.blt b 128))
        | _ => bad) bad
      | _ => bad) bad)
    (fun t sz bytes zero n cp => n.K E (fun n => cp.K E (fun cp => match n, cp with
      | .i _ (.ofNat n), .i _ (.ofNat q) => Bool.rec bad (newK H c (.c t (List.flatten (List.replicate q zero))) (fun i => .sl i 0 n (.k q)) k bad) (Nat.ble n q && goodApp q bytes && Nat.blt 0 sz)
      | _, _ => bad) bad) bad)
end
end Go.Ev
