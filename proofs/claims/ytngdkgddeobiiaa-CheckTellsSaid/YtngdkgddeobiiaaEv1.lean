/- An evaluator for calls without arguments that matter: its data, and what they stand for. No program is named here. -/
import Derived.Test.YtngdkgddeobiiaaTlog
namespace Go.Ev
open Go Go.TL

/-! ## Digits, tries -/
inductive D8 where | a | b | c | d | e | f | g | h
deriving DecidableEq
def D8.nat : D8 → Nat | .a => 0 | .b => 1 | .c => 2 | .d => 3 | .e => 4 | .f => 5 | .g => 6 | .h => 7
theorem D8.lt (x : D8) : x.nat < 8 := by cases x <;> decide
theorem D8.inj {x y : D8} (h : x.nat = y.nat) : x = y := by cases x <;> cases y <;> first | rfl | (simp [D8.nat] at h)
inductive Tr (α : Type) where
  | mt
  | lf (v : α)
  | nd (a b c d e f g h : Tr α)
section
variable {α : Type} {R : Type}
noncomputable def Tr.c (x : Tr α) (kl : α → R) (kn : Tr α → Tr α → Tr α → Tr α → Tr α → Tr α → Tr α → Tr α → R) (ke : R) : R := Tr.rec ke kl (fun a b c d e f g h _ _ _ _ _ _ _ _ => kn a b c d e f g h) x
/-- The child at a digit. -/
def Tr.at (x : Tr α) (i : D8) : Tr α := match x with
  | .nd a b c d e f g h => match i with | .a => a | .b => b | .c => c | .d => d | .e => e | .f => f | .g => g | .h => h
  | _ => .mt
def Tr.put (x : Tr α) (i : D8) (y : Tr α) : Tr α := match x with
  | .nd a b c d e f g h => match i with
    | .a => .nd y b c d e f g h | .b => .nd a y c d e f g h | .c => .nd a b y d e f g h | .d => .nd a b c y e f g h
    | .e => .nd a b c d y f g h | .f => .nd a b c d e y g h | .g => .nd a b c d e f y h | .h => .nd a b c d e f g y
  | _ => match i with
    | .a => .nd y .mt .mt .mt .mt .mt .mt .mt | .b => .nd .mt y .mt .mt .mt .mt .mt .mt | .c => .nd .mt .mt y .mt .mt .mt .mt .mt | .d => .nd .mt .mt .mt y .mt .mt .mt .mt
    | .e => .nd .mt .mt .mt .mt y .mt .mt .mt | .f => .nd .mt .mt .mt .mt .mt y .mt .mt | .g => .nd .mt .mt .mt .mt .mt .mt y .mt | .h => .nd .mt .mt .mt .mt .mt .mt .mt y
theorem Tr.at_put (x : Tr α) (i j : D8) (y : Tr α) : (x.put i y).at j = if i = j then y else x.at j := by
  cases x <;> cases i <;> cases j <;> rfl
/-- .. handed on. -/
noncomputable def Tr.atK (x : Tr α) (i : D8) (k : Tr α → R) : R :=
  Tr.rec (k .mt) (fun _ => k .mt) (fun a b c d e f g h _ _ _ _ _ _ _ _ => D8.rec (k a) (k b) (k c) (k d) (k e) (k f) (k g) (k h) i) x
noncomputable def Tr.putK (x : Tr α) (i : D8) (y : Tr α) (k : Tr α → R) : R :=
  Tr.rec (D8.rec (k (.nd y .mt .mt .mt .mt .mt .mt .mt)) (k (.nd .mt y .mt .mt .mt .mt .mt .mt)) (k (.nd .mt .mt y .mt .mt .mt .mt .mt)) (k (.nd .mt .mt .mt y .mt .mt .mt .mt)) (k (.nd .mt .mt .mt .mt y .mt .mt .mt)) (k (.nd .mt .mt .mt .mt .mt y .mt .mt)) (k (.nd .mt .mt .mt .mt .mt .mt y .mt)) (k (.nd .mt .mt .mt .mt .mt .mt .mt y)) i)
    (fun _ => D8.rec (k (.nd y .mt .mt .mt .mt .mt .mt .mt)) (k (.nd .mt y .mt .mt .mt .mt .mt .mt)) (k (.nd .mt .mt y .mt .mt .mt .mt .mt)) (k (.nd .mt .mt .mt y .mt .mt .mt .mt)) (k (.nd .mt .mt .mt .mt y .mt .mt .mt)) (k (.nd .mt .mt .mt .mt .mt y .mt .mt)) (k (.nd .mt .mt .mt .mt .mt .mt y .mt)) (k (.nd .mt .mt .mt .mt .mt .mt .mt y)) i)
    (fun a b c d e f g h _ _ _ _ _ _ _ _ => D8.rec (k (.nd y b c d e f g h)) (k (.nd a y c d e f g h)) (k (.nd a b y d e f g h)) (k (.nd a b c y e f g h)) (k (.nd a b c d y f g h)) (k (.nd a b c d e y g h)) (k (.nd a b c d e f y h)) (k (.nd a b c d e f g y)) i) x
theorem Tr.atK_eq (x : Tr α) (i : D8) (k : Tr α → R) : x.atK i k = k (x.at i) := by cases x <;> cases i <;> rfl
theorem Tr.putK_eq (x : Tr α) (i : D8) (y : Tr α) (k : Tr α → R) : x.putK i y k = k (x.put i y) := by cases x <;> cases i <;> rfl
def Tr.val : Tr α → Option α | .lf v => some v | _ => none
end
/-- A slot: three digits. A block: five. -/
structure Ix where (x y z : D8)
deriving DecidableEq
structure Id where (v w x y z : D8)
deriving DecidableEq
def Ix.nat (i : Ix) : Nat := i.x.nat * 64 + i.y.nat * 8 + i.z.nat
def Id.nat (i : Id) : Nat := i.v.nat * 4096 + i.w.nat * 512 + i.x.nat * 64 + i.y.nat * 8 + i.z.nat
theorem Ix.inj {i j : Ix} (h : i.nat = j.nat) : i = j := by
  obtain ⟨ua, ub, uc⟩ := i
  obtain ⟨ua', ub', uc'⟩ := j
  have := ua.lt; have := ub.lt; have := uc.lt; have := ua'.lt; have := ub'.lt; have := uc'.lt
  simp only [Ix.nat] at h
  rw [D8.inj (x := ua) (y := ua') (by omega), D8.inj (x := ub) (y := ub') (by omega), D8.inj (x := uc) (y := uc') (by omega)]
theorem Id.inj {i j : Id} (h : i.nat = j.nat) : i = j := by
  obtain ⟨p, q, ua, ub, uc⟩ := i
  obtain ⟨p', q', ua', ub', uc'⟩ := j
  have := p.lt; have := q.lt; have := p'.lt; have := q'.lt
  have := ua.lt; have := ub.lt; have := uc.lt; have := ua'.lt; have := ub'.lt; have := uc'.lt
  simp only [Id.nat] at h
  rw [D8.inj (x := p) (y := p') (by omega), D8.inj (x := q) (y := q') (by omega), D8.inj (x := ua) (y := ua') (by omega), D8.inj (x := ub) (y := ub') (by omega), D8.inj (x := uc) (y := uc') (by omega)]
section
variable {α : Type} {R : Type}
def get3 (t : Tr α) (i : Ix) : Option α := (((t.at i.x).at i.y).at i.z).val
def set3 (t : Tr α) (i : Ix) (v : α) : Tr α := t.put i.x ((t.at i.x).put i.y (((t.at i.x).at i.y).put i.z (.lf v)))
theorem get3_set3 (t : Tr α) (i j : Ix) (v : α) : get3 (set3 t i v) j = if i = j then some v else get3 t j := by
  obtain ⟨ua, ub, uc⟩ := i
  obtain ⟨ua', ub', uc'⟩ := j
  simp only [get3, set3, Tr.at_put]
  by_cases h1 : ua = ua'
  · subst h1
    by_cases h2 : ub = ub'
    · subst h2
      by_cases h3 : uc = uc'
      · subst h3; simp [Tr.at_put, Tr.val]
      · simp [Tr.at_put, h3]
    · simp [Tr.at_put, h2]
  · simp [h1]
noncomputable def get3K (t : Tr α) (i : Ix) (k : α → R) (bad : R) : R :=
  Ix.rec (fun x y z => t.atK x fun t => t.atK y fun t => t.atK z fun t => t.c k (fun _ _ _ _ _ _ _ _ => bad) bad) i
noncomputable def set3K (t : Tr α) (i : Ix) (v : α) (k : Tr α → R) : R :=
  Ix.rec (fun x y z => t.atK x fun t1 => t1.atK y fun t2 => t2.putK z (.lf v) fun t2 => t1.putK y t2 fun t1 => t.putK x t1 k) i
theorem get3K_eq (t : Tr α) (i : Ix) (k : α → R) (bad : R) : get3K t i k bad = match get3 t i with | some v => k v | none => bad := by
  obtain ⟨ua, ub, uc⟩ := i
  simp only [get3K, Tr.atK_eq, get3]
  cases ((t.at ua).at ub).at uc <;> rfl
theorem set3K_eq (t : Tr α) (i : Ix) (v : α) (k : Tr α → R) : set3K t i v k = k (set3 t i v) := by
  obtain ⟨ua, ub, uc⟩ := i
  simp only [set3K, Tr.atK_eq, Tr.putK_eq, set3]
def get5 (t : Tr α) (i : Id) : Option α := (((((t.at i.v).at i.w).at i.x).at i.y).at i.z).val
def put5 (t : Tr α) (i : Id) (u : Tr α) : Tr α := t.put i.v ((t.at i.v).put i.w (((t.at i.v).at i.w).put i.x ((((t.at i.v).at i.w).at i.x).put i.y (((((t.at i.v).at i.w).at i.x).at i.y).put i.z u))))
theorem get5_put5 (t : Tr α) (i j : Id) (u : Tr α) : get5 (put5 t i u) j = if i = j then u.val else get5 t j := by
  obtain ⟨ua, ub, uc, ud, ue⟩ := i
  obtain ⟨ua', ub', uc', ud', ue'⟩ := j
  simp only [get5, put5, Tr.at_put]
  by_cases h1 : ua = ua'
  · subst h1
    by_cases h2 : ub = ub'
    · subst h2
      by_cases h3 : uc = uc'
      · subst h3
        by_cases h4 : ud = ud'
        · subst h4
          by_cases h5 : ue = ue'
          · subst h5; simp [Tr.at_put]
          · simp [Tr.at_put, h5]
        · simp [Tr.at_put, h4]
      · simp [Tr.at_put, h3]
    · simp [Tr.at_put, h2]
  · simp [h1]
noncomputable def get5K (t : Tr α) (i : Id) (k : α → R) (bad : R) : R :=
  Id.rec (fun v w x y z => t.atK v fun t => t.atK w fun t => t.atK x fun t => t.atK y fun t => t.atK z fun t => t.c k (fun _ _ _ _ _ _ _ _ => bad) bad) i
noncomputable def put5K (t : Tr α) (i : Id) (u : Tr α) (k : Tr α → R) : R :=
  Id.rec (fun v w x y z => t.atK v fun t1 => t1.atK w fun t2 => t2.atK x fun t3 => t3.atK y fun t4 => t4.putK z u fun t4 => t3.putK y t4 fun t3 => t2.putK x t3 fun t2 => t1.putK w t2 fun t1 => t.putK v t1 k) i
theorem get5K_eq (t : Tr α) (i : Id) (k : α → R) (bad : R) : get5K t i k bad = match get5 t i with | some v => k v | none => bad := by
  obtain ⟨ua, ub, uc, ud, ue⟩ := i
  simp only [get5K, Tr.atK_eq, get5]
  cases ((((t.at ua).at ub).at uc).at ud).at ue <;> rfl
theorem put5K_eq (t : Tr α) (i : Id) (u : Tr α) (k : Tr α → R) : put5K t i u k = k (put5 t i u) := by
  obtain ⟨ua, ub, uc, ud, ue⟩ := i
  simp only [put5K, Tr.atK_eq, Tr.putK_eq, put5]
end
/-- The next digit; whether it runs over. -/
def D8.up : D8 → Option D8 | .a => some .b | .b => some .c | .c => some .d | .d => some .e | .e => some .f | .f => some .g | .g => some .h | .h => none
def Id.up : Id → Option Id
  | ⟨v, w, x, y, z⟩ => match z.up with
    | some z => some ⟨v, w, x, y, z⟩
    | none => match y.up with
      | some y => some ⟨v, w, x, y, .a⟩
      | none => match x.up with
        | some x => some ⟨v, w, x, .a, .a⟩
        | none => match w.up with
          | some w => some ⟨v, w, .a, .a, .a⟩
          | none => match v.up with
            | some v => some ⟨v, .a, .a, .a, .a⟩
            | none => none
theorem D8.nat_a : D8.nat .a = 0 := rfl
theorem D8.up_nat {x : D8} : (∀ {y}, x.up = some y → y.nat = x.nat + 1) ∧ (x.up = none → x.nat = 7) := by
  cases x <;> simp [D8.up, D8.nat]
theorem Id.up_nat {i j : Id} (h : i.up = some j) : j.nat = i.nat + 1 := by
  obtain ⟨v, w, x, y, z⟩ := i
  simp only [Id.up] at h
  split at h
  · rename_i z' hz; cases h; have := D8.up_nat.1 hz; simp only [Id.nat]; omega
  · rename_i hz
    have := D8.up_nat.2 hz
    split at h
    · rename_i y' hy; cases h; have := D8.up_nat.1 hy; simp only [Id.nat, D8.nat_a]; omega
    · rename_i hy
      have := D8.up_nat.2 hy
      split at h
      · rename_i x' hx; cases h; have := D8.up_nat.1 hx; simp only [Id.nat, D8.nat_a]; omega
      · rename_i hx
        have := D8.up_nat.2 hx
        split at h
        · rename_i w' hw; cases h; have := D8.up_nat.1 hw; simp only [Id.nat, D8.nat_a]; omega
        · rename_i hw
          have := D8.up_nat.2 hw
          split at h
          · rename_i v' hv; cases h; have := D8.up_nat.1 hv; simp only [Id.nat, D8.nat_a]; omega
          · cases h
noncomputable def D8.upK {R : Type} (x : D8) (k : D8 → R) (o : R) : R := D8.rec (k .b) (k .c) (k .d) (k .e) (k .f) (k .g) (k .h) o x
noncomputable def Id.upK {R : Type} (i : Id) (k : Id → R) (bad : R) : R :=
  Id.rec (fun v w x y z => z.upK (fun z => k ⟨v, w, x, y, z⟩) (y.upK (fun y => k ⟨v, w, x, y, .a⟩) (x.upK (fun x => k ⟨v, w, x, .a, .a⟩) (w.upK (fun w => k ⟨v, w, .a, .a, .a⟩) (v.upK (fun v => k ⟨v, .a, .a, .a, .a⟩) bad))))) i
theorem Id.upK_eq {R : Type} (i : Id) (k : Id → R) (bad : R) : i.upK k bad = match i.up with | some j => k j | none => bad := by
  obtain ⟨v, w, x, y, z⟩ := i
  cases z <;> first | rfl | (cases y <;> first | rfl | (cases x <;> first | rfl | (cases w <;> first | rfl | (cases v <;> rfl))))

/-! ## Values -/
inductive Cap where
  /-- so many -/
  | k (n : Nat)
  /-- as many as the block, less so many -/
  | u (n : Nat)
deriving DecidableEq
inductive V where
  | un
  | b (x : Bool)
  | i (k : IntKind) (n : Int)
  | s (n : Nat) (l : List Nat)
  | np
  | p (i : Id) (off : Nat)
  | ns
  | sl (i : Id) (off len : Nat) (c : Cap)
  | nm
  | m (i : Id)
  | nf
  | fn (f : Ix) (first cap : List V)
  | ag (l : List V)
  | tu (l : List V)
  | ni
  | ifc (t : Nat) (v : V)
/-- Which block a name stands for, and how many elements it has. -/
abbrev Ren := Id → Option (Nat × Nat)
def bts (l : List Nat) : ByteArray := ⟨(l.map UInt8.ofNat).toArray⟩
mutual
def VR (r : Ren) : V → Value → Prop
  | .un, _ => True
  | .b x, v => v = .bool x
  | .i k n, v => v = .int k n
  | .s n l, v => v = .string (bts l) ∧ l.length = n ∧ ∀ x ∈ l, x < 256
  | .np, v => v = .pointer none
  | .p i off, v => ∃ b c, r i = some (b, c) ∧ v = .pointer (some ⟨b, off, none⟩)
  | .ns, v => v = .slice none 0 0
  | .sl i off len (.k n), v => ∃ b c, r i = some (b, c) ∧ v = .slice (some ⟨b, off, none⟩) len n
  | .sl i off len (.u n), v => ∃ b c, r i = some (b, c) ∧ v = .slice (some ⟨b, off, none⟩) len (c - n) ∧ n + len ≤ c
  | .nm, v => v = .map none
  | .m i, v => ∃ b c, r i = some (b, c) ∧ v = .map (some b)
  | .nf, v => v = .nilFunc
  | .fn f x y, v => ∃ x' y', v = .func (.func f.nat) x'.toArray y'.toArray ∧ VRs r x x' ∧ VRs r y y'
  | .ag l, v => ∃ l', v = .agg l'.toArray ∧ VRs r l l'
  | .tu l, v => ∃ l', v = .tuple l'.toArray ∧ VRs r l l'
  | .ni, v => v = .nilIface
  | .ifc t x, v => ∃ y, v = .iface t y ∧ VR r x y
def VRs (r : Ren) : List V → List Value → Prop
  | [], l => l = []
  | x :: xs, l => ∃ y ys, l = y :: ys ∧ VR r x y ∧ VRs r xs ys
end
def Ren.le (r s : Ren) : Prop := ∀ i x, r i = some x → s i = some x
theorem Ren.le_refl (r : Ren) : r.le r := fun _ _ h => h
theorem Ren.le.trans {r s t : Ren} (h : r.le s) (k : s.le t) : r.le t := fun i x e => k i x (h i x e)
mutual
theorem VR.mono {r s : Ren} (hs : r.le s) : ∀ {x : V} {v : Value}, VR r x v → VR s x v
  | .un, _, _ => trivial
  | .b _, _, h => h
  | .i _ _, _, h => h
  | .s _ _, _, h => h
  | .np, _, h => h
  | .p _ _, _, ⟨b, c, h, e⟩ => ⟨b, c, hs _ _ h, e⟩
  | .ns, _, h => h
  | .sl _ _ _ (.k _), _, ⟨b, c, h, e⟩ => ⟨b, c, hs _ _ h, e⟩
  | .sl _ _ _ (.u _), _, ⟨b, c, h, e⟩ => ⟨b, c, hs _ _ h, e⟩
  | .nm, _, h => h
  | .m _, _, ⟨b, c, h, e⟩ => ⟨b, c, hs _ _ h, e⟩
  | .nf, _, h => h
  | .fn _ _ _, _, ⟨x', y', e, h1, h2⟩ => ⟨x', y', e, VRs.mono hs h1, VRs.mono hs h2⟩
  | .ag _, _, ⟨l', e, h⟩ => ⟨l', e, VRs.mono hs h⟩
  | .tu _, _, ⟨l', e, h⟩ => ⟨l', e, VRs.mono hs h⟩
  | .ni, _, h => h
  | .ifc _ _, _, ⟨y, e, h⟩ => ⟨y, e, VR.mono hs h⟩
theorem VRs.mono {r s : Ren} (hs : r.le s) : ∀ {x : List V} {v : List Value}, VRs r x v → VRs s x v
  | [], _, h => h
  | _ :: _, _, ⟨y, ys, e, h1, h2⟩ => ⟨y, ys, e, VR.mono hs h1, VRs.mono hs h2⟩
end
theorem VRs.len {r : Ren} : ∀ {x : List V} {v : List Value}, VRs r x v → x.length = v.length
  | [], _, h => by simp [VRs] at h; subst h; rfl
  | _ :: xs, _, ⟨y, ys, e, _, h2⟩ => by subst e; simp [h2.len]
theorem VRs.get {r : Ren} : ∀ {x : List V} {v : List Value}, VRs r x v → ∀ {i : Nat} {a : V}, x[i]? = some a → ∃ b, v[i]? = some b ∧ VR r a b
  | [], _, _, i, a, h => by simp at h
  | x :: xs, _, ⟨y, ys, e, h1, h2⟩, i, a, h => by
    subst e
    cases i with
    | zero => simp at h; subst h; exact ⟨y, rfl, h1⟩
    | succ i => simp at h; obtain ⟨b, hb, hr⟩ := h2.get h; exact ⟨b, by simpa using hb, hr⟩
theorem VRs.app {r : Ren} : ∀ {x : List V} {v : List Value} {x' : List V} {v' : List Value}, VRs r x v → VRs r x' v' → VRs r (x ++ x') (v ++ v')
  | [], _, _, _, h, h' => by simp only [VRs] at h; subst h; exact h'
  | _ :: _, _, _, _, ⟨y, ys, e, h1, h2⟩, h' => by subst e; exact ⟨y, ys ++ _, rfl, h1, h2.app h'⟩
theorem VRs.drop {r : Ren} : ∀ (n : Nat) {x : List V} {v : List Value}, VRs r x v → VRs r (x.drop n) (v.drop n)
  | 0, _, _, h => h
  | n + 1, [], _, h => by simp only [VRs] at h; subst h; simp [VRs]
  | n + 1, _ :: _, _, ⟨y, ys, e, h1, h2⟩ => by subst e; simpa using h2.drop n
theorem VRs.take {r : Ren} : ∀ (n : Nat) {x : List V} {v : List Value}, VRs r x v → VRs r (x.take n) (v.take n)
  | 0, _, _, _ => by simp [VRs]
  | n + 1, [], _, h => by simp only [VRs] at h; subst h; simp [VRs]
  | n + 1, _ :: _, _, ⟨y, ys, e, h1, h2⟩ => by subst e; exact ⟨y, ys.take n, by simp, h1, h2.take n⟩
theorem VRs.set {r : Ren} {a : V} {b : Value} (hab : VR r a b) : ∀ (n : Nat) {x : List V} {v : List Value}, VRs r x v → VRs r (x.set n a) (v.set n b)
  | _, [], _, h => by simp only [VRs] at h; subst h; simp [VRs]
  | 0, _ :: _, _, ⟨y, ys, e, h1, h2⟩ => by subst e; exact ⟨b, ys, rfl, hab, h2⟩
  | n + 1, _ :: _, _, ⟨y, ys, e, h1, h2⟩ => by subst e; exact ⟨y, ys.set n b, rfl, h1, h2.set hab n⟩
theorem VRs.of {r : Ren} : ∀ {x : List V} {v : List Value}, x.length = v.length → (∀ (i : Nat) (a : V) (b : Value), x[i]? = some a → v[i]? = some b → VR r a b) → VRs r x v
  | [], [], _, _ => rfl
  | a :: xs, b :: ys, hl, h => ⟨b, ys, rfl, h 0 a b rfl rfl, VRs.of (by simpa using hl) fun (i : Nat) (a : V) (b : Value) h1 h2 => h (i + 1) a b (by simpa using h1) (by simpa using h2)⟩
  | [], _ :: _, hl, _ => by simp at hl
  | _ :: _, [], hl, _ => by simp at hl

/-! ## Blocks -/
inductive O where
  /-- cells, all told -/
  | c (t : Nat) (cs : List V)
  /-- cells, of which the first ones are told; how many there are: as the name tells, times the size -/
  | g (t : Nat) (sz : Nat) (cs : List V)
  | mp (es : List (V × V)) (bs : List Nat) (clock : Nat)
  | it (n : Nat) (l rest : List Nat) (pos : Nat)
def ERs (r : Ren) : List (V × V) → List Nat → List MapEntry → Prop
  | [], bs, l => bs = [] ∧ l = []
  | (k, v) :: es, bs, l => ∃ b bs' m l', bs = b :: bs' ∧ l = m :: l' ∧ m.born = b ∧ VR r k m.key ∧ VR r v m.val ∧ ERs r es bs' l'
theorem ERs.mono {r s : Ren} (hs : r.le s) : ∀ {es : List (V × V)} {bs : List Nat} {l : List MapEntry}, ERs r es bs l → ERs s es bs l
  | [], _, _, h => h
  | (_, _) :: _, _, _, ⟨b, bs', m, l', e1, e2, e3, h1, h2, h3⟩ => ⟨b, bs', m, l', e1, e2, e3, h1.mono hs, h2.mono hs, h3.mono hs⟩
def OR (r : Ren) (cap : Nat) : O → Obj → Prop
  | .c t cs, o => ∃ vs, o = .cells vs.toArray t (0, 0) ∧ VRs r cs vs
  | .g t sz cs, o => ∃ vs ex, o = .cells (vs ++ ex).toArray t (0, 0) ∧ VRs r cs vs ∧ (vs ++ ex).length = cap * sz ∧ cap ≤ 9223372036854775807
  | .mp es bs clock, o => ∃ l, o = .map l.toArray clock ∧ ERs r es bs l
  | .it n l rest pos, o => o = .stringIter (bts l) pos ∧ l.length = n ∧ (∀ x ∈ l, x < 256) ∧ rest = l.drop pos ∧ pos ≤ n
theorem OR.mono {r s : Ren} (hs : r.le s) {cap : Nat} : ∀ {o : O} {x : Obj}, OR r cap o x → OR s cap o x
  | .c _ _, _, ⟨vs, e, h⟩ => ⟨vs, e, h.mono hs⟩
  | .g _ _ _, _, ⟨vs, ex, e, h, h2⟩ => ⟨vs, ex, e, h.mono hs, h2⟩
  | .mp _ _ _, _, ⟨l, e, h⟩ => ⟨l, e, h.mono hs⟩
  | .it _ _ _ _, _, h => h
abbrev Heap := Tr O
abbrev Env := Tr V
/-- Memory: what stands behind the names. 'B': where it begins; 'w0': the world that was. -/
structure RH (w0 : World) (r : Ren) (H : Heap) (c : Id) (w : World) : Prop where
  os : w.os = w0.os
  tape : w.tape = w0.tape
  output : w.output = w0.output
  old : ∀ k, k < w0.heap.size → w.heap[k]? = w0.heap[k]?
  size : w0.heap.size ≤ w.heap.size
  obj : ∀ i o, get5 H i = some o → ∃ b n x, r i = some (b, n) ∧ w0.heap.size ≤ b ∧ w.heap[b]? = some x ∧ OR r n o x
  inj : ∀ i j o o' b n n', get5 H i = some o → get5 H j = some o' → r i = some (b, n) → r j = some (b, n') → i = j
  fresh : ∀ i, c.nat ≤ i.nat → r i = none
  freshH : ∀ i, c.nat ≤ i.nat → get5 H i = none
def RE (r : Ren) (E : Env) (a : Act) : Prop := ∀ i v, get3 E i = some v → VR r v (a.tmps.getD i.nat undef)
theorem RE.mono {r s : Ren} (hs : r.le s) {E : Env} {a : Act} (h : RE r E a) : RE s E a := fun i v e => (h i v e).mono hs
theorem RE.put {r : Ren} {E : Env} {a : Act} {i : Ix} {v : V} {x : Value} (h : RE r E a) (hx : VR r v x) (hi : i.nat < a.tmps.size) : RE r (set3 E i v) (a.put (some i.nat) x) := fun j u e => by
  rw [get3_set3] at e
  by_cases hij : i = j
  · subst hij
    simp at e
    subst e
    simpa [Act.put, hi] using hx
  · rw [if_neg hij] at e
    have hne : i.nat ≠ j.nat := fun e' => hij (Ix.inj e')
    have := h j u e
    simp only [Act.put, Array.getD_eq_getD_getElem?] at this ⊢
    rw [Array.getElem?_setIfInBounds_ne hne]
    exact this
end Go.Ev
