/- The evaluator: operations on memory, handed on. No program is named here. -/
import Derived.Test.YtngdkgddeobiiaaEv13
namespace Go.Ev
open Go Go.TL

section
variable {R : Type}
theorem XM.K_eq (m : XM) (E : Env) (H : Heap) (c : Id) (k : V → Heap → Id → R) (bad : R) : m.K E H c k bad = outK (m.ev E H c) k bad := by
  cases m with
  | ld1 x =>
    simp only [XM.K, XM.ev, XV.K_eq, atK5_eq]
    cases x.get E with
    | none => rfl
    | some x =>
      simp only
      cases at5 H x with
      | none => rfl
      | some y => obtain ⟨i, off, o, cs⟩ := y; simp only; cases getL cs off <;> rfl
  | ldn n x =>
    simp only [XM.K, XM.ev, XV.K_eq, atK5_eq, forceS_eq]
    cases x.get E with
    | none => rfl
    | some x =>
      simp only
      cases at5 H x with
      | none => rfl
      | some y => obtain ⟨i, off, o, cs⟩ := y; simp only; cases takeL n (dropL off cs) <;> rfl
  | lkp tag zero ok m key =>
    simp only [XM.K, XM.ev, XV.K_eq]
    cases m.get E with
    | none => rfl
    | some m =>
      cases key.get E with
      | none => cases m <;> rfl
      | some key =>
        cases m with
        | m i =>
          simp only [get5K_eq]
          cases get5 H i with
          | none => rfl
          | some o =>
            cases o with
            | mp es bs clock =>
              simp only
              cases Nat.beq (vTag key) tag with
              | false => rfl
              | true =>
                simp only [cond_true]
                cases findK key es with
                | none => rfl
                | some q => cases q with
                  | none => rfl
                  | some q => rfl
            | _ => rfl
        | _ => rfl
  | st1 x y =>
    simp only [XM.K, XM.ev, XV.K_eq, atK5_eq, putO_eq]
    cases x.get E with
    | none => rfl
    | some x =>
      cases y.get E with
      | none => rfl
      | some y =>
        simp only
        cases one y with
        | false => rfl
        | true =>
          simp only [cond_true]
          cases at5 H x with
          | none => rfl
          | some z => obtain ⟨i, off, o, cs⟩ := z; simp only; cases overL cs off [y] <;> rfl
  | stn n x y =>
    simp only [XM.K, XM.ev, XV.K_eq, atK5_eq, putO_eq]
    cases x.get E with
    | none => rfl
    | some x =>
      cases y.get E with
      | none => rfl
      | some y =>
        cases y with
        | ag ys =>
          simp only
          cases (Nat.beq ys.length n && ys.all one) with
          | false => rfl
          | true =>
            simp only [cond_true]
            cases at5 H x with
            | none => rfl
            | some z => obtain ⟨i, off, o, cs⟩ := z; simp only; cases overL cs off ys <;> rfl
        | _ => rfl
  | box t n x =>
    simp only [XM.K, XM.ev, XV.K_eq, newK_eq]
    cases x.get E with
    | none => rfl
    | some x =>
      simp only
      cases (known x && Nat.beq (cellsV x).length n) <;> rfl
  | alloc t zero => simp only [XM.K, XM.ev, newK_eq]
  | bsl t n zero ps l =>
    simp only [XM.K, XM.ev, XVs.K_eq, newK_eq]
    cases getVs E l with
    | none => rfl
    | some l =>
      simp only
      cases l.all known with
      | false => rfl
      | true =>
        simp only [cond_true]
        cases fillV zero ps l <;> rfl
  | mkm => simp only [XM.K, XM.ev, newK_eq]
  | ins tag m key x =>
    simp only [XM.K, XM.ev, XV.K_eq]
    cases m.get E with
    | none => rfl
    | some m =>
      cases key.get E with
      | none => cases m <;> rfl
      | some key =>
        cases x.get E with
        | none => cases m <;> rfl
        | some x =>
          cases m with
          | m i =>
            simp only [get5K_eq]
            cases Nat.beq (vTag key) tag with
            | false => rfl
            | true =>
              simp only [cond_true]
              cases get5 H i with
              | none => rfl
              | some o =>
                cases o with
                | mp es bs clock =>
                  simp only [putO_eq]
                  cases findK key es with
                  | none => rfl
                  | some q => cases q with
                    | none => rfl
                    | some q => rfl
                | _ => rfl
          | _ => rfl
  | app t sz bytes s x =>
    simp only [XM.K, XM.ev, XV.K_eq]
    cases s.get E with
    | none => rfl
    | some s =>
      cases x.get E with
      | none => rfl
      | some x =>
        simp only
        cases appCells H sz x with
        | none => rfl
        | some q =>
          obtain ⟨m, news⟩ := q
          simp only
          cases news.all one with
          | false => rfl
          | true =>
            simp only [cond_true]
            cases s with
            | ns =>
              simp only [newK_eq]
              cases Nat.beq m 0 with
              | true => rfl
              | false =>
                simp only [cond_false]
                cases goodApp m bytes <;> rfl
            | _ =>
              simp only [newK_eq, put5K_eq]
              split
              · rename_i j n xs hoc
                try simp only [hoc]
                cases goodApp (n + m) bytes <;> rfl
              · rename_i hoc
                try simp only [hoc]
                rfl
  | rng x =>
    simp only [XM.K, XM.ev, XV.K_eq, newK_eq]
    cases x.get E with
    | none => rfl
    | some x => cases x <;> rfl
  | nxt x =>
    simp only [XM.K, XM.ev, XV.K_eq]
    cases x.get E with
    | none => rfl
    | some x =>
      cases x with
      | p i off =>
        cases off with
        | succ _ => rfl
        | zero =>
          simp only [get5K_eq]
          cases get5 H i with
          | none => rfl
          | some o =>
            cases o with
            | it n l rest pos =>
              cases rest with
              | nil => rfl
              | cons b rest =>
                simp only [forceO_eq, put5K_eq]
                cases Nat.blt b 128 <;> rfl
            | _ => rfl
      | _ => rfl
  | mks t sz bytes zero n cp =>
    simp only [XM.K, XM.ev, XV.K_eq, newK_eq]
    cases n.get E with
    | none => rfl
    | some n =>
      cases cp.get E with
      | none => cases n <;> first | rfl | (rename_i k q; cases q <;> rfl)
      | some cp =>
        cases n with
        | i k1 q1 =>
          cases q1 with
          | ofNat n1 =>
            cases cp with
            | i k2 q2 =>
              cases q2 with
              | ofNat m1 =>
                simp only
                cases (Nat.ble n1 m1 && goodApp m1 bytes && Nat.blt 0 sz) <;> rfl
              | negSucc _ => rfl
            | _ => rfl
          | negSucc _ => rfl
        | _ => rfl
end
end Go.Ev
