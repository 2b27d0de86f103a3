/- Walks, printed by my gen.py: kit_SameParts, kit_SameStmts, kit_SameConfig. -/
import Derived.Test.YtngdkgddeobiiaaFacts
import Derived.Test.YtngdkgddeobiiaaPDeep
import Derived.Test.YtngdkgddeobiiaaWRef
namespace Go.Proofs.Ytngdkgddeobiiaa
open Go Go.TL Go.RowKit
set_option maxRecDepth 100000


theorem c_kit_SameParts {I : Imm} (l : List Part) (A B : Option Addr) (ca cb : Nat) (hl : SlI I 7 A (l.map Part.cells)) (hm : SlI I 7 B (l.map Part.cells)) (hn : l.length ≤ 1000000) : PAt Try.prog I 33 [.slice A l.length ca, .slice B l.length cb] (.bool true) := by
 refine pat_of fun L => fn_enter Try.func33 rfl rfl rfl ?_
 refine sr <| V rfl (y_as rfl) <| go rfl <| t_seq <| sr <| V rfl (y_mv rfl) <| V rfl (y_lens Try.underlying22 rfl) <| V rfl (y_mv rfl) <| V rfl (y_lens Try.underlying22 rfl) <| V rfl (y_ne rfl rfl) ?_
 refine go rfl ?_
 refine If rfl (fun h1 => ?_) (fun h1 => ?_)
 ·
  refine sr <| V rfl (y_as rfl) <| go rfl <| t_ret ?_
  refine tx_end rfl (ret (res1 rfl (rv_t rfl)) fun hI => ⟨?_, rfl⟩)
  first | rfl | (exfalso; simp_all; done)
 ·
  refine skipgo rfl <| t_seq <| sr <| V rfl (y_as rfl) <| go rfl <| t_block ?_
  refine t_loopG (α := Nat) (fun (k : Nat) => I) (fun (k : Nat) => []) (fun (k : Nat) => [(5, .int .i64 (k : Int))]) (fun (k : Nat) => k ≤ l.length) (fun (k : Nat) => l.length - k) 0 ?_ ?_ ?_ ?_ ?_
  · omega
  · rfl
  · exact ⟨rfl, trivial⟩
  · exact trivial
  intro k hinv
  refine t_seq <| sr <| V rfl (y_mv rfl) <| V rfl (y_mv rfl) <| V rfl (y_lens Try.underlying22 rfl) <| V rfl (y_lt rfl rfl) <| go rfl ?_
  refine If rfl (fun h2 => ?_) (fun h2 => ?_)
  ·
   refine skipgo rfl <| t_seq <| t_block <| t_seq <| t_quiet rfl (by kernel_rfl) <| W rfl (y_mv rfl) <| W rfl (y_mv rfl) ?_
   obtain ⟨p, rfl, hc⟩ := hl.at k (by omega)
   obtain ⟨q, rfl, hd⟩ := hm.at k (by omega)
   refine W rfl (y_ix rfl rfl ix22 (by omega) (by omega)) <| W rfl (y_ldia rfl ta83 rfl hc) <| W rfl (y_mv rfl) <| W rfl (y_mv rfl) <| W rfl (y_ix rfl rfl ix22 (by omega) (by omega)) <| W rfl (y_ldia rfl ta83 rfl hd) <| W rfl (y_neqst rfl rfl Try.eqGuardType83 (se83 _ _ _ _ _ _ _ _ _ _ _ _ _ _)) <| goq rfl ?_
   refine If rfl (fun h3 => ?_) (fun h3 => ?_)
   ·
    refine sr <| V rfl (y_as rfl) <| go rfl <| t_ret ?_
    refine tx_end rfl (ret (res1 rfl (rv_t rfl)) fun hI => ⟨?_, rfl⟩)
    first | rfl | (exfalso; simp_all; done)
   ·
    refine skipgo rfl <| t_region <| V rfl (y_mv rfl) <| V rfl (y_add rfl rfl (by omega)) <| V rfl (y_as rfl) <| tl_end ?_
    refine tx_loop rfl (again (k + 1) 0 0 18 ?_ ?_ rfl rfl rfl rfl ?_ ?_ rfl rfl rfl)
    · omega
    · omega
    · exact ⟨rfl, trivial⟩
    · exact trivial
  ·
   refine exitgo rfl <| sr <| V rfl (y_as rfl) <| go rfl <| t_ret ?_
   refine tx_end rfl (ret (res1 rfl (rv_t rfl)) fun hI => ⟨?_, rfl⟩)
   first | rfl | (exfalso; simp_all; done)

theorem c_kit_SameStmts {I : Imm} (lines : Bool)  : ∀ (n : Nat) (l : List Stmt) (A B : Option Addr) (ca cb : Nat) (hl : SRep I l A) (hm : SRep I l B) (hok : OkS l) (hn : sizeL l ≤ n) (hs : n ≤ 1000000), PAt Try.prog I 34 [.slice A l.length ca, .slice B l.length cb, .bool lines] (.bool true) := by
 intro n
 induction n using Nat.strongRecOn with
 | _ n ih =>
  intro l A B ca cb hl hm hok hn hs
  have hll := length_sizeL l
  refine pat_of fun L => fn_enter Try.func34 rfl rfl rfl ?_
  refine sr <| V rfl (y_as rfl) <| go rfl <| t_seq <| sr <| V rfl (y_mv rfl) <| V rfl (y_lens Try.underlying23 rfl) <| V rfl (y_mv rfl) <| V rfl (y_lens Try.underlying23 rfl) <| V rfl (y_ne rfl rfl) ?_
  refine go rfl ?_
  refine If rfl (fun h1 => ?_) (fun h1 => ?_)
  ·
   refine sr <| V rfl (y_as rfl) <| go rfl <| t_ret ?_
   refine tx_end rfl (ret (res1 rfl (rv_t rfl)) fun hI => ⟨?_, rfl⟩)
   first | rfl | (exfalso; clear ih; simp_all; done)
  ·
   refine skipgo rfl <| t_seq <| sr <| V rfl (y_as rfl) <| go rfl <| t_block ?_
   refine t_loopG (α := Nat) (fun (k : Nat) => I) (fun (k : Nat) => []) (fun (k : Nat) => [(7, .int .i64 (k : Int))]) (fun (k : Nat) => k ≤ l.length) (fun (k : Nat) => l.length - k) 0 ?_ ?_ ?_ ?_ ?_
   · omega
   · rfl
   · exact ⟨rfl, trivial⟩
   · exact trivial
   intro k hinv
   refine t_seq <| sr <| V rfl (y_mv rfl) <| V rfl (y_mv rfl) <| V rfl (y_lens Try.underlying23 rfl) <| V rfl (y_lt rfl rfl) <| go rfl ?_
   refine If rfl (fun h2 => ?_) (fun h2 => ?_)
   ·
    refine skipgo rfl <| t_seq <| t_block <| t_seq ?_
    refine t_held [] rfl 12 rfl _ rfl (by kernel_rfl) fun hle hns => ?_
    refine Tk 0 np rfl rfl hns (by kernel_rfl) (by kernel_rfl) (y_mv rfl) hle _ rfl <| Tk 1 np rfl rfl hns (by kernel_rfl) (by kernel_rfl) (y_mv rfl) hle _ rfl ?_
    obtain ⟨p, Ab, c1, Ae, c2, rfl, hc, hb, he⟩ := hl.at k (by omega)
    obtain ⟨q, Bb, d1, Be, d2, rfl, hd, hb2, he2⟩ := hm.at k (by omega)
    obtain ⟨hkd, hop, hcop, hob, hoe⟩ := hok.at k (by omega)
    have hst := sizeL_take l k (by omega)
    have hse := (l[k]).size_eq
    refine Tk 2 np rfl rfl hns (by kernel_rfl) (by kernel_rfl) (y_ix rfl rfl ix23 (by omega) (by omega)) hle _ rfl <| Tk 3 np rfl rfl hns (by kernel_rfl) (by kernel_rfl) (y_ldia rfl ta78 rfl hc) hle _ rfl <| Tk 4 np rfl rfl hns (by kernel_rfl) (by kernel_rfl) (y_mv rfl) hle _ rfl <| Tk 5 np rfl rfl hns (by kernel_rfl) (by kernel_rfl) (y_mv rfl) hle _ rfl <| Tk 6 np rfl rfl hns (by kernel_rfl) (by kernel_rfl) (y_ix rfl rfl ix23 (by omega) (by omega)) hle _ rfl <| Tk 7 np rfl rfl hns (by kernel_rfl) (by kernel_rfl) (y_ldia rfl ta78 rfl hd) hle _ rfl ?_
    refine On2 8 9 (fun _ _ h => sc_of [] 0 0 (Imm.Le.refl _) rfl rfl rfl h) rfl rfl rfl rfl (by kernel_rfl) _ _ rfl rfl ?_ ?_
    ·
     refine e_alloc 0 rfl Try.zeroValue78 rfl rfl rfl rfl fun b0 => ?_
     refine On 9 (fun _ _ h => sc_of [] 1 1 (Imm.Le.refl _) rfl rfl rfl h) rfl (by kernel_rfl) _ rfl (e_alloc 1 rfl Try.zeroValue78 rfl rfl rfl rfl fun b1 => ?_)
     refine On 10 (fun _ _ h => sc_of [] 2 2 (Imm.Le.refl _) rfl rfl rfl h) rfl (by kernel_rfl) _ rfl (e_sta 0 rfl rfl rfl rfl rfl rfl ta78 ?_)
     refine On 11 (fun _ _ h => sc_of [] 2 3 (Imm.Le.refl _) rfl rfl rfl h) rfl (by kernel_rfl) _ rfl (e_sta 1 rfl rfl rfl rfl rfl rfl ta78 ?_)
     refine th_end (fun _ _ h => sc_of [] 2 4 (Imm.Le.refl _) rfl rfl rfl h) (by kernel_rfl) ?_
     show TX _ _ _ _ _ _ _
     refine tx_go rfl <| sr <| V rfl (y_fal rfl fo78_0 rfl) <| V rfl (y_ld (i := 0) rfl rfl rfl tc71) <| V rfl (y_fal rfl fo78_0 rfl) <| V rfl (y_ld (i := 1) rfl rfl rfl tc71) <| V rfl (y_ne rfl rfl) <| V rfl (y_mv rfl) ?_
     refine' Jn 34 40 6 rfl (fun h3 => ?_) (fun h3 => ?_) _ rfl ?_
     rotate_left 2
     ·
      refine Gf rfl rfl rfl rfl <| Gf rfl rfl rfl rfl <| Gf rfl rfl rfl rfl <| Gf rfl rfl rfl rfl <| Gf rfl rfl rfl rfl <| V rfl (y_pick (b := true) rfl rfl) <| tl_end ?_
      exact tx_loop rfl (back (rw := []) (sl := [(40, _)]) 0 0 6 rfl rfl rfl ⟨rfl, trivial⟩ trivial rfl rfl)
     ·
      refine Gt rfl rfl <| V rfl (y_fal rfl fo78_1 rfl) <| Gt rfl rfl <| V rfl (y_lda (i := 0) rfl rfl ta74 rfl) <| Gt rfl rfl <| V rfl (y_fal rfl fo78_1 rfl) <| Gt rfl rfl <| V rfl (y_lda (i := 1) rfl rfl ta74 rfl) <| Gt rfl rfl <| V rfl (y_neqst rfl rfl Try.eqGuardType74 (se74 _ _ _ _ _ _ _ _)) ?_
      refine V rfl (y_pick (b := false) rfl rfl) <| tl_end ?_
      exact tx_loop rfl (back (rw := []) (sl := [(40, _)]) 0 0 6 rfl rfl rfl ⟨rfl, trivial⟩ trivial rfl rfl)
     refine V rfl (y_mv rfl) ?_
     refine' Jn 41 47 6 rfl (fun h4 => ?_) (fun h4 => ?_) _ rfl ?_
     rotate_left 2
     ·
      refine Gf rfl rfl rfl rfl <| Gf rfl rfl rfl rfl <| Gf rfl rfl rfl rfl <| Gf rfl rfl rfl rfl <| Gf rfl rfl rfl rfl <| V rfl (y_pick (b := true) rfl rfl) <| tl_end ?_
      exact tx_loop rfl (back (rw := []) (sl := [(47, _)]) 0 0 6 rfl rfl rfl ⟨rfl, trivial⟩ trivial rfl rfl)
     ·
      refine Gt rfl rfl <| V rfl (y_fal rfl fo78_2 rfl) <| Gt rfl rfl <| V rfl (y_lda (i := 0) rfl rfl ta76 rfl) <| Gt rfl rfl <| V rfl (y_fal rfl fo78_2 rfl) <| Gt rfl rfl <| V rfl (y_lda (i := 1) rfl rfl ta76 rfl) <| Gt rfl rfl <| V rfl (y_neqst rfl rfl Try.eqGuardType76 (se76 _ _ _ _ _ _ _ _ _ _)) ?_
      refine V rfl (y_pick (b := false) rfl rfl) <| tl_end ?_
      exact tx_loop rfl (back (rw := []) (sl := [(47, _)]) 0 0 6 rfl rfl rfl ⟨rfl, trivial⟩ trivial rfl rfl)
     refine V rfl (y_mv rfl) ?_
     refine' Jn 48 57 9 rfl (fun h5 => ?_) (fun h5 => ?_) _ rfl ?_
     rotate_left 2
     ·
      refine Gf rfl rfl rfl rfl <| Gf rfl rfl rfl rfl <| Gu rfl rfl rfl <| Gu rfl rfl rfl <| Gu rfl rfl rfl <| Gu rfl rfl rfl <| Gu rfl rfl rfl <| Gf rfl rfl rfl rfl <| V rfl (y_pick (b := true) rfl rfl) <| tl_end ?_
      exact tx_loop rfl (back (rw := []) (sl := [(57, _)]) 0 0 9 rfl rfl rfl ⟨rfl, trivial⟩ trivial rfl rfl)
     ·
      refine Gt rfl rfl <| V rfl (y_mv rfl) <| Gt rfl rfl <| V rfl (y_mv rfl) ?_
      refine' Jn 50 56 6 rfl (fun h6 => ?_) (fun h6 => ?_) _ rfl ?_
      rotate_left 2
      ·
       refine Gt rfl rfl <| V rfl (y_fal rfl fo78_5 rfl) <| Gt rfl rfl <| V rfl (y_ld (i := 0) rfl rfl rfl tc3) <| Gt rfl rfl <| V rfl (y_fal rfl fo78_5 rfl) <| Gt rfl rfl <| V rfl (y_ld (i := 1) rfl rfl rfl tc3) <| Gt rfl rfl <| V rfl (y_ne rfl rfl) ?_
       refine Gt rfl rfl <| V rfl (y_pick (b := true) rfl rfl) <| tl_end ?_
       exact tx_loop rfl (back (rw := []) (sl := [(56, _)]) 0 0 6 rfl rfl rfl ⟨rfl, trivial⟩ trivial rfl rfl)
      ·
       refine Gf rfl rfl rfl rfl <| Gf rfl rfl rfl rfl <| Gf rfl rfl rfl rfl <| Gf rfl rfl rfl rfl <| Gf rfl rfl rfl rfl <| Gt rfl rfl <| V rfl (y_pick (b := false) rfl rfl) <| tl_end ?_
       exact tx_loop rfl (back (rw := []) (sl := [(56, _)]) 0 0 6 rfl rfl rfl ⟨rfl, trivial⟩ trivial rfl rfl)
      refine V rfl (y_pick (b := false) rfl rfl) <| tl_end ?_
      exact tx_loop rfl (back (rw := []) (sl := [(57, _)]) 0 0 4 rfl rfl rfl ⟨rfl, trivial⟩ trivial rfl rfl)
     refine V rfl (y_mv rfl) ?_
     refine' Jn 58 66 8 rfl (fun h7 => ?_) (fun h7 => ?_) _ rfl ?_
     rotate_left 2
     ·
      refine Gf rfl rfl rfl rfl <| Gf rfl rfl rfl rfl <| Gf rfl rfl rfl rfl <| Gf rfl rfl rfl rfl <| Gf rfl rfl rfl rfl <| Gf rfl rfl rfl rfl <| Gf rfl rfl rfl rfl <| V rfl (y_pick (b := true) rfl rfl) <| tl_end ?_
      exact tx_loop rfl (back (rw := []) (sl := [(66, _)]) 0 0 8 rfl rfl rfl ⟨rfl, trivial⟩ trivial rfl rfl)
     ·
      refine Gt rfl rfl <| V rfl (y_fal rfl fo78_3 rfl) <| Gt rfl rfl <| V rfl (y_ld (i := 0) rfl rfl rfl tc23) <| Gt rfl rfl <| V rfl (y_fal rfl fo78_3 rfl) <| Gt rfl rfl <| V rfl (y_ld (i := 1) rfl rfl rfl tc23) <| Gt rfl rfl <| V rfl (y_mv rfl) ?_
      refine Gt rfl rfl ?_
      refine Ef (e_call rfl en34 rfl (ih (sizeL (l[k]).body) (by omega) (l[k]).body _ _ _ _ hb hb2 hob (Nat.le_refl _) (by omega)) ?_)
      refine Gt rfl rfl <| V rfl (y_not rfl) <| V rfl (y_pick (b := false) rfl rfl) <| tl_end ?_
      exact tx_loop rfl (back (rw := []) (sl := [(66, _)]) 0 0 8 rfl rfl rfl ⟨rfl, trivial⟩ trivial rfl rfl)
     refine V rfl (y_mv rfl) ?_
     refine' Jn 67 75 8 rfl (fun h8 => ?_) (fun h8 => ?_) _ rfl ?_
     rotate_left 2
     ·
      refine Gf rfl rfl rfl rfl <| Gf rfl rfl rfl rfl <| Gf rfl rfl rfl rfl <| Gf rfl rfl rfl rfl <| Gf rfl rfl rfl rfl <| Gf rfl rfl rfl rfl <| Gf rfl rfl rfl rfl <| V rfl (y_pick (b := true) rfl rfl) <| tl_end ?_
      exact tx_loop rfl (back (rw := []) (sl := [(75, _)]) 0 0 8 rfl rfl rfl ⟨rfl, trivial⟩ trivial rfl rfl)
     ·
      refine Gt rfl rfl <| V rfl (y_fal rfl fo78_4 rfl) <| Gt rfl rfl <| V rfl (y_ld (i := 0) rfl rfl rfl tc23) <| Gt rfl rfl <| V rfl (y_fal rfl fo78_4 rfl) <| Gt rfl rfl <| V rfl (y_ld (i := 1) rfl rfl rfl tc23) <| Gt rfl rfl <| V rfl (y_mv rfl) ?_
      refine Gt rfl rfl ?_
      refine Ef (e_call rfl en34 rfl (ih (sizeL (l[k]).els) (by omega) (l[k]).els _ _ _ _ he he2 hoe (Nat.le_refl _) (by omega)) ?_)
      refine Gt rfl rfl <| V rfl (y_not rfl) <| V rfl (y_pick (b := false) rfl rfl) <| tl_end ?_
      exact tx_loop rfl (back (rw := []) (sl := [(75, _)]) 0 0 8 rfl rfl rfl ⟨rfl, trivial⟩ trivial rfl rfl)
     refine go rfl ?_
     refine If rfl (fun h9 => ?_) (fun h9 => ?_)
     ·
      refine sr <| V rfl (y_as rfl) <| go rfl <| t_ret ?_
      refine tx_end rfl (ret (res1 rfl (rv_t rfl)) fun hI => ⟨?_, rfl⟩)
      first | rfl | (exfalso; clear ih; simp_all; done)
     ·
      refine skipgo rfl <| t_region <| V rfl (y_mv rfl) <| V rfl (y_add rfl rfl (by omega)) <| V rfl (y_as rfl) <| tl_end ?_
      refine tx_loop rfl (again (k + 1) 2 4 34 ?_ ?_ rfl rfl rfl rfl ?_ ?_ rfl rfl rfl)
      · omega
      · omega
      · exact ⟨rfl, trivial⟩
      · exact trivial
    ·
     refine e_alloc 0 rfl Try.zeroValue78 rfl rfl rfl rfl fun b0 => ?_
     refine On 8 (fun _ _ h => sc_of [] 1 1 (Imm.Le.refl _) rfl rfl rfl h) rfl (by kernel_rfl) _ rfl (e_alloc 1 rfl Try.zeroValue78 rfl rfl rfl rfl fun b1 => ?_)
     refine On 10 (fun _ _ h => sc_of [] 2 2 (Imm.Le.refl _) rfl rfl rfl h) rfl (by kernel_rfl) _ rfl (e_sta 1 rfl rfl rfl rfl rfl rfl ta78 ?_)
     refine On 11 (fun _ _ h => sc_of [] 2 3 (Imm.Le.refl _) rfl rfl rfl h) rfl (by kernel_rfl) _ rfl (e_sta 0 rfl rfl rfl rfl rfl rfl ta78 ?_)
     refine th_end (fun _ _ h => sc_of [] 2 4 (Imm.Le.refl _) rfl rfl rfl h) (by kernel_rfl) ?_
     show TX _ _ _ _ _ _ _
     refine tx_go rfl <| sr <| V rfl (y_fal rfl fo78_0 rfl) <| V rfl (y_ld (i := 1) rfl rfl rfl tc71) <| V rfl (y_fal rfl fo78_0 rfl) <| V rfl (y_ld (i := 0) rfl rfl rfl tc71) <| V rfl (y_ne rfl rfl) <| V rfl (y_mv rfl) ?_
     refine' Jn 34 40 6 rfl (fun h10 => ?_) (fun h10 => ?_) _ rfl ?_
     rotate_left 2
     ·
      refine Gf rfl rfl rfl rfl <| Gf rfl rfl rfl rfl <| Gf rfl rfl rfl rfl <| Gf rfl rfl rfl rfl <| Gf rfl rfl rfl rfl <| V rfl (y_pick (b := true) rfl rfl) <| tl_end ?_
      exact tx_loop rfl (back (rw := []) (sl := [(40, _)]) 0 0 6 rfl rfl rfl ⟨rfl, trivial⟩ trivial rfl rfl)
     ·
      refine Gt rfl rfl <| V rfl (y_fal rfl fo78_1 rfl) <| Gt rfl rfl <| V rfl (y_lda (i := 1) rfl rfl ta74 rfl) <| Gt rfl rfl <| V rfl (y_fal rfl fo78_1 rfl) <| Gt rfl rfl <| V rfl (y_lda (i := 0) rfl rfl ta74 rfl) <| Gt rfl rfl <| V rfl (y_neqst rfl rfl Try.eqGuardType74 (se74 _ _ _ _ _ _ _ _)) ?_
      refine V rfl (y_pick (b := false) rfl rfl) <| tl_end ?_
      exact tx_loop rfl (back (rw := []) (sl := [(40, _)]) 0 0 6 rfl rfl rfl ⟨rfl, trivial⟩ trivial rfl rfl)
     refine V rfl (y_mv rfl) ?_
     refine' Jn 41 47 6 rfl (fun h11 => ?_) (fun h11 => ?_) _ rfl ?_
     rotate_left 2
     ·
      refine Gf rfl rfl rfl rfl <| Gf rfl rfl rfl rfl <| Gf rfl rfl rfl rfl <| Gf rfl rfl rfl rfl <| Gf rfl rfl rfl rfl <| V rfl (y_pick (b := true) rfl rfl) <| tl_end ?_
      exact tx_loop rfl (back (rw := []) (sl := [(47, _)]) 0 0 6 rfl rfl rfl ⟨rfl, trivial⟩ trivial rfl rfl)
     ·
      refine Gt rfl rfl <| V rfl (y_fal rfl fo78_2 rfl) <| Gt rfl rfl <| V rfl (y_lda (i := 1) rfl rfl ta76 rfl) <| Gt rfl rfl <| V rfl (y_fal rfl fo78_2 rfl) <| Gt rfl rfl <| V rfl (y_lda (i := 0) rfl rfl ta76 rfl) <| Gt rfl rfl <| V rfl (y_neqst rfl rfl Try.eqGuardType76 (se76 _ _ _ _ _ _ _ _ _ _)) ?_
      refine V rfl (y_pick (b := false) rfl rfl) <| tl_end ?_
      exact tx_loop rfl (back (rw := []) (sl := [(47, _)]) 0 0 6 rfl rfl rfl ⟨rfl, trivial⟩ trivial rfl rfl)
     refine V rfl (y_mv rfl) ?_
     refine' Jn 48 57 9 rfl (fun h12 => ?_) (fun h12 => ?_) _ rfl ?_
     rotate_left 2
     ·
      refine Gf rfl rfl rfl rfl <| Gf rfl rfl rfl rfl <| Gu rfl rfl rfl <| Gu rfl rfl rfl <| Gu rfl rfl rfl <| Gu rfl rfl rfl <| Gu rfl rfl rfl <| Gf rfl rfl rfl rfl <| V rfl (y_pick (b := true) rfl rfl) <| tl_end ?_
      exact tx_loop rfl (back (rw := []) (sl := [(57, _)]) 0 0 9 rfl rfl rfl ⟨rfl, trivial⟩ trivial rfl rfl)
     ·
      refine Gt rfl rfl <| V rfl (y_mv rfl) <| Gt rfl rfl <| V rfl (y_mv rfl) ?_
      refine' Jn 50 56 6 rfl (fun h13 => ?_) (fun h13 => ?_) _ rfl ?_
      rotate_left 2
      ·
       refine Gt rfl rfl <| V rfl (y_fal rfl fo78_5 rfl) <| Gt rfl rfl <| V rfl (y_ld (i := 1) rfl rfl rfl tc3) <| Gt rfl rfl <| V rfl (y_fal rfl fo78_5 rfl) <| Gt rfl rfl <| V rfl (y_ld (i := 0) rfl rfl rfl tc3) <| Gt rfl rfl <| V rfl (y_ne rfl rfl) ?_
       refine Gt rfl rfl <| V rfl (y_pick (b := true) rfl rfl) <| tl_end ?_
       exact tx_loop rfl (back (rw := []) (sl := [(56, _)]) 0 0 6 rfl rfl rfl ⟨rfl, trivial⟩ trivial rfl rfl)
      ·
       refine Gf rfl rfl rfl rfl <| Gf rfl rfl rfl rfl <| Gf rfl rfl rfl rfl <| Gf rfl rfl rfl rfl <| Gf rfl rfl rfl rfl <| Gt rfl rfl <| V rfl (y_pick (b := false) rfl rfl) <| tl_end ?_
       exact tx_loop rfl (back (rw := []) (sl := [(56, _)]) 0 0 6 rfl rfl rfl ⟨rfl, trivial⟩ trivial rfl rfl)
      refine V rfl (y_pick (b := false) rfl rfl) <| tl_end ?_
      exact tx_loop rfl (back (rw := []) (sl := [(57, _)]) 0 0 4 rfl rfl rfl ⟨rfl, trivial⟩ trivial rfl rfl)
     refine V rfl (y_mv rfl) ?_
     refine' Jn 58 66 8 rfl (fun h14 => ?_) (fun h14 => ?_) _ rfl ?_
     rotate_left 2
     ·
      refine Gf rfl rfl rfl rfl <| Gf rfl rfl rfl rfl <| Gf rfl rfl rfl rfl <| Gf rfl rfl rfl rfl <| Gf rfl rfl rfl rfl <| Gf rfl rfl rfl rfl <| Gf rfl rfl rfl rfl <| V rfl (y_pick (b := true) rfl rfl) <| tl_end ?_
      exact tx_loop rfl (back (rw := []) (sl := [(66, _)]) 0 0 8 rfl rfl rfl ⟨rfl, trivial⟩ trivial rfl rfl)
     ·
      refine Gt rfl rfl <| V rfl (y_fal rfl fo78_3 rfl) <| Gt rfl rfl <| V rfl (y_ld (i := 1) rfl rfl rfl tc23) <| Gt rfl rfl <| V rfl (y_fal rfl fo78_3 rfl) <| Gt rfl rfl <| V rfl (y_ld (i := 0) rfl rfl rfl tc23) <| Gt rfl rfl <| V rfl (y_mv rfl) ?_
      refine Gt rfl rfl ?_
      refine Ef (e_call rfl en34 rfl (ih (sizeL (l[k]).body) (by omega) (l[k]).body _ _ _ _ hb hb2 hob (Nat.le_refl _) (by omega)) ?_)
      refine Gt rfl rfl <| V rfl (y_not rfl) <| V rfl (y_pick (b := false) rfl rfl) <| tl_end ?_
      exact tx_loop rfl (back (rw := []) (sl := [(66, _)]) 0 0 8 rfl rfl rfl ⟨rfl, trivial⟩ trivial rfl rfl)
     refine V rfl (y_mv rfl) ?_
     refine' Jn 67 75 8 rfl (fun h15 => ?_) (fun h15 => ?_) _ rfl ?_
     rotate_left 2
     ·
      refine Gf rfl rfl rfl rfl <| Gf rfl rfl rfl rfl <| Gf rfl rfl rfl rfl <| Gf rfl rfl rfl rfl <| Gf rfl rfl rfl rfl <| Gf rfl rfl rfl rfl <| Gf rfl rfl rfl rfl <| V rfl (y_pick (b := true) rfl rfl) <| tl_end ?_
      exact tx_loop rfl (back (rw := []) (sl := [(75, _)]) 0 0 8 rfl rfl rfl ⟨rfl, trivial⟩ trivial rfl rfl)
     ·
      refine Gt rfl rfl <| V rfl (y_fal rfl fo78_4 rfl) <| Gt rfl rfl <| V rfl (y_ld (i := 1) rfl rfl rfl tc23) <| Gt rfl rfl <| V rfl (y_fal rfl fo78_4 rfl) <| Gt rfl rfl <| V rfl (y_ld (i := 0) rfl rfl rfl tc23) <| Gt rfl rfl <| V rfl (y_mv rfl) ?_
      refine Gt rfl rfl ?_
      refine Ef (e_call rfl en34 rfl (ih (sizeL (l[k]).els) (by omega) (l[k]).els _ _ _ _ he he2 hoe (Nat.le_refl _) (by omega)) ?_)
      refine Gt rfl rfl <| V rfl (y_not rfl) <| V rfl (y_pick (b := false) rfl rfl) <| tl_end ?_
      exact tx_loop rfl (back (rw := []) (sl := [(75, _)]) 0 0 8 rfl rfl rfl ⟨rfl, trivial⟩ trivial rfl rfl)
     refine go rfl ?_
     refine If rfl (fun h16 => ?_) (fun h16 => ?_)
     ·
      refine sr <| V rfl (y_as rfl) <| go rfl <| t_ret ?_
      refine tx_end rfl (ret (res1 rfl (rv_t rfl)) fun hI => ⟨?_, rfl⟩)
      first | rfl | (exfalso; clear ih; simp_all; done)
     ·
      refine skipgo rfl <| t_region <| V rfl (y_mv rfl) <| V rfl (y_add rfl rfl (by omega)) <| V rfl (y_as rfl) <| tl_end ?_
      refine tx_loop rfl (again (k + 1) 2 4 34 ?_ ?_ rfl rfl rfl rfl ?_ ?_ rfl rfl rfl)
      · omega
      · omega
      · exact ⟨rfl, trivial⟩
      · exact trivial
   ·
    refine exitgo rfl <| sr <| V rfl (y_as rfl) <| go rfl <| t_ret ?_
    refine tx_end rfl (ret (res1 rfl (rv_t rfl)) fun hI => ⟨?_, rfl⟩)
    first | rfl | (exfalso; clear ih; simp_all; done)

theorem c_kit_SameConfig {I : Imm} (c : Conf) (Ap Aq Ar Bp Bq Br : Option Addr) (cp cq cr dp dq dr : Nat) (lines : Bool) (hc : c.Ok I Ap Aq Ar) (hd : c.Ok I Bp Bq Br) : PAt Try.prog I 12 [.agg #[.int .i64 c.size, .int .i64 c.cells, .int .i64 c.sa, .int .i64 c.sb, .slice Ap c.parts.length cp, .slice Aq c.pre.length cq, .slice Ar c.post.length cr, .bool c.flag], .agg #[.int .i64 c.size, .int .i64 c.cells, .int .i64 c.sa, .int .i64 c.sb, .slice Bp c.parts.length dp, .slice Bq c.pre.length dq, .slice Br c.post.length dr, .bool c.flag], .bool lines] (.bool true) := by
 refine pat_of fun L => fn_enter Try.func12 rfl rfl rfl ?_
 refine sr ?_
 refine Ef (e_box 0 rfl rfl rfl rfl rfl rfl fun b0 => ?_)
 refine Ef (e_box 1 rfl rfl rfl rfl rfl rfl fun b1 => ?_)
 refine V rfl (y_as rfl) <| go rfl <| sr <| V rfl (y_fal rfl fo25_0 rfl) <| V rfl (y_ld (i := 0) rfl rfl rfl tc3) <| V rfl (y_fal rfl fo25_0 rfl) <| V rfl (y_ld (i := 1) rfl rfl rfl tc3) <| V rfl (y_eq rfl rfl) <| V rfl (y_mv rfl) ?_
 refine' Jn 12 18 6 rfl (fun h1 => ?_) (fun h1 => ?_) _ rfl ?_
 rotate_left 2
 ·
  refine Gt rfl rfl <| V rfl (y_fal rfl fo25_1 rfl) <| Gt rfl rfl <| V rfl (y_ld (i := 0) rfl rfl rfl tc3) <| Gt rfl rfl <| V rfl (y_fal rfl fo25_1 rfl) <| Gt rfl rfl <| V rfl (y_ld (i := 1) rfl rfl rfl tc3) <| Gt rfl rfl <| V rfl (y_eq rfl rfl) ?_
  refine V rfl (y_pick (b := true) rfl rfl) <| tl_end ?_
  exact tx_loop rfl (back (rw := []) (sl := [(18, _)]) 0 0 6 rfl rfl rfl ⟨rfl, trivial⟩ trivial rfl rfl)
 ·
  refine Gf rfl rfl rfl rfl <| Gf rfl rfl rfl rfl <| Gf rfl rfl rfl rfl <| Gf rfl rfl rfl rfl <| Gf rfl rfl rfl rfl <| V rfl (y_pick (b := false) rfl rfl) <| tl_end ?_
  exact tx_loop rfl (back (rw := []) (sl := [(18, _)]) 0 0 6 rfl rfl rfl ⟨rfl, trivial⟩ trivial rfl rfl)
 refine V rfl (y_mv rfl) ?_
 refine' Jn 19 25 6 rfl (fun h2 => ?_) (fun h2 => ?_) _ rfl ?_
 rotate_left 2
 ·
  refine Gt rfl rfl <| V rfl (y_fal rfl fo25_2 rfl) <| Gt rfl rfl <| V rfl (y_ld (i := 0) rfl rfl rfl tc3) <| Gt rfl rfl <| V rfl (y_fal rfl fo25_2 rfl) <| Gt rfl rfl <| V rfl (y_ld (i := 1) rfl rfl rfl tc3) <| Gt rfl rfl <| V rfl (y_eq rfl rfl) ?_
  refine V rfl (y_pick (b := true) rfl rfl) <| tl_end ?_
  exact tx_loop rfl (back (rw := []) (sl := [(25, _)]) 0 0 6 rfl rfl rfl ⟨rfl, trivial⟩ trivial rfl rfl)
 ·
  refine Gf rfl rfl rfl rfl <| Gf rfl rfl rfl rfl <| Gf rfl rfl rfl rfl <| Gf rfl rfl rfl rfl <| Gf rfl rfl rfl rfl <| V rfl (y_pick (b := false) rfl rfl) <| tl_end ?_
  exact tx_loop rfl (back (rw := []) (sl := [(25, _)]) 0 0 6 rfl rfl rfl ⟨rfl, trivial⟩ trivial rfl rfl)
 refine V rfl (y_mv rfl) ?_
 refine' Jn 26 32 6 rfl (fun h3 => ?_) (fun h3 => ?_) _ rfl ?_
 rotate_left 2
 ·
  refine Gt rfl rfl <| V rfl (y_fal rfl fo25_3 rfl) <| Gt rfl rfl <| V rfl (y_ld (i := 0) rfl rfl rfl tc3) <| Gt rfl rfl <| V rfl (y_fal rfl fo25_3 rfl) <| Gt rfl rfl <| V rfl (y_ld (i := 1) rfl rfl rfl tc3) <| Gt rfl rfl <| V rfl (y_eq rfl rfl) ?_
  refine V rfl (y_pick (b := true) rfl rfl) <| tl_end ?_
  exact tx_loop rfl (back (rw := []) (sl := [(32, _)]) 0 0 6 rfl rfl rfl ⟨rfl, trivial⟩ trivial rfl rfl)
 ·
  refine Gf rfl rfl rfl rfl <| Gf rfl rfl rfl rfl <| Gf rfl rfl rfl rfl <| Gf rfl rfl rfl rfl <| Gf rfl rfl rfl rfl <| V rfl (y_pick (b := false) rfl rfl) <| tl_end ?_
  exact tx_loop rfl (back (rw := []) (sl := [(32, _)]) 0 0 6 rfl rfl rfl ⟨rfl, trivial⟩ trivial rfl rfl)
 refine V rfl (y_mv rfl) ?_
 refine' Jn 33 39 6 rfl (fun h4 => ?_) (fun h4 => ?_) _ rfl ?_
 rotate_left 2
 ·
  refine Gt rfl rfl <| V rfl (y_fal rfl fo25_7 rfl) <| Gt rfl rfl <| V rfl (y_ld (i := 0) rfl rfl rfl tc4) <| Gt rfl rfl <| V rfl (y_fal rfl fo25_7 rfl) <| Gt rfl rfl <| V rfl (y_ld (i := 1) rfl rfl rfl tc4) <| Gt rfl rfl <| V rfl (y_eqb rfl rfl Try.underlying4) ?_
  refine V rfl (y_pick (b := true) rfl rfl) <| tl_end ?_
  exact tx_loop rfl (back (rw := []) (sl := [(39, _)]) 0 0 6 rfl rfl rfl ⟨rfl, trivial⟩ trivial rfl rfl)
 ·
  refine Gf rfl rfl rfl rfl <| Gf rfl rfl rfl rfl <| Gf rfl rfl rfl rfl <| Gf rfl rfl rfl rfl <| Gf rfl rfl rfl rfl <| V rfl (y_pick (b := false) rfl rfl) <| tl_end ?_
  exact tx_loop rfl (back (rw := []) (sl := [(39, _)]) 0 0 6 rfl rfl rfl ⟨rfl, trivial⟩ trivial rfl rfl)
 refine V rfl (y_mv rfl) ?_
 refine' Jn 40 46 6 rfl (fun h5 => ?_) (fun h5 => ?_) _ rfl ?_
 rotate_left 2
 ·
  refine Gt rfl rfl <| V rfl (y_fal rfl fo25_4 rfl) <| Gt rfl rfl <| V rfl (y_ld (i := 0) rfl rfl rfl tc22) <| Gt rfl rfl <| V rfl (y_fal rfl fo25_4 rfl) <| Gt rfl rfl <| V rfl (y_ld (i := 1) rfl rfl rfl tc22) <| Gt rfl rfl ?_
  refine Ef (e_call rfl en33 rfl (c_kit_SameParts _ _ _ _ _ hc.parts hd.parts hc.szp) ?_)
  refine V rfl (y_pick (b := true) rfl rfl) <| tl_end ?_
  exact tx_loop rfl (back (rw := []) (sl := [(46, _)]) 0 0 6 rfl rfl rfl ⟨rfl, trivial⟩ trivial rfl rfl)
 ·
  refine Gf rfl rfl rfl rfl <| Gf rfl rfl rfl rfl <| Gf rfl rfl rfl rfl <| Gf rfl rfl rfl rfl <| Gf rfl rfl rfl rfl <| V rfl (y_pick (b := false) rfl rfl) <| tl_end ?_
  exact tx_loop rfl (back (rw := []) (sl := [(46, _)]) 0 0 6 rfl rfl rfl ⟨rfl, trivial⟩ trivial rfl rfl)
 refine V rfl (y_mv rfl) ?_
 refine' Jn 47 54 7 rfl (fun h6 => ?_) (fun h6 => ?_) _ rfl ?_
 rotate_left 2
 ·
  refine Gt rfl rfl <| V rfl (y_fal rfl fo25_5 rfl) <| Gt rfl rfl <| V rfl (y_ld (i := 0) rfl rfl rfl tc23) <| Gt rfl rfl <| V rfl (y_fal rfl fo25_5 rfl) <| Gt rfl rfl <| V rfl (y_ld (i := 1) rfl rfl rfl tc23) <| Gt rfl rfl <| V rfl (y_mv rfl) ?_
  refine Gt rfl rfl ?_
  refine Ef (e_call rfl en34 rfl (c_kit_SameStmts lines (sizeL c.pre) c.pre _ _ _ _ hc.pre hd.pre hc.okq (Nat.le_refl _) hc.szq) ?_)
  refine V rfl (y_pick (b := true) rfl rfl) <| tl_end ?_
  exact tx_loop rfl (back (rw := []) (sl := [(54, _)]) 0 0 7 rfl rfl rfl ⟨rfl, trivial⟩ trivial rfl rfl)
 ·
  refine Gf rfl rfl rfl rfl <| Gf rfl rfl rfl rfl <| Gf rfl rfl rfl rfl <| Gf rfl rfl rfl rfl <| Gf rfl rfl rfl rfl <| Gf rfl rfl rfl rfl <| V rfl (y_pick (b := false) rfl rfl) <| tl_end ?_
  exact tx_loop rfl (back (rw := []) (sl := [(54, _)]) 0 0 7 rfl rfl rfl ⟨rfl, trivial⟩ trivial rfl rfl)
 refine V rfl (y_mv rfl) ?_
 refine' Jn 55 62 7 rfl (fun h7 => ?_) (fun h7 => ?_) _ rfl ?_
 rotate_left 2
 ·
  refine Gt rfl rfl <| V rfl (y_fal rfl fo25_6 rfl) <| Gt rfl rfl <| V rfl (y_ld (i := 0) rfl rfl rfl tc23) <| Gt rfl rfl <| V rfl (y_fal rfl fo25_6 rfl) <| Gt rfl rfl <| V rfl (y_ld (i := 1) rfl rfl rfl tc23) <| Gt rfl rfl <| V rfl (y_mv rfl) ?_
  refine Gt rfl rfl ?_
  refine Ef (e_call rfl en34 rfl (c_kit_SameStmts lines (sizeL c.post) c.post _ _ _ _ hc.post hd.post hc.okr (Nat.le_refl _) hc.szr) ?_)
  refine V rfl (y_pick (b := true) rfl rfl) <| tl_end ?_
  exact tx_loop rfl (back (rw := []) (sl := [(62, _)]) 0 0 7 rfl rfl rfl ⟨rfl, trivial⟩ trivial rfl rfl)
 ·
  refine Gf rfl rfl rfl rfl <| Gf rfl rfl rfl rfl <| Gf rfl rfl rfl rfl <| Gf rfl rfl rfl rfl <| Gf rfl rfl rfl rfl <| Gf rfl rfl rfl rfl <| V rfl (y_pick (b := false) rfl rfl) <| tl_end ?_
  exact tx_loop rfl (back (rw := []) (sl := [(62, _)]) 0 0 7 rfl rfl rfl ⟨rfl, trivial⟩ trivial rfl rfl)
 refine V rfl (y_as rfl) <| go rfl <| t_ret ?_
 refine tx_end rfl (ret (res1 rfl (rv_t rfl)) fun hI => ⟨?_, rfl⟩)
 first | rfl | simp | (exfalso; simp_all; done)

end Go.Proofs.Ytngdkgddeobiiaa
