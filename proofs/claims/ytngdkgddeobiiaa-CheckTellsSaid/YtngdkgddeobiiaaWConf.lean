/- Walks, printed by my gen.py: syntax_Right, syntax_Config, check_Check_1, check_Check. -/
import Derived.Test.YtngdkgddeobiiaaFacts
import Derived.Test.YtngdkgddeobiiaaPConf
import Derived.Test.YtngdkgddeobiiaaWParts
import Derived.Test.YtngdkgddeobiiaaWSyntax
namespace Go.Proofs.Ytngdkgddeobiiaa
open Go Go.TL Go.RowKit
set_option maxRecDepth 100000


theorem c_syntax_Right {I : Imm} (l : List Stmt) (post : Bool) (A : Option Addr) (cap : Nat) (hl : SRep I l A) (hok : OkS l) (hsz : sizeL l ≤ 1000000) : PAt Try.prog I 40 [.slice A l.length cap, .bool post] (.bool (rightL l post)) := by
 refine pat_of fun L => fn_enter Try.func40 rfl rfl rfl ?_
 refine sr ?_
 refine Ef (e_box 0 rfl rfl rfl rfl rfl rfl fun b0 => ?_)
 refine V rfl (y_as rfl) <| go rfl <| sr ?_
 refine Ef (e_alloc 1 rfl Try.zeroValue3 rfl rfl rfl rfl fun b1 => ?_)
 refine Ef (e_alloc 2 rfl Try.zeroValue4 rfl rfl rfl rfl fun b2 => ?_)
 refine Ef (e_st 1 rfl rfl rfl rfl rfl tc3 ?_)
 refine Ef (e_st 2 rfl rfl rfl rfl rfl tc4 ?_)
 refine go rfl <| sr <| V rfl (y_mv rfl) <| V rfl (y_mkf rfl rfl) ?_
 refine Ef (e_callk [1, 2, 0] rfl en66 rfl rfl rfl (fun L => by exact c_syntax_walk post _ _ _ 20 l A cap 0 true hl hok hsz (by omega) (by omega) (by omega) L) ?_)
 rintro _ _ ⟨rfl, rfl⟩
 refine V rfl (y_as rfl) <| go rfl <| sr <| V rfl (y_mv rfl) <| V rfl (y_mv rfl) ?_
 refine' Jn 12 14 2 rfl (fun h1 => ?_) (fun h1 => ?_) _ rfl ?_
 rotate_left 2
 ·
  refine Gt rfl rfl <| V rfl (y_ld (i := 2) rfl rfl rfl tc4) <| V rfl (y_pick (b := true) rfl rfl) <| tl_end ?_
  exact tx_loop rfl (back (rw := []) (sl := [(14, _)]) 0 0 2 rfl rfl rfl ⟨rfl, trivial⟩ trivial rfl rfl)
 ·
  refine Gf rfl rfl rfl rfl <| V rfl (y_pick (b := false) rfl rfl) <| tl_end ?_
  exact tx_loop rfl (back (rw := []) (sl := [(14, _)]) 0 0 2 rfl rfl rfl ⟨rfl, trivial⟩ trivial rfl rfl)
 refine V rfl (y_mv rfl) ?_
 refine' Jn 15 18 3 rfl (fun h2 => ?_) (fun h2 => ?_) _ rfl ?_
 rotate_left 2
 ·
  refine Gt rfl rfl <| V rfl (y_ld (i := 1) rfl rfl rfl tc3) <| Gt rfl rfl <| V rfl (y_le rfl rfl) <| V rfl (y_pick (b := true) rfl rfl) <| tl_end ?_
  exact tx_loop rfl (back (rw := []) (sl := [(18, _)]) 0 0 3 rfl rfl rfl ⟨rfl, trivial⟩ trivial rfl rfl)
 ·
  refine Gf rfl rfl rfl rfl <| Gf rfl rfl rfl rfl <| V rfl (y_pick (b := false) rfl rfl) <| tl_end ?_
  exact tx_loop rfl (back (rw := []) (sl := [(18, _)]) 0 0 3 rfl rfl rfl ⟨rfl, trivial⟩ trivial rfl rfl)
 refine V rfl (y_as rfl) <| go rfl <| t_ret ?_
 refine tx_end rfl (ret (res1 rfl (rv_t rfl)) fun hI => ⟨?_, rfl⟩)
 grind [rightL]

theorem c_syntax_Config {I : Imm} (c : Conf) (Ap Aq Ar : Option Addr) (cp cq cr : Nat) (hc : c.Ok I Ap Aq Ar) : PAt Try.prog I 28 [.agg #[.int .i64 c.size, .int .i64 c.cells, .int .i64 c.sa, .int .i64 c.sb, .slice Ap c.parts.length cp, .slice Aq c.pre.length cq, .slice Ar c.post.length cr, .bool c.flag]] (.bool (rightSyn c)) := by
 refine pat_of fun L => fn_enter Try.func28 rfl rfl rfl ?_
 refine sr ?_
 refine Ef (e_box 0 rfl rfl rfl rfl rfl rfl fun b0 => ?_)
 refine V rfl (y_as rfl) <| go rfl <| sr <| V rfl (y_fal rfl fo25_6 rfl) <| V rfl (y_ld (i := 0) rfl rfl rfl tc23) <| V rfl (y_lens Try.underlying23 rfl) <| V rfl (y_eq rfl rfl) <| V rfl (y_mv rfl) ?_
 refine' Jn 8 12 4 rfl (fun h1 => ?_) (fun h1 => ?_) _ rfl ?_
 rotate_left 2
 ·
  refine Gt rfl rfl <| V rfl (y_fal rfl fo25_2 rfl) <| Gt rfl rfl <| V rfl (y_ld (i := 0) rfl rfl rfl tc3) <| Gt rfl rfl <| V rfl (y_eq rfl rfl) <| V rfl (y_pick (b := true) rfl rfl) <| tl_end ?_
  exact tx_loop rfl (back (rw := []) (sl := [(12, _)]) 0 0 4 rfl rfl rfl ⟨rfl, trivial⟩ trivial rfl rfl)
 ·
  refine Gf rfl rfl rfl rfl <| Gf rfl rfl rfl rfl <| Gf rfl rfl rfl rfl <| V rfl (y_pick (b := false) rfl rfl) <| tl_end ?_
  exact tx_loop rfl (back (rw := []) (sl := [(12, _)]) 0 0 4 rfl rfl rfl ⟨rfl, trivial⟩ trivial rfl rfl)
 refine V rfl (y_mv rfl) ?_
 refine' Jn 13 17 4 rfl (fun h2 => ?_) (fun h2 => ?_) _ rfl ?_
 rotate_left 2
 ·
  refine Gt rfl rfl <| V rfl (y_fal rfl fo25_3 rfl) <| Gt rfl rfl <| V rfl (y_ld (i := 0) rfl rfl rfl tc3) <| Gt rfl rfl <| V rfl (y_eq rfl rfl) <| V rfl (y_pick (b := true) rfl rfl) <| tl_end ?_
  exact tx_loop rfl (back (rw := []) (sl := [(17, _)]) 0 0 4 rfl rfl rfl ⟨rfl, trivial⟩ trivial rfl rfl)
 ·
  refine Gf rfl rfl rfl rfl <| Gf rfl rfl rfl rfl <| Gf rfl rfl rfl rfl <| V rfl (y_pick (b := false) rfl rfl) <| tl_end ?_
  exact tx_loop rfl (back (rw := []) (sl := [(17, _)]) 0 0 4 rfl rfl rfl ⟨rfl, trivial⟩ trivial rfl rfl)
 refine V rfl (y_as rfl) <| go rfl <| sr <| V rfl (y_fal rfl fo25_5 rfl) <| V rfl (y_ld (i := 0) rfl rfl rfl tc23) ?_
 refine Ef (e_call rfl en40 rfl (c_syntax_Right _ _ _ _ hc.pre hc.okq hc.szq) ?_)
 refine V rfl (y_mv rfl) ?_
 refine' Jn 21 25 4 rfl (fun h3 => ?_) (fun h3 => ?_) _ rfl ?_
 rotate_left 2
 ·
  refine Gt rfl rfl <| V rfl (y_fal rfl fo25_6 rfl) <| Gt rfl rfl <| V rfl (y_ld (i := 0) rfl rfl rfl tc23) <| Gt rfl rfl ?_
  refine Ef (e_call rfl en40 rfl (c_syntax_Right _ _ _ _ hc.post hc.okr hc.szr) ?_)
  refine V rfl (y_pick (b := true) rfl rfl) <| tl_end ?_
  exact tx_loop rfl (back (rw := []) (sl := [(25, _)]) 0 0 4 rfl rfl rfl ⟨rfl, trivial⟩ trivial rfl rfl)
 ·
  refine Gf rfl rfl rfl rfl <| Gf rfl rfl rfl rfl <| Gf rfl rfl rfl rfl <| V rfl (y_pick (b := false) rfl rfl) <| tl_end ?_
  exact tx_loop rfl (back (rw := []) (sl := [(25, _)]) 0 0 4 rfl rfl rfl ⟨rfl, trivial⟩ trivial rfl rfl)
 refine V rfl (y_mv rfl) ?_
 refine' Jn 26 32 6 rfl (fun h4 => ?_) (fun h4 => ?_) _ rfl ?_
 rotate_left 2
 ·
  refine Gt rfl rfl <| V rfl (y_fal rfl fo25_7 rfl) <| Gt rfl rfl <| V rfl (y_ld (i := 0) rfl rfl rfl tc4) <| Gt rfl rfl <| V rfl (y_mv rfl) ?_
  refine' Jn 29 31 2 rfl (fun h5 => ?_) (fun h5 => ?_) _ rfl ?_
  rotate_left 2
  ·
   refine Gf rfl rfl rfl rfl <| Gt rfl rfl <| V rfl (y_pick (b := true) rfl rfl) <| tl_end ?_
   exact tx_loop rfl (back (rw := []) (sl := [(31, _)]) 0 0 2 rfl rfl rfl ⟨rfl, trivial⟩ trivial rfl rfl)
  ·
   refine Gt rfl rfl <| V rfl (y_mv rfl) <| Gt rfl rfl <| V rfl (y_pick (b := false) rfl rfl) <| tl_end ?_
   exact tx_loop rfl (back (rw := []) (sl := [(31, _)]) 0 0 2 rfl rfl rfl ⟨rfl, trivial⟩ trivial rfl rfl)
  refine V rfl (y_pick (b := true) rfl rfl) <| tl_end ?_
  exact tx_loop rfl (back (rw := []) (sl := [(32, _)]) 0 0 5 rfl rfl rfl ⟨rfl, trivial⟩ trivial rfl rfl)
 ·
  refine Gf rfl rfl rfl rfl <| Gf rfl rfl rfl rfl <| Gf rfl rfl rfl rfl <| Gu rfl rfl rfl <| Gf rfl rfl rfl rfl <| V rfl (y_pick (b := false) rfl rfl) <| tl_end ?_
  exact tx_loop rfl (back (rw := []) (sl := [(32, _)]) 0 0 6 rfl rfl rfl ⟨rfl, trivial⟩ trivial rfl rfl)
 refine V rfl (y_as rfl) <| go rfl <| t_ret ?_
 refine tx_end rfl (ret (res1 rfl (rv_t rfl)) fun hI => ⟨?_, rfl⟩)
 grind [rightSyn]

theorem c_check_Check_1 {I : Imm} (n m : Int)  : PAt Try.prog I 29 [.int .i64 n, .int .i64 m] (.bool (inM n m)) := by
 refine pat_of fun L => fn_enter Try.func29 rfl rfl rfl ?_
 refine sr <| V rfl (y_as rfl) <| go rfl <| sr <| V rfl (y_mv rfl) <| V rfl (y_ge rfl rfl) <| V rfl (y_mv rfl) ?_
 refine' Jn 7 11 4 rfl (fun h1 => ?_) (fun h1 => ?_) _ rfl ?_
 rotate_left 2
 ·
  refine Gt rfl rfl <| V rfl (y_mv rfl) <| Gt rfl rfl <| V rfl (y_mv rfl) <| Gt rfl rfl <| V rfl (y_le rfl rfl) <| V rfl (y_pick (b := true) rfl rfl) <| tl_end ?_
  exact tx_loop rfl (back (rw := []) (sl := [(11, _)]) 0 0 4 rfl rfl rfl ⟨rfl, trivial⟩ trivial rfl rfl)
 ·
  refine Gf rfl rfl rfl rfl <| Gf rfl rfl rfl rfl <| Gf rfl rfl rfl rfl <| V rfl (y_pick (b := false) rfl rfl) <| tl_end ?_
  exact tx_loop rfl (back (rw := []) (sl := [(11, _)]) 0 0 4 rfl rfl rfl ⟨rfl, trivial⟩ trivial rfl rfl)
 refine V rfl (y_as rfl) <| go rfl <| t_ret ?_
 refine tx_end rfl (ret (res1 rfl (rv_t rfl)) fun hI => ⟨?_, rfl⟩)
 grind [inM]

theorem c_check_Check {I : Imm} (c : Conf) (Ap Aq Ar : Option Addr) (cp cq cr : Nat) (hc : c.Ok I Ap Aq Ar) : PAt Try.prog I 10 [.agg #[.int .i64 c.size, .int .i64 c.cells, .int .i64 c.sa, .int .i64 c.sb, .slice Ap c.parts.length cp, .slice Aq c.pre.length cq, .slice Ar c.post.length cr, .bool c.flag]] (.int .i64 (checkE c)) := by
 refine pat_of fun L => fn_enter Try.func10 rfl rfl rfl ?_
 refine sr ?_
 refine Ef (e_box 0 rfl rfl rfl rfl rfl rfl fun b0 => ?_)
 refine V rfl (y_as rfl) <| go rfl <| t_seq <| sr <| V rfl (y_lda (i := 0) rfl rfl ta25 rfl) ?_
 refine Ef (e_call rfl en28 rfl (c_syntax_Config _ _ _ _ _ _ _ hc) ?_)
 refine V rfl (y_not rfl) <| go rfl ?_
 refine If rfl (fun h1 => ?_) (fun h1 => ?_)
 ·
  refine sr <| V rfl (y_as rfl) <| go rfl <| t_ret ?_
  refine tx_end rfl (ret (res1 rfl (rv_t rfl)) fun hI => ⟨?_, rfl⟩)
  first | (exact (congrArg (Value.int .i64) (checkE_lim c (by simp_all) k (by omega) (by simp_all))).symm) | grind [checkE]
 ·
  refine skipgo rfl <| sr <| V rfl (y_as rfl) <| go rfl <| t_seq <| sr <| V rfl (y_fal rfl fo25_0 rfl) <| V rfl (y_ld (i := 0) rfl rfl rfl tc3) <| V rfl (y_build (vs := [_, _]) rfl bp65 rfl) <| V rfl (y_fal rfl fo25_2 rfl) ?_
  refine V rfl (y_ld (i := 0) rfl rfl rfl tc3) <| V rfl (y_build (vs := [_, _]) rfl bp65 rfl) <| V rfl (y_fal rfl fo25_1 rfl) <| V rfl (y_ld (i := 0) rfl rfl rfl tc3) <| V rfl (y_build (vs := [_, _]) rfl bp65 rfl) <| V rfl (y_fal rfl fo25_3 rfl) <| V rfl (y_ld (i := 0) rfl rfl rfl tc3) <| V rfl (y_build (vs := [_, _]) rfl bp65 rfl) <| V rfl (y_build (vs := [_, _, _, _, _, _, _, _]) rfl bp66 rfl) <| V rfl (y_mv rfl) ?_
  refine go rfl <| t_block ?_
  refine t_loopG (α := Nat) (fun (k : Nat) => I) (fun (k : Nat) => []) (fun (k : Nat) => [(23, .int .i64 (k : Int))]) (fun (k : Nat) => k ≤ 4 ∧ ∀ j < k, inM (lim c j).1 (lim c j).2 = true) (fun (k : Nat) => 4 - k) 0 ?_ ?_ ?_ ?_ ?_
  · exact ⟨by omega, fun j hj => absurd hj (by omega)⟩
  · rfl
  · exact ⟨rfl, trivial⟩
  · exact trivial
  intro k hinv
  obtain ⟨hk, hall⟩ := hinv
  have hlim := lim_all c
  refine sr <| V rfl (y_lt rfl rfl) <| go rfl <| t_seq ?_
  refine If rfl (fun h2 => ?_) (fun h2 => ?_)
  ·
   refine skipgo rfl <| t_seq <| t_block <| sr <| V rfl (y_iva (vs := [.int .i64 ((lim c k).1), .int .i64 ((lim c k).2)]) rfl rfl Try.underlying66 ta65 (by omega) (by omega) (by rcases (by omega : k = 0 ∨ k = 1 ∨ k = 2 ∨ k = 3) with rfl | rfl | rfl | rfl <;> rfl)) ?_
   refine Ef (e_alloc 1 rfl Try.zeroValue65 rfl rfl rfl rfl fun b1 => ?_)
   refine Ef (e_sta 1 rfl rfl rfl rfl rfl rfl ta65 ?_)
   refine go rfl <| sr <| V rfl (y_mv rfl) <| V rfl (y_ial rfl ia65_0 rfl) <| V rfl (y_ld (i := 1) rfl rfl rfl tc3) <| V rfl (y_ial rfl ia65_1 rfl) <| V rfl (y_ld (i := 1) rfl rfl rfl tc3) ?_
   refine Ef (e_callv rfl rfl en29 rfl (c_check_Check_1 _ _) ?_)
   refine V rfl (y_not rfl) <| go rfl ?_
   refine If rfl (fun h3 => ?_) (fun h3 => ?_)
   ·
    refine sr <| V rfl (y_as rfl) <| go rfl <| t_ret ?_
    refine tx_end rfl (ret (res1 rfl (rv_t rfl)) fun hI => ⟨?_, rfl⟩)
    first | (exact (congrArg (Value.int .i64) (checkE_lim c (by simp_all) k (by omega) (by simp_all))).symm) | grind [checkE]
   ·
    refine skipgo rfl <| t_region <| V rfl (y_add rfl rfl (by omega)) <| V rfl (y_mv rfl) <| tl_end ?_
    refine tx_loop rfl (again (k + 1) 1 2 14 ?_ ?_ rfl rfl rfl rfl ?_ ?_ rfl rfl rfl)
    · omega
    · exact ⟨by omega, fun j hj => by rcases Nat.lt_or_eq_of_le (Nat.le_of_lt_succ hj) with h | rfl <;> first | exact hall j h | simp_all⟩
    · exact ⟨rfl, trivial⟩
    · exact trivial
  ·
   refine exitgo rfl <| t_seq <| sr <| V rfl (y_fal rfl fo25_4 rfl) <| V rfl (y_ld (i := 0) rfl rfl rfl tc22) ?_
   refine Ef (e_call rfl en30 rfl (c_parts_Right _ _ _ hc.parts hc.kinds) ?_)
   refine V rfl (y_as rfl) <| go rfl <| sr <| V rfl (y_mv rfl) <| V rfl (y_ne rfl rfl) <| go rfl ?_
   refine If rfl (fun h4 => ?_) (fun h4 => ?_)
   ·
    refine sr <| V rfl (y_mv rfl) <| V rfl (y_as rfl) <| go rfl <| t_ret ?_
    refine tx_end rfl (ret (res1 rfl (rv_t rfl)) fun hI => ⟨?_, rfl⟩)
    first | (exact (congrArg (Value.int .i64) (checkE_lim c (by simp_all) k (by omega) (by simp_all))).symm) | grind [checkE]
   ·
    refine skipgo rfl <| t_seq <| t_seq <| t_quiet rfl (by kernel_rfl) <| W rfl (y_fal rfl fo25_4 rfl) <| W rfl (y_ld (i := 0) rfl rfl rfl tc22) <| W rfl (y_lens Try.underlying22 rfl) <| W rfl (y_fal rfl fo25_0 rfl) <| W rfl (y_ld (i := 0) rfl rfl rfl tc3) ?_
    refine W rfl (y_shl rfl rfl (by have h0 := lim_all c (fun j hj => hall j (by omega)); simp [inM] at h0; omega) (by have h0 := lim_all c (fun j hj => hall j (by omega)); simp [inM] at h0; omega) (pow2_two _) (by have h0 := lim_all c (fun j hj => hall j (by omega)); simp [inM] at h0; have hq := pow_le (n := c.size) (by omega); omega)) ?_
    refine W rfl (y_gt rfl rfl) <| goq rfl ?_
    refine If rfl (fun h5 => ?_) (fun h5 => ?_)
    ·
     refine sr <| V rfl (y_as rfl) <| go rfl <| t_ret ?_
     refine tx_end rfl (ret (res1 rfl (rv_t rfl)) fun hI => ⟨?_, rfl⟩)
     first | (exact (congrArg (Value.int .i64) (checkE_lim c (by simp_all) k (by omega) (by simp_all))).symm) | grind [checkE]
    ·
     refine skipgo rfl <| sr <| V rfl (y_as rfl) <| go rfl <| t_ret ?_
     refine tx_end rfl (ret (res1 rfl (rv_t rfl)) fun hI => ⟨?_, rfl⟩)
     first | (exact (congrArg (Value.int .i64) (checkE_lim c (by simp_all) k (by omega) (by simp_all))).symm) | grind [checkE]

end Go.Proofs.Ytngdkgddeobiiaa
