/- Walks, printed by my gen.py: kit_Pick, law21_awake, law21_CheckModel. -/
import Derived.Test.YtngdkgddeobiiaaFacts
import Derived.Test.YtngdkgddeobiiaaPModel
import Derived.Test.YtngdkgddeobiiaaWModel
import Derived.Test.YtngdkgddeobiiaaWKit
import Derived.Test.YtngdkgddeobiiaaAwakeLaw21
namespace Go.Proofs.Ytngdkgddeobiiaa
open Go Go.TL Go.RowKit
set_option maxRecDepth 100000


theorem c_kit_Pick {I : Imm} (x n : Int) (hn : n ≤ 1000000) : PAt Try.prog I 13 [.int .i64 x, .int .i64 n] (.int .i64 (pickI x n)) := by
 refine pat_of fun L => fn_enter Try.func13 rfl rfl rfl ?_
 refine sr <| V rfl (y_as rfl) <| go rfl <| t_seq <| sr <| V rfl (y_mv rfl) <| V rfl (y_lt rfl rfl) <| go rfl ?_
 refine If rfl (fun h1 => ?_) (fun h1 => ?_)
 ·
  refine sr <| V rfl (y_as rfl) <| go rfl <| t_ret ?_
  refine tx_end rfl (ret (res1 rfl (rv_t rfl)) fun hI => ⟨?_, rfl⟩)
  grind [pickI]
 ·
  refine skipgo rfl <| sr <| V rfl (y_mv rfl) <| V rfl (y_mv rfl) <| V rfl (y_rem rfl rfl (by omega)) <| V rfl (y_as rfl) <| go rfl <| t_seq <| sr <| V rfl (y_mv rfl) ?_
  refine V rfl (y_lt rfl rfl) <| go rfl ?_
  refine If rfl (fun h2 => ?_) (fun h2 => ?_)
  ·
   refine t_region <| V rfl (y_mv rfl) <| V rfl (y_mv rfl) <| V rfl (y_add rfl rfl (by have hb := tmod_bd (x := x) (n := n) (by omega); omega)) <| V rfl (y_as rfl) <| go rfl <| sr <| V rfl (y_mv rfl) <| V rfl (y_as rfl) <| go rfl ?_
   refine t_ret ?_
   refine tx_end rfl (ret (res1 rfl (rv_t rfl)) fun hI => ⟨?_, rfl⟩)
   grind [pickI]
  ·
   refine skipgo rfl <| sr <| V rfl (y_mv rfl) <| V rfl (y_as rfl) <| go rfl <| t_ret ?_
   refine tx_end rfl (ret (res1 rfl (rv_t rfl)) fun hI => ⟨?_, rfl⟩)
   grind [pickI]



theorem c_law21_CheckModel {I : Imm} (c : Conf) (Ap Aq Ar : Option Addr) (cp cq cr : Nat) (code post : Int) (hin : c.In I Ap Aq Ar) : PAt Try.prog I 4 [.agg #[.int .i64 c.size, .int .i64 c.cells, .int .i64 c.sa, .int .i64 c.sb, .slice Ap c.parts.length cp, .slice Aq c.pre.length cq, .slice Ar c.post.length cr, .bool c.flag], .int .i64 code, .int .i64 post] (.bool true) := by
 have hp1 := pick_bd (x := code) (n := 4097) (by omega)
 have hp2 := pick_bd (x := post) (n := 4096) (by omega)
 refine pat_of fun L => fn_enter Try.func4 rfl rfl rfl ?_
 refine sr ?_
 refine Ef (e_box 0 rfl rfl rfl rfl rfl rfl fun b0 => ?_)
 refine V rfl (y_as rfl) <| go rfl <| t_seq <| sr <| V rfl (y_lda (i := 0) rfl rfl ta25 rfl) ?_
 refine Ef (e_call rfl en7 rfl (c_law21_great _ _ _ _ _ _ _ hin) ?_)
 refine go rfl ?_
 refine If rfl (fun h1 => ?_) (fun h1 => ?_)
 ·
  refine sr ?_
  refine Ef (e_call rfl en8 rfl c_law21_awake ?_)
  refine V rfl (y_as rfl) <| go rfl <| t_ret ?_
  refine tx_end rfl (ret (res1 rfl (rv_t rfl)) fun hI => ⟨?_, rfl⟩)
  first | rfl | grind [check_model]
 ·
  refine skipgo rfl <| t_seq ?_
  refine t_held [] rfl 16 rfl _ rfl (by kernel_rfl) fun hle hns => ?_
  refine Tk 0 np rfl rfl hns (by kernel_rfl) (by kernel_rfl) (y_fal rfl fo25_0 rfl) hle _ rfl <| Tk 1 np rfl rfl hns (by kernel_rfl) (by kernel_rfl) (y_ld (i := 0) rfl rfl rfl tc3) hle _ rfl <| Tk 2 np rfl rfl hns (by kernel_rfl) (by kernel_rfl) (y_fal rfl fo25_1 rfl) hle _ rfl <| Tk 3 np rfl rfl hns (by kernel_rfl) (by kernel_rfl) (y_ld (i := 0) rfl rfl rfl tc3) hle _ rfl <| Tk 4 np rfl rfl hns (by kernel_rfl) (by kernel_rfl) (y_fal rfl fo25_2 rfl) hle _ rfl <| Tk 5 np rfl rfl hns (by kernel_rfl) (by kernel_rfl) (y_ld (i := 0) rfl rfl rfl tc3) hle _ rfl <| Tk 6 np rfl rfl hns (by kernel_rfl) (by kernel_rfl) (y_fal rfl fo25_3 rfl) hle _ rfl <| Tk 7 np rfl rfl hns (by kernel_rfl) (by kernel_rfl) (y_ld (i := 0) rfl rfl rfl tc3) hle _ rfl <| Tk 8 np rfl rfl hns (by kernel_rfl) (by kernel_rfl) (y_fal rfl fo25_4 rfl) hle _ rfl <| Tk 9 np rfl rfl hns (by kernel_rfl) (by kernel_rfl) (y_ld (i := 0) rfl rfl rfl tc22) hle _ rfl ?_
  refine Tk 10 np rfl rfl hns (by kernel_rfl) (by kernel_rfl) (y_mv rfl) hle _ rfl ?_
  refine On2 11 14 (fun _ _ h => sc_of [] 0 0 (Imm.Le.refl _) rfl rfl rfl h) rfl rfl rfl rfl (by kernel_rfl) _ _ rfl rfl ?_ ?_
  ·
   refine e_call rfl en13 rfl (c_kit_Pick _ _ (by omega)) ?_
   refine On2 12 14 (fun _ _ h => sc_of [] 0 0 (Imm.Le.refl _) rfl rfl rfl h) rfl rfl rfl rfl (by kernel_rfl) _ _ rfl rfl ?_ ?_
   ·
    refine e_mks rfl mk32 rfl rfl (by omega) (by omega) fun bm1 => ?_
    refine Tk 13 np rfl rfl hns (by kernel_rfl) (by kernel_rfl) (y_build (vs := [_, _, _, _, _, _, _]) rfl bp35 rfl) hle _ rfl ?_
    refine On 14 (fun _ _ h => sc_of [] 0 0 (Imm.Le.refl _) rfl rfl rfl h) rfl (by kernel_rfl) _ rfl (e_alloc 1 rfl Try.zeroValue35 rfl rfl rfl rfl fun b1 => ?_)
    refine On 15 (fun _ _ h => sc_of [] 1 1 (Imm.Le.refl _) rfl rfl rfl h) rfl (by kernel_rfl) _ rfl (e_sta 1 rfl rfl rfl rfl rfl rfl ta35 ?_)
    refine th_end (fun _ _ h => sc_of [] 1 2 (Imm.Le.refl _) rfl rfl rfl h) (by kernel_rfl) ?_
    show TX _ _ _ _ _ _ _
    refine tx_go rfl <| t_seq <| sr <| V rfl (y_fal rfl fo25_7 rfl) <| V rfl (y_ld (i := 0) rfl rfl rfl tc4) <| go rfl ?_
    refine If rfl (fun h2 => ?_) (fun h2 => ?_)
    ·
     refine t_region <| V rfl (y_mv rfl) ?_
     refine Ef (e_call rfl en13 rfl (c_kit_Pick _ _ (by omega)) ?_)
     refine V rfl (y_add rfl rfl (by omega)) ?_
     refine Ef (e_mks rfl mk32 rfl rfl (by omega) (by omega) fun bm2 => ?_)
     refine V rfl (y_fal rfl fo35_6 rfl) ?_
     refine Ef (e_st 1 rfl rfl rfl rfl rfl tc32 ?_)
     refine go rfl <| sr <| V rfl (y_lda (i := 0) rfl rfl ta25 rfl) ?_
     refine Ef (e_call rfl en10 rfl (c_check_Check _ _ _ _ _ _ _ (hin.ok (by simp_all))) ?_)
     refine V rfl (y_as rfl) <| go rfl <| t_seq <| sr <| V rfl (y_mv rfl) <| V rfl (y_eq rfl rfl) <| go rfl ?_
     refine If rfl (fun h3 => ?_) (fun h3 => ?_)
     ·
      refine sr ?_
      refine Ef (e_call rfl en8 rfl c_law21_awake ?_)
      refine V rfl (y_as rfl) <| go rfl <| t_ret ?_
      refine tx_end rfl (ret (res1 rfl (rv_t rfl)) fun hI => ⟨?_, rfl⟩)
      first | rfl | grind [check_model]
     ·
      refine skipgo rfl <| sr <| V rfl (y_mv rfl) <| V rfl (y_eq rfl rfl) <| V rfl (y_lda (i := 1) rfl rfl ta35 rfl) ?_
      refine Ef (e_call rfl en14 rfl (c_model_Right _ _ _ _ _ _ _ _ _ _ _ _ _ hin.parts hin.kinds (by have := (hin.ok (by simp_all)).szp; omega)) ?_)
      refine V rfl (y_eq rfl rfl) <| V rfl (y_eqb rfl rfl Try.underlying4) <| V rfl (y_mv rfl) ?_
      refine' Jn 44 46 2 rfl (fun h4 => ?_) (fun h4 => ?_) _ rfl ?_
      rotate_left 2
      ·
       refine Gt rfl rfl ?_
       refine Ef (e_call rfl en8 rfl c_law21_awake ?_)
       refine V rfl (y_pick (b := true) rfl rfl) <| tl_end ?_
       exact tx_loop rfl (back (rw := []) (sl := [(46, _)]) 0 0 2 rfl rfl rfl ⟨rfl, trivial⟩ trivial rfl rfl)
      ·
       refine Gf rfl rfl rfl rfl <| V rfl (y_pick (b := false) rfl rfl) <| tl_end ?_
       exact tx_loop rfl (back (rw := []) (sl := [(46, _)]) 0 0 2 rfl rfl rfl ⟨rfl, trivial⟩ trivial rfl rfl)
      refine V rfl (y_as rfl) <| go rfl <| t_ret ?_
      refine tx_end rfl (ret (res1 rfl (rv_t rfl)) fun hI => ⟨?_, rfl⟩)
      first | rfl | grind [check_model]
    ·
     refine skipgo rfl <| sr <| V rfl (y_lda (i := 0) rfl rfl ta25 rfl) ?_
     refine Ef (e_call rfl en10 rfl (c_check_Check _ _ _ _ _ _ _ (hin.ok (by simp_all))) ?_)
     refine V rfl (y_as rfl) <| go rfl <| t_seq <| sr <| V rfl (y_mv rfl) <| V rfl (y_eq rfl rfl) <| go rfl ?_
     refine If rfl (fun h5 => ?_) (fun h5 => ?_)
     ·
      refine sr ?_
      refine Ef (e_call rfl en8 rfl c_law21_awake ?_)
      refine V rfl (y_as rfl) <| go rfl <| t_ret ?_
      refine tx_end rfl (ret (res1 rfl (rv_t rfl)) fun hI => ⟨?_, rfl⟩)
      first | rfl | grind [check_model]
     ·
      refine skipgo rfl <| sr <| V rfl (y_mv rfl) <| V rfl (y_eq rfl rfl) <| V rfl (y_lda (i := 1) rfl rfl ta35 rfl) ?_
      refine Ef (e_call rfl en14 rfl (c_model_Right _ _ _ _ _ _ _ _ _ _ _ _ _ hin.parts hin.kinds (by have := (hin.ok (by simp_all)).szp; omega)) ?_)
      refine V rfl (y_eq rfl rfl) <| V rfl (y_eqb rfl rfl Try.underlying4) <| V rfl (y_mv rfl) ?_
      refine' Jn 44 46 2 rfl (fun h6 => ?_) (fun h6 => ?_) _ rfl ?_
      rotate_left 2
      ·
       refine Gt rfl rfl ?_
       refine Ef (e_call rfl en8 rfl c_law21_awake ?_)
       refine V rfl (y_pick (b := true) rfl rfl) <| tl_end ?_
       exact tx_loop rfl (back (rw := []) (sl := [(46, _)]) 0 0 2 rfl rfl rfl ⟨rfl, trivial⟩ trivial rfl rfl)
      ·
       refine Gf rfl rfl rfl rfl <| V rfl (y_pick (b := false) rfl rfl) <| tl_end ?_
       exact tx_loop rfl (back (rw := []) (sl := [(46, _)]) 0 0 2 rfl rfl rfl ⟨rfl, trivial⟩ trivial rfl rfl)
      refine V rfl (y_as rfl) <| go rfl <| t_ret ?_
      refine tx_end rfl (ret (res1 rfl (rv_t rfl)) fun hI => ⟨?_, rfl⟩)
      first | rfl | grind [check_model]
   ·
    refine e_alloc 1 rfl Try.zeroValue35 rfl rfl rfl rfl fun b1 => ?_
    refine On 12 (fun _ _ h => sc_of [] 1 1 (Imm.Le.refl _) rfl rfl rfl h) rfl (by kernel_rfl) _ rfl (e_mks rfl mk32 rfl rfl (by omega) (by omega) fun bm3 => ?_)
    refine Tk 13 np rfl rfl hns (by kernel_rfl) (by kernel_rfl) (y_build (vs := [_, _, _, _, _, _, _]) rfl bp35 rfl) hle _ rfl ?_
    refine On 15 (fun _ _ h => sc_of [] 1 1 (Imm.Le.refl _) rfl rfl rfl h) rfl (by kernel_rfl) _ rfl (e_sta 1 rfl rfl rfl rfl rfl rfl ta35 ?_)
    refine th_end (fun _ _ h => sc_of [] 1 2 (Imm.Le.refl _) rfl rfl rfl h) (by kernel_rfl) ?_
    show TX _ _ _ _ _ _ _
    refine tx_go rfl <| t_seq <| sr <| V rfl (y_fal rfl fo25_7 rfl) <| V rfl (y_ld (i := 0) rfl rfl rfl tc4) <| go rfl ?_
    refine If rfl (fun h7 => ?_) (fun h7 => ?_)
    ·
     refine t_region <| V rfl (y_mv rfl) ?_
     refine Ef (e_call rfl en13 rfl (c_kit_Pick _ _ (by omega)) ?_)
     refine V rfl (y_add rfl rfl (by omega)) ?_
     refine Ef (e_mks rfl mk32 rfl rfl (by omega) (by omega) fun bm4 => ?_)
     refine V rfl (y_fal rfl fo35_6 rfl) ?_
     refine Ef (e_st 1 rfl rfl rfl rfl rfl tc32 ?_)
     refine go rfl <| sr <| V rfl (y_lda (i := 0) rfl rfl ta25 rfl) ?_
     refine Ef (e_call rfl en10 rfl (c_check_Check _ _ _ _ _ _ _ (hin.ok (by simp_all))) ?_)
     refine V rfl (y_as rfl) <| go rfl <| t_seq <| sr <| V rfl (y_mv rfl) <| V rfl (y_eq rfl rfl) <| go rfl ?_
     refine If rfl (fun h8 => ?_) (fun h8 => ?_)
     ·
      refine sr ?_
      refine Ef (e_call rfl en8 rfl c_law21_awake ?_)
      refine V rfl (y_as rfl) <| go rfl <| t_ret ?_
      refine tx_end rfl (ret (res1 rfl (rv_t rfl)) fun hI => ⟨?_, rfl⟩)
      first | rfl | grind [check_model]
     ·
      refine skipgo rfl <| sr <| V rfl (y_mv rfl) <| V rfl (y_eq rfl rfl) <| V rfl (y_lda (i := 1) rfl rfl ta35 rfl) ?_
      refine Ef (e_call rfl en14 rfl (c_model_Right _ _ _ _ _ _ _ _ _ _ _ _ _ hin.parts hin.kinds (by have := (hin.ok (by simp_all)).szp; omega)) ?_)
      refine V rfl (y_eq rfl rfl) <| V rfl (y_eqb rfl rfl Try.underlying4) <| V rfl (y_mv rfl) ?_
      refine' Jn 44 46 2 rfl (fun h9 => ?_) (fun h9 => ?_) _ rfl ?_
      rotate_left 2
      ·
       refine Gt rfl rfl ?_
       refine Ef (e_call rfl en8 rfl c_law21_awake ?_)
       refine V rfl (y_pick (b := true) rfl rfl) <| tl_end ?_
       exact tx_loop rfl (back (rw := []) (sl := [(46, _)]) 0 0 2 rfl rfl rfl ⟨rfl, trivial⟩ trivial rfl rfl)
      ·
       refine Gf rfl rfl rfl rfl <| V rfl (y_pick (b := false) rfl rfl) <| tl_end ?_
       exact tx_loop rfl (back (rw := []) (sl := [(46, _)]) 0 0 2 rfl rfl rfl ⟨rfl, trivial⟩ trivial rfl rfl)
      refine V rfl (y_as rfl) <| go rfl <| t_ret ?_
      refine tx_end rfl (ret (res1 rfl (rv_t rfl)) fun hI => ⟨?_, rfl⟩)
      first | rfl | grind [check_model]
    ·
     refine skipgo rfl <| sr <| V rfl (y_lda (i := 0) rfl rfl ta25 rfl) ?_
     refine Ef (e_call rfl en10 rfl (c_check_Check _ _ _ _ _ _ _ (hin.ok (by simp_all))) ?_)
     refine V rfl (y_as rfl) <| go rfl <| t_seq <| sr <| V rfl (y_mv rfl) <| V rfl (y_eq rfl rfl) <| go rfl ?_
     refine If rfl (fun h10 => ?_) (fun h10 => ?_)
     ·
      refine sr ?_
      refine Ef (e_call rfl en8 rfl c_law21_awake ?_)
      refine V rfl (y_as rfl) <| go rfl <| t_ret ?_
      refine tx_end rfl (ret (res1 rfl (rv_t rfl)) fun hI => ⟨?_, rfl⟩)
      first | rfl | grind [check_model]
     ·
      refine skipgo rfl <| sr <| V rfl (y_mv rfl) <| V rfl (y_eq rfl rfl) <| V rfl (y_lda (i := 1) rfl rfl ta35 rfl) ?_
      refine Ef (e_call rfl en14 rfl (c_model_Right _ _ _ _ _ _ _ _ _ _ _ _ _ hin.parts hin.kinds (by have := (hin.ok (by simp_all)).szp; omega)) ?_)
      refine V rfl (y_eq rfl rfl) <| V rfl (y_eqb rfl rfl Try.underlying4) <| V rfl (y_mv rfl) ?_
      refine' Jn 44 46 2 rfl (fun h11 => ?_) (fun h11 => ?_) _ rfl ?_
      rotate_left 2
      ·
       refine Gt rfl rfl ?_
       refine Ef (e_call rfl en8 rfl c_law21_awake ?_)
       refine V rfl (y_pick (b := true) rfl rfl) <| tl_end ?_
       exact tx_loop rfl (back (rw := []) (sl := [(46, _)]) 0 0 2 rfl rfl rfl ⟨rfl, trivial⟩ trivial rfl rfl)
      ·
       refine Gf rfl rfl rfl rfl <| V rfl (y_pick (b := false) rfl rfl) <| tl_end ?_
       exact tx_loop rfl (back (rw := []) (sl := [(46, _)]) 0 0 2 rfl rfl rfl ⟨rfl, trivial⟩ trivial rfl rfl)
      refine V rfl (y_as rfl) <| go rfl <| t_ret ?_
      refine tx_end rfl (ret (res1 rfl (rv_t rfl)) fun hI => ⟨?_, rfl⟩)
      first | rfl | grind [check_model]
  ·
   refine e_alloc 1 rfl Try.zeroValue35 rfl rfl rfl rfl fun b1 => ?_
   refine On 11 (fun _ _ h => sc_of [] 1 1 (Imm.Le.refl _) rfl rfl rfl h) rfl (by kernel_rfl) _ rfl (e_call rfl en13 rfl (c_kit_Pick _ _ (by omega)) ?_)
   refine On 12 (fun _ _ h => sc_of [] 1 1 (Imm.Le.refl _) rfl rfl rfl h) rfl (by kernel_rfl) _ rfl (e_mks rfl mk32 rfl rfl (by omega) (by omega) fun bm5 => ?_)
   refine Tk 13 np rfl rfl hns (by kernel_rfl) (by kernel_rfl) (y_build (vs := [_, _, _, _, _, _, _]) rfl bp35 rfl) hle _ rfl ?_
   refine On 15 (fun _ _ h => sc_of [] 1 1 (Imm.Le.refl _) rfl rfl rfl h) rfl (by kernel_rfl) _ rfl (e_sta 1 rfl rfl rfl rfl rfl rfl ta35 ?_)
   refine th_end (fun _ _ h => sc_of [] 1 2 (Imm.Le.refl _) rfl rfl rfl h) (by kernel_rfl) ?_
   show TX _ _ _ _ _ _ _
   refine tx_go rfl <| t_seq <| sr <| V rfl (y_fal rfl fo25_7 rfl) <| V rfl (y_ld (i := 0) rfl rfl rfl tc4) <| go rfl ?_
   refine If rfl (fun h12 => ?_) (fun h12 => ?_)
   ·
    refine t_region <| V rfl (y_mv rfl) ?_
    refine Ef (e_call rfl en13 rfl (c_kit_Pick _ _ (by omega)) ?_)
    refine V rfl (y_add rfl rfl (by omega)) ?_
    refine Ef (e_mks rfl mk32 rfl rfl (by omega) (by omega) fun bm6 => ?_)
    refine V rfl (y_fal rfl fo35_6 rfl) ?_
    refine Ef (e_st 1 rfl rfl rfl rfl rfl tc32 ?_)
    refine go rfl <| sr <| V rfl (y_lda (i := 0) rfl rfl ta25 rfl) ?_
    refine Ef (e_call rfl en10 rfl (c_check_Check _ _ _ _ _ _ _ (hin.ok (by simp_all))) ?_)
    refine V rfl (y_as rfl) <| go rfl <| t_seq <| sr <| V rfl (y_mv rfl) <| V rfl (y_eq rfl rfl) <| go rfl ?_
    refine If rfl (fun h13 => ?_) (fun h13 => ?_)
    ·
     refine sr ?_
     refine Ef (e_call rfl en8 rfl c_law21_awake ?_)
     refine V rfl (y_as rfl) <| go rfl <| t_ret ?_
     refine tx_end rfl (ret (res1 rfl (rv_t rfl)) fun hI => ⟨?_, rfl⟩)
     first | rfl | grind [check_model]
    ·
     refine skipgo rfl <| sr <| V rfl (y_mv rfl) <| V rfl (y_eq rfl rfl) <| V rfl (y_lda (i := 1) rfl rfl ta35 rfl) ?_
     refine Ef (e_call rfl en14 rfl (c_model_Right _ _ _ _ _ _ _ _ _ _ _ _ _ hin.parts hin.kinds (by have := (hin.ok (by simp_all)).szp; omega)) ?_)
     refine V rfl (y_eq rfl rfl) <| V rfl (y_eqb rfl rfl Try.underlying4) <| V rfl (y_mv rfl) ?_
     refine' Jn 44 46 2 rfl (fun h14 => ?_) (fun h14 => ?_) _ rfl ?_
     rotate_left 2
     ·
      refine Gt rfl rfl ?_
      refine Ef (e_call rfl en8 rfl c_law21_awake ?_)
      refine V rfl (y_pick (b := true) rfl rfl) <| tl_end ?_
      exact tx_loop rfl (back (rw := []) (sl := [(46, _)]) 0 0 2 rfl rfl rfl ⟨rfl, trivial⟩ trivial rfl rfl)
     ·
      refine Gf rfl rfl rfl rfl <| V rfl (y_pick (b := false) rfl rfl) <| tl_end ?_
      exact tx_loop rfl (back (rw := []) (sl := [(46, _)]) 0 0 2 rfl rfl rfl ⟨rfl, trivial⟩ trivial rfl rfl)
     refine V rfl (y_as rfl) <| go rfl <| t_ret ?_
     refine tx_end rfl (ret (res1 rfl (rv_t rfl)) fun hI => ⟨?_, rfl⟩)
     first | rfl | grind [check_model]
   ·
    refine skipgo rfl <| sr <| V rfl (y_lda (i := 0) rfl rfl ta25 rfl) ?_
    refine Ef (e_call rfl en10 rfl (c_check_Check _ _ _ _ _ _ _ (hin.ok (by simp_all))) ?_)
    refine V rfl (y_as rfl) <| go rfl <| t_seq <| sr <| V rfl (y_mv rfl) <| V rfl (y_eq rfl rfl) <| go rfl ?_
    refine If rfl (fun h15 => ?_) (fun h15 => ?_)
    ·
     refine sr ?_
     refine Ef (e_call rfl en8 rfl c_law21_awake ?_)
     refine V rfl (y_as rfl) <| go rfl <| t_ret ?_
     refine tx_end rfl (ret (res1 rfl (rv_t rfl)) fun hI => ⟨?_, rfl⟩)
     first | rfl | grind [check_model]
    ·
     refine skipgo rfl <| sr <| V rfl (y_mv rfl) <| V rfl (y_eq rfl rfl) <| V rfl (y_lda (i := 1) rfl rfl ta35 rfl) ?_
     refine Ef (e_call rfl en14 rfl (c_model_Right _ _ _ _ _ _ _ _ _ _ _ _ _ hin.parts hin.kinds (by have := (hin.ok (by simp_all)).szp; omega)) ?_)
     refine V rfl (y_eq rfl rfl) <| V rfl (y_eqb rfl rfl Try.underlying4) <| V rfl (y_mv rfl) ?_
     refine' Jn 44 46 2 rfl (fun h16 => ?_) (fun h16 => ?_) _ rfl ?_
     rotate_left 2
     ·
      refine Gt rfl rfl ?_
      refine Ef (e_call rfl en8 rfl c_law21_awake ?_)
      refine V rfl (y_pick (b := true) rfl rfl) <| tl_end ?_
      exact tx_loop rfl (back (rw := []) (sl := [(46, _)]) 0 0 2 rfl rfl rfl ⟨rfl, trivial⟩ trivial rfl rfl)
     ·
      refine Gf rfl rfl rfl rfl <| V rfl (y_pick (b := false) rfl rfl) <| tl_end ?_
      exact tx_loop rfl (back (rw := []) (sl := [(46, _)]) 0 0 2 rfl rfl rfl ⟨rfl, trivial⟩ trivial rfl rfl)
     refine V rfl (y_as rfl) <| go rfl <| t_ret ?_
     refine tx_end rfl (ret (res1 rfl (rv_t rfl)) fun hI => ⟨?_, rfl⟩)
     first | rfl | grind [check_model]

end Go.Proofs.Ytngdkgddeobiiaa
