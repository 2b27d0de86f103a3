/- Walks, printed by my gen.py: ref15_within, ref15_Class, ref15_Right, code_shapeOf, code_Right_1, code_Right, syntax_plain, syntax_condition, ref19_plain, ref19_condition. -/
import Derived.Test.YtngdkgddeobiiaaFacts
import Derived.Test.YtngdkgddeobiiaaPCode
namespace Go.Proofs.Ytngdkgddeobiiaa
open Go Go.TL Go.RowKit
set_option maxRecDepth 100000


theorem c_ref15_within {I : Imm} (n a b : Int)  : PAt Try.prog I 132 [.int .i64 n, .int .i64 a, .int .i64 b] (.bool (bet n a b)) := by
 refine pat_of fun L => fn_enter Try.func132 rfl rfl rfl ?_
 refine sr <| V rfl (y_as rfl) <| go rfl <| sr <| V rfl (y_mv rfl) <| V rfl (y_mv rfl) <| V rfl (y_ge rfl rfl) <| V rfl (y_mv rfl) ?_
 refine' Jn 10 14 4 rfl (fun h1 => ?_) (fun h1 => ?_) _ rfl ?_
 rotate_left 2
 ·
  refine Gt rfl rfl <| V rfl (y_mv rfl) <| Gt rfl rfl <| V rfl (y_mv rfl) <| Gt rfl rfl <| V rfl (y_le rfl rfl) <| V rfl (y_pick (b := true) rfl rfl) <| tl_end ?_
  exact tx_loop rfl (back (rw := []) (sl := [(14, _)]) 0 0 4 rfl rfl rfl ⟨rfl, trivial⟩ trivial rfl rfl)
 ·
  refine Gf rfl rfl rfl rfl <| Gf rfl rfl rfl rfl <| Gf rfl rfl rfl rfl <| V rfl (y_pick (b := false) rfl rfl) <| tl_end ?_
  exact tx_loop rfl (back (rw := []) (sl := [(14, _)]) 0 0 4 rfl rfl rfl ⟨rfl, trivial⟩ trivial rfl rfl)
 refine V rfl (y_as rfl) <| go rfl <| t_ret ?_
 refine tx_end rfl (ret (res1 rfl (rv_t rfl)) fun hI => ⟨?_, rfl⟩)
 grind [bet]

theorem c_ref15_Class {I : Imm} (o : Int)  : PAt Try.prog I 131 [.int .u8 o] (.int .i64 (cls o)) := by
 refine pat_of fun L => fn_enter Try.func131 rfl rfl rfl ?_
 refine sr <| V rfl (y_as rfl) <| go rfl <| t_seq <| t_block <| sr <| V rfl (y_mv rfl) <| V rfl (y_eq rfl rfl) <| V rfl (y_mv rfl) ?_
 refine' Jn 6 9 3 rfl (fun h1 => ?_) (fun h1 => ?_) _ rfl ?_
 rotate_left 2
 ·
  refine Gf rfl rfl rfl rfl <| Gf rfl rfl rfl rfl <| V rfl (y_pick (b := true) rfl rfl) <| tl_end ?_
  exact tx_loop rfl (back (rw := []) (sl := [(9, _)]) 0 0 3 rfl rfl rfl ⟨rfl, trivial⟩ trivial rfl rfl)
 ·
  refine Gt rfl rfl <| V rfl (y_mv rfl) <| Gt rfl rfl <| V rfl (y_eq rfl rfl) <| V rfl (y_pick (b := false) rfl rfl) <| tl_end ?_
  exact tx_loop rfl (back (rw := []) (sl := [(9, _)]) 0 0 3 rfl rfl rfl ⟨rfl, trivial⟩ trivial rfl rfl)
 refine V rfl (y_mv rfl) ?_
 refine' Jn 10 13 3 rfl (fun h2 => ?_) (fun h2 => ?_) _ rfl ?_
 rotate_left 2
 ·
  refine Gf rfl rfl rfl rfl <| Gf rfl rfl rfl rfl <| V rfl (y_pick (b := true) rfl rfl) <| tl_end ?_
  exact tx_loop rfl (back (rw := []) (sl := [(13, _)]) 0 0 3 rfl rfl rfl ⟨rfl, trivial⟩ trivial rfl rfl)
 ·
  refine Gt rfl rfl <| V rfl (y_mv rfl) <| Gt rfl rfl <| V rfl (y_eq rfl rfl) <| V rfl (y_pick (b := false) rfl rfl) <| tl_end ?_
  exact tx_loop rfl (back (rw := []) (sl := [(13, _)]) 0 0 3 rfl rfl rfl ⟨rfl, trivial⟩ trivial rfl rfl)
 refine V rfl (y_mv rfl) ?_
 refine' Jn 14 17 3 rfl (fun h3 => ?_) (fun h3 => ?_) _ rfl ?_
 rotate_left 2
 ·
  refine Gf rfl rfl rfl rfl <| Gf rfl rfl rfl rfl <| V rfl (y_pick (b := true) rfl rfl) <| tl_end ?_
  exact tx_loop rfl (back (rw := []) (sl := [(17, _)]) 0 0 3 rfl rfl rfl ⟨rfl, trivial⟩ trivial rfl rfl)
 ·
  refine Gt rfl rfl <| V rfl (y_mv rfl) <| Gt rfl rfl <| V rfl (y_eq rfl rfl) <| V rfl (y_pick (b := false) rfl rfl) <| tl_end ?_
  exact tx_loop rfl (back (rw := []) (sl := [(17, _)]) 0 0 3 rfl rfl rfl ⟨rfl, trivial⟩ trivial rfl rfl)
 refine V rfl (y_as rfl) <| go rfl ?_
 refine If rfl (fun h4 => ?_) (fun h4 => ?_)
 ·
  refine sr <| V rfl (y_as rfl) <| go rfl <| t_ret ?_
  refine tx_end rfl (ret (res1 rfl (rv_t rfl)) fun hI => ⟨?_, rfl⟩)
  grind [cls]
 ·
  refine sr <| V rfl (y_mv rfl) <| V rfl (y_eq rfl rfl) <| V rfl (y_as rfl) <| go rfl ?_
  refine If rfl (fun h5 => ?_) (fun h5 => ?_)
  ·
   refine sr <| V rfl (y_as rfl) <| go rfl <| t_ret ?_
   refine tx_end rfl (ret (res1 rfl (rv_t rfl)) fun hI => ⟨?_, rfl⟩)
   grind [cls]
  ·
   refine sr <| V rfl (y_mv rfl) <| V rfl (y_eq rfl rfl) <| V rfl (y_as rfl) <| go rfl ?_
   refine If rfl (fun h6 => ?_) (fun h6 => ?_)
   ·
    refine sr <| V rfl (y_as rfl) <| go rfl <| t_ret ?_
    refine tx_end rfl (ret (res1 rfl (rv_t rfl)) fun hI => ⟨?_, rfl⟩)
    grind [cls]
   ·
    refine sr <| V rfl (y_mv rfl) <| V rfl (y_le rfl rfl) <| V rfl (y_as rfl) <| go rfl ?_
    refine If rfl (fun h7 => ?_) (fun h7 => ?_)
    ·
     refine sr <| V rfl (y_as rfl) <| go rfl <| t_ret ?_
     refine tx_end rfl (ret (res1 rfl (rv_t rfl)) fun hI => ⟨?_, rfl⟩)
     grind [cls]
    ·
     refine sr <| V rfl (y_mv rfl) <| V rfl (y_le rfl rfl) <| V rfl (y_as rfl) <| go rfl ?_
     refine If rfl (fun h8 => ?_) (fun h8 => ?_)
     ·
      refine sr <| V rfl (y_as rfl) <| go rfl <| t_ret ?_
      refine tx_end rfl (ret (res1 rfl (rv_t rfl)) fun hI => ⟨?_, rfl⟩)
      grind [cls]
     ·
      refine sr <| V rfl (y_mv rfl) <| V rfl (y_eq rfl rfl) <| V rfl (y_as rfl) <| go rfl ?_
      refine If rfl (fun h9 => ?_) (fun h9 => ?_)
      ·
       refine sr <| V rfl (y_as rfl) <| go rfl <| t_ret ?_
       refine tx_end rfl (ret (res1 rfl (rv_t rfl)) fun hI => ⟨?_, rfl⟩)
       grind [cls]
      ·
       refine sr <| V rfl (y_mv rfl) <| V rfl (y_eq rfl rfl) <| V rfl (y_as rfl) <| go rfl ?_
       refine If rfl (fun h10 => ?_) (fun h10 => ?_)
       ·
        refine sr <| V rfl (y_as rfl) <| go rfl <| t_ret ?_
        refine tx_end rfl (ret (res1 rfl (rv_t rfl)) fun hI => ⟨?_, rfl⟩)
        grind [cls]
       ·
        refine sr <| V rfl (y_mv rfl) <| V rfl (y_le rfl rfl) <| V rfl (y_as rfl) <| go rfl ?_
        refine If rfl (fun h11 => ?_) (fun h11 => ?_)
        ·
         refine sr <| V rfl (y_as rfl) <| go rfl <| t_ret ?_
         refine tx_end rfl (ret (res1 rfl (rv_t rfl)) fun hI => ⟨?_, rfl⟩)
         grind [cls]
        ·
         refine sr <| V rfl (y_mv rfl) <| V rfl (y_eq rfl rfl) <| V rfl (y_as rfl) <| go rfl ?_
         refine If rfl (fun h12 => ?_) (fun h12 => ?_)
         ·
          refine sr <| V rfl (y_as rfl) <| go rfl <| t_ret ?_
          refine tx_end rfl (ret (res1 rfl (rv_t rfl)) fun hI => ⟨?_, rfl⟩)
          grind [cls]
         ·
          refine skipgo rfl <| sr <| V rfl (y_as rfl) <| go rfl <| t_ret ?_
          refine tx_end rfl (ret (res1 rfl (rv_t rfl)) fun hI => ⟨?_, rfl⟩)
          grind [cls]

theorem c_ref15_Right {I : Imm} (i : Ins)  : PAt Try.prog I 126 [.agg #[.int .u8 i.op, .int .i64 i.d, .int .i64 i.s, .int .i64 i.n]] (.int .i64 (insErr i)) := by
 refine pat_of fun L => fn_enter Try.func126 rfl rfl rfl ?_
 refine sr ?_
 refine Ef (e_box 0 rfl rfl rfl rfl rfl rfl fun b0 => ?_)
 refine V rfl (y_as rfl) <| go rfl <| t_seq <| t_quiet rfl (by kernel_rfl) <| W rfl (y_fal rfl fo74_1 rfl) <| W rfl (y_ld (i := 0) rfl rfl rfl tc3) <| W rfl (y_eq rfl rfl) <| W rfl (y_fal rfl fo74_2 rfl) <| W rfl (y_ld (i := 0) rfl rfl rfl tc3) <| W rfl (y_eq rfl rfl) ?_
 refine W rfl (y_fal rfl fo74_3 rfl) <| W rfl (y_ld (i := 0) rfl rfl rfl tc3) <| W rfl (y_eq rfl rfl) <| W rfl (y_as rfl) <| W rfl (y_as rfl) <| W rfl (y_as rfl) <| goq rfl <| sr <| V rfl (y_as rfl) <| go rfl ?_
 refine t_seq <| sr <| V rfl (y_fal rfl fo74_0 rfl) <| V rfl (y_ld (i := 0) rfl rfl rfl tc72) ?_
 refine Ef (e_call rfl en131 rfl (c_ref15_Class _) ?_)
 refine go rfl <| t_block <| sr <| V rfl (y_eq rfl rfl) <| V rfl (y_as rfl) <| go rfl ?_
 refine If rfl (fun h1 => ?_) (fun h1 => ?_)
 ·
  refine t_region <| V rfl (y_mv rfl) <| V rfl (y_mv rfl) ?_
  refine' Jn 22 24 2 rfl (fun h2 => ?_) (fun h2 => ?_) _ rfl ?_
  rotate_left 2
  ·
   refine Gt rfl rfl <| V rfl (y_mv rfl) <| V rfl (y_pick (b := true) rfl rfl) <| tl_end ?_
   exact tx_loop rfl (back (rw := []) (sl := [(24, _)]) 0 0 2 rfl rfl rfl ⟨rfl, trivial⟩ trivial rfl rfl)
  ·
   refine Gf rfl rfl rfl rfl <| V rfl (y_pick (b := false) rfl rfl) <| tl_end ?_
   exact tx_loop rfl (back (rw := []) (sl := [(24, _)]) 0 0 2 rfl rfl rfl ⟨rfl, trivial⟩ trivial rfl rfl)
  refine V rfl (y_mv rfl) ?_
  refine' Jn 25 27 2 rfl (fun h3 => ?_) (fun h3 => ?_) _ rfl ?_
  rotate_left 2
  ·
   refine Gt rfl rfl <| V rfl (y_mv rfl) <| V rfl (y_pick (b := true) rfl rfl) <| tl_end ?_
   exact tx_loop rfl (back (rw := []) (sl := [(27, _)]) 0 0 2 rfl rfl rfl ⟨rfl, trivial⟩ trivial rfl rfl)
  ·
   refine Gf rfl rfl rfl rfl <| V rfl (y_pick (b := false) rfl rfl) <| tl_end ?_
   exact tx_loop rfl (back (rw := []) (sl := [(27, _)]) 0 0 2 rfl rfl rfl ⟨rfl, trivial⟩ trivial rfl rfl)
  refine V rfl (y_as rfl) <| go rfl <| t_seq <| sr <| V rfl (y_mv rfl) <| V rfl (y_not rfl) <| go rfl ?_
  refine If rfl (fun h4 => ?_) (fun h4 => ?_)
  ·
   refine sr <| V rfl (y_as rfl) <| go rfl <| t_ret ?_
   refine tx_end rfl (ret (res1 rfl (rv_t rfl)) fun hI => ⟨?_, rfl⟩)
   grind [insErr, insB]
  ·
   refine skipgo rfl <| sr <| V rfl (y_as rfl) <| go rfl <| t_ret ?_
   refine tx_end rfl (ret (res1 rfl (rv_t rfl)) fun hI => ⟨?_, rfl⟩)
   grind [insErr, insB]
 ·
  refine sr <| V rfl (y_eq rfl rfl) <| V rfl (y_as rfl) <| go rfl ?_
  refine If rfl (fun h5 => ?_) (fun h5 => ?_)
  ·
   refine t_region <| V rfl (y_fal rfl fo74_1 rfl) <| V rfl (y_ld (i := 0) rfl rfl rfl tc3) ?_
   refine Ef (e_call rfl en132 rfl (c_ref15_within _ _ _) ?_)
   refine V rfl (y_mv rfl) ?_
   refine' Jn 33 37 4 rfl (fun h6 => ?_) (fun h6 => ?_) _ rfl ?_
   rotate_left 2
   ·
    refine Gt rfl rfl <| V rfl (y_fal rfl fo74_2 rfl) <| Gt rfl rfl <| V rfl (y_ld (i := 0) rfl rfl rfl tc3) <| Gt rfl rfl ?_
    refine Ef (e_call rfl en132 rfl (c_ref15_within _ _ _) ?_)
    refine V rfl (y_pick (b := true) rfl rfl) <| tl_end ?_
    exact tx_loop rfl (back (rw := []) (sl := [(37, _)]) 0 0 4 rfl rfl rfl ⟨rfl, trivial⟩ trivial rfl rfl)
   ·
    refine Gf rfl rfl rfl rfl <| Gf rfl rfl rfl rfl <| Gf rfl rfl rfl rfl <| V rfl (y_pick (b := false) rfl rfl) <| tl_end ?_
    exact tx_loop rfl (back (rw := []) (sl := [(37, _)]) 0 0 4 rfl rfl rfl ⟨rfl, trivial⟩ trivial rfl rfl)
   refine V rfl (y_mv rfl) ?_
   refine' Jn 38 40 2 rfl (fun h7 => ?_) (fun h7 => ?_) _ rfl ?_
   rotate_left 2
   ·
    refine Gt rfl rfl <| V rfl (y_mv rfl) <| V rfl (y_pick (b := true) rfl rfl) <| tl_end ?_
    exact tx_loop rfl (back (rw := []) (sl := [(40, _)]) 0 0 2 rfl rfl rfl ⟨rfl, trivial⟩ trivial rfl rfl)
   ·
    refine Gf rfl rfl rfl rfl <| V rfl (y_pick (b := false) rfl rfl) <| tl_end ?_
    exact tx_loop rfl (back (rw := []) (sl := [(40, _)]) 0 0 2 rfl rfl rfl ⟨rfl, trivial⟩ trivial rfl rfl)
   refine V rfl (y_as rfl) <| go rfl <| t_seq <| sr <| V rfl (y_mv rfl) <| V rfl (y_not rfl) <| go rfl ?_
   refine If rfl (fun h8 => ?_) (fun h8 => ?_)
   ·
    refine sr <| V rfl (y_as rfl) <| go rfl <| t_ret ?_
    refine tx_end rfl (ret (res1 rfl (rv_t rfl)) fun hI => ⟨?_, rfl⟩)
    grind [insErr, insB]
   ·
    refine skipgo rfl <| sr <| V rfl (y_as rfl) <| go rfl <| t_ret ?_
    refine tx_end rfl (ret (res1 rfl (rv_t rfl)) fun hI => ⟨?_, rfl⟩)
    grind [insErr, insB]
  ·
   refine sr <| V rfl (y_eq rfl rfl) <| V rfl (y_as rfl) <| go rfl ?_
   refine If rfl (fun h9 => ?_) (fun h9 => ?_)
   ·
    refine t_region <| V rfl (y_fal rfl fo74_1 rfl) <| V rfl (y_ld (i := 0) rfl rfl rfl tc3) ?_
    refine Ef (e_call rfl en132 rfl (c_ref15_within _ _ _) ?_)
    refine V rfl (y_mv rfl) ?_
    refine' Jn 46 48 2 rfl (fun h10 => ?_) (fun h10 => ?_) _ rfl ?_
    rotate_left 2
    ·
     refine Gt rfl rfl <| V rfl (y_mv rfl) <| V rfl (y_pick (b := true) rfl rfl) <| tl_end ?_
     exact tx_loop rfl (back (rw := []) (sl := [(48, _)]) 0 0 2 rfl rfl rfl ⟨rfl, trivial⟩ trivial rfl rfl)
    ·
     refine Gf rfl rfl rfl rfl <| V rfl (y_pick (b := false) rfl rfl) <| tl_end ?_
     exact tx_loop rfl (back (rw := []) (sl := [(48, _)]) 0 0 2 rfl rfl rfl ⟨rfl, trivial⟩ trivial rfl rfl)
    refine V rfl (y_mv rfl) ?_
    refine' Jn 49 53 4 rfl (fun h11 => ?_) (fun h11 => ?_) _ rfl ?_
    rotate_left 2
    ·
     refine Gt rfl rfl <| V rfl (y_fal rfl fo74_3 rfl) <| Gt rfl rfl <| V rfl (y_ld (i := 0) rfl rfl rfl tc3) <| Gt rfl rfl ?_
     refine Ef (e_call rfl en132 rfl (c_ref15_within _ _ _) ?_)
     refine V rfl (y_pick (b := true) rfl rfl) <| tl_end ?_
     exact tx_loop rfl (back (rw := []) (sl := [(53, _)]) 0 0 4 rfl rfl rfl ⟨rfl, trivial⟩ trivial rfl rfl)
    ·
     refine Gf rfl rfl rfl rfl <| Gf rfl rfl rfl rfl <| Gf rfl rfl rfl rfl <| V rfl (y_pick (b := false) rfl rfl) <| tl_end ?_
     exact tx_loop rfl (back (rw := []) (sl := [(53, _)]) 0 0 4 rfl rfl rfl ⟨rfl, trivial⟩ trivial rfl rfl)
    refine V rfl (y_as rfl) <| go rfl <| t_seq <| sr <| V rfl (y_mv rfl) <| V rfl (y_not rfl) <| go rfl ?_
    refine If rfl (fun h12 => ?_) (fun h12 => ?_)
    ·
     refine sr <| V rfl (y_as rfl) <| go rfl <| t_ret ?_
     refine tx_end rfl (ret (res1 rfl (rv_t rfl)) fun hI => ⟨?_, rfl⟩)
     grind [insErr, insB]
    ·
     refine skipgo rfl <| sr <| V rfl (y_as rfl) <| go rfl <| t_ret ?_
     refine tx_end rfl (ret (res1 rfl (rv_t rfl)) fun hI => ⟨?_, rfl⟩)
     grind [insErr, insB]
   ·
    refine sr <| V rfl (y_eq rfl rfl) <| V rfl (y_as rfl) <| go rfl ?_
    refine If rfl (fun h13 => ?_) (fun h13 => ?_)
    ·
     refine t_region <| V rfl (y_fal rfl fo74_1 rfl) <| V rfl (y_ld (i := 0) rfl rfl rfl tc3) ?_
     refine Ef (e_call rfl en132 rfl (c_ref15_within _ _ _) ?_)
     refine V rfl (y_mv rfl) ?_
     refine' Jn 59 61 2 rfl (fun h14 => ?_) (fun h14 => ?_) _ rfl ?_
     rotate_left 2
     ·
      refine Gt rfl rfl <| V rfl (y_mv rfl) <| V rfl (y_pick (b := true) rfl rfl) <| tl_end ?_
      exact tx_loop rfl (back (rw := []) (sl := [(61, _)]) 0 0 2 rfl rfl rfl ⟨rfl, trivial⟩ trivial rfl rfl)
     ·
      refine Gf rfl rfl rfl rfl <| V rfl (y_pick (b := false) rfl rfl) <| tl_end ?_
      exact tx_loop rfl (back (rw := []) (sl := [(61, _)]) 0 0 2 rfl rfl rfl ⟨rfl, trivial⟩ trivial rfl rfl)
     refine V rfl (y_mv rfl) ?_
     refine' Jn 62 64 2 rfl (fun h15 => ?_) (fun h15 => ?_) _ rfl ?_
     rotate_left 2
     ·
      refine Gt rfl rfl <| V rfl (y_mv rfl) <| V rfl (y_pick (b := true) rfl rfl) <| tl_end ?_
      exact tx_loop rfl (back (rw := []) (sl := [(64, _)]) 0 0 2 rfl rfl rfl ⟨rfl, trivial⟩ trivial rfl rfl)
     ·
      refine Gf rfl rfl rfl rfl <| V rfl (y_pick (b := false) rfl rfl) <| tl_end ?_
      exact tx_loop rfl (back (rw := []) (sl := [(64, _)]) 0 0 2 rfl rfl rfl ⟨rfl, trivial⟩ trivial rfl rfl)
     refine V rfl (y_as rfl) <| go rfl <| t_seq <| sr <| V rfl (y_mv rfl) <| V rfl (y_not rfl) <| go rfl ?_
     refine If rfl (fun h16 => ?_) (fun h16 => ?_)
     ·
      refine sr <| V rfl (y_as rfl) <| go rfl <| t_ret ?_
      refine tx_end rfl (ret (res1 rfl (rv_t rfl)) fun hI => ⟨?_, rfl⟩)
      grind [insErr, insB]
     ·
      refine skipgo rfl <| sr <| V rfl (y_as rfl) <| go rfl <| t_ret ?_
      refine tx_end rfl (ret (res1 rfl (rv_t rfl)) fun hI => ⟨?_, rfl⟩)
      grind [insErr, insB]
    ·
     refine sr <| V rfl (y_eq rfl rfl) <| V rfl (y_as rfl) <| go rfl ?_
     refine If rfl (fun h17 => ?_) (fun h17 => ?_)
     ·
      refine t_region <| V rfl (y_mv rfl) <| V rfl (y_mv rfl) ?_
      refine' Jn 68 85 17 rfl (fun h18 => ?_) (fun h18 => ?_) _ rfl ?_
      rotate_left 2
      ·
       refine Gt rfl rfl <| V rfl (y_fal rfl fo74_2 rfl) <| Gt rfl rfl <| V rfl (y_ld (i := 0) rfl rfl rfl tc3) <| Gt rfl rfl ?_
       refine Ef (e_call rfl en132 rfl (c_ref15_within _ _ _) ?_)
       refine Gt rfl rfl <| V rfl (y_mv rfl) ?_
       refine' Jn 72 74 2 rfl (fun h19 => ?_) (fun h19 => ?_) _ rfl ?_
       rotate_left 2
       ·
        refine Gt rfl rfl <| V rfl (y_mv rfl) <| Gt rfl rfl <| V rfl (y_pick (b := true) rfl rfl) <| tl_end ?_
        exact tx_loop rfl (back (rw := []) (sl := [(74, _)]) 0 0 2 rfl rfl rfl ⟨rfl, trivial⟩ trivial rfl rfl)
       ·
        refine Gf rfl rfl rfl rfl <| Gt rfl rfl <| V rfl (y_pick (b := false) rfl rfl) <| tl_end ?_
        exact tx_loop rfl (back (rw := []) (sl := [(74, _)]) 0 0 2 rfl rfl rfl ⟨rfl, trivial⟩ trivial rfl rfl)
       refine Gt rfl rfl <| V rfl (y_mv rfl) ?_
       refine' Jn 75 84 9 rfl (fun h20 => ?_) (fun h20 => ?_) _ rfl ?_
       rotate_left 2
       ·
        refine Gf rfl rfl rfl rfl <| Gf rfl rfl rfl rfl <| Gf rfl rfl rfl rfl <| Gf rfl rfl rfl rfl <| Gu rfl rfl rfl <| Gu rfl rfl rfl <| Gu rfl rfl rfl <| Gf rfl rfl rfl rfl <| Gt rfl rfl <| V rfl (y_pick (b := true) rfl rfl) ?_
        refine tl_end ?_
        exact tx_loop rfl (back (rw := []) (sl := [(84, _)]) 0 0 9 rfl rfl rfl ⟨rfl, trivial⟩ trivial rfl rfl)
       ·
        refine Gt rfl rfl <| V rfl (y_fal rfl fo74_2 rfl) <| Gt rfl rfl <| V rfl (y_ld (i := 0) rfl rfl rfl tc3) <| Gt rfl rfl <| V rfl (y_eq rfl rfl) <| Gt rfl rfl <| V rfl (y_mv rfl) ?_
        refine' Jn 79 83 4 rfl (fun h21 => ?_) (fun h21 => ?_) _ rfl ?_
        rotate_left 2
        ·
         refine Gt rfl rfl <| V rfl (y_fal rfl fo74_3 rfl) <| Gt rfl rfl <| V rfl (y_ld (i := 0) rfl rfl rfl tc3) <| Gt rfl rfl ?_
         refine Ef (e_call rfl en132 rfl (c_ref15_within _ _ _) ?_)
         refine Gt rfl rfl <| V rfl (y_pick (b := true) rfl rfl) <| tl_end ?_
         exact tx_loop rfl (back (rw := []) (sl := [(83, _)]) 0 0 4 rfl rfl rfl ⟨rfl, trivial⟩ trivial rfl rfl)
        ·
         refine Gf rfl rfl rfl rfl <| Gf rfl rfl rfl rfl <| Gf rfl rfl rfl rfl <| Gt rfl rfl <| V rfl (y_pick (b := false) rfl rfl) <| tl_end ?_
         exact tx_loop rfl (back (rw := []) (sl := [(83, _)]) 0 0 4 rfl rfl rfl ⟨rfl, trivial⟩ trivial rfl rfl)
        refine Gt rfl rfl <| V rfl (y_pick (b := false) rfl rfl) <| tl_end ?_
        exact tx_loop rfl (back (rw := []) (sl := [(84, _)]) 0 0 6 rfl rfl rfl ⟨rfl, trivial⟩ trivial rfl rfl)
       refine V rfl (y_pick (b := true) rfl rfl) <| tl_end ?_
       exact tx_loop rfl (back (rw := []) (sl := [(85, _)]) 0 0 8 rfl rfl rfl ⟨rfl, trivial⟩ trivial rfl rfl)
      ·
       refine Gf rfl rfl rfl rfl <| Gf rfl rfl rfl rfl <| Gf rfl rfl rfl rfl <| Gf rfl rfl rfl rfl <| Gu rfl rfl rfl <| Gf rfl rfl rfl rfl <| Gf rfl rfl rfl rfl <| Gu rfl rfl rfl <| Gu rfl rfl rfl <| Gu rfl rfl rfl ?_
       refine Gu rfl rfl rfl <| Gu rfl rfl rfl <| Gu rfl rfl rfl <| Gu rfl rfl rfl <| Gu rfl rfl rfl <| Gf rfl rfl rfl rfl <| V rfl (y_pick (b := false) rfl rfl) <| tl_end ?_
       exact tx_loop rfl (back (rw := []) (sl := [(85, _)]) 0 0 17 rfl rfl rfl ⟨rfl, trivial⟩ trivial rfl rfl)
      refine V rfl (y_as rfl) <| go rfl <| t_seq <| sr <| V rfl (y_mv rfl) <| V rfl (y_not rfl) <| go rfl ?_
      refine If rfl (fun h22 => ?_) (fun h22 => ?_)
      ·
       refine sr <| V rfl (y_as rfl) <| go rfl <| t_ret ?_
       refine tx_end rfl (ret (res1 rfl (rv_t rfl)) fun hI => ⟨?_, rfl⟩)
       grind [insErr, insB]
      ·
       refine skipgo rfl <| sr <| V rfl (y_as rfl) <| go rfl <| t_ret ?_
       refine tx_end rfl (ret (res1 rfl (rv_t rfl)) fun hI => ⟨?_, rfl⟩)
       grind [insErr, insB]
     ·
      refine sr <| V rfl (y_eq rfl rfl) <| V rfl (y_as rfl) <| go rfl ?_
      refine If rfl (fun h23 => ?_) (fun h23 => ?_)
      ·
       refine t_region <| V rfl (y_fal rfl fo74_1 rfl) <| V rfl (y_ld (i := 0) rfl rfl rfl tc3) ?_
       refine Ef (e_call rfl en132 rfl (c_ref15_within _ _ _) ?_)
       refine V rfl (y_mv rfl) ?_
       refine' Jn 91 93 2 rfl (fun h24 => ?_) (fun h24 => ?_) _ rfl ?_
       rotate_left 2
       ·
        refine Gt rfl rfl <| V rfl (y_mv rfl) <| V rfl (y_pick (b := true) rfl rfl) <| tl_end ?_
        exact tx_loop rfl (back (rw := []) (sl := [(93, _)]) 0 0 2 rfl rfl rfl ⟨rfl, trivial⟩ trivial rfl rfl)
       ·
        refine Gf rfl rfl rfl rfl <| V rfl (y_pick (b := false) rfl rfl) <| tl_end ?_
        exact tx_loop rfl (back (rw := []) (sl := [(93, _)]) 0 0 2 rfl rfl rfl ⟨rfl, trivial⟩ trivial rfl rfl)
       refine V rfl (y_mv rfl) ?_
       refine' Jn 94 98 4 rfl (fun h25 => ?_) (fun h25 => ?_) _ rfl ?_
       rotate_left 2
       ·
        refine Gt rfl rfl <| V rfl (y_fal rfl fo74_3 rfl) <| Gt rfl rfl <| V rfl (y_ld (i := 0) rfl rfl rfl tc3) <| Gt rfl rfl ?_
        refine Ef (e_call rfl en132 rfl (c_ref15_within _ _ _) ?_)
        refine V rfl (y_pick (b := true) rfl rfl) <| tl_end ?_
        exact tx_loop rfl (back (rw := []) (sl := [(98, _)]) 0 0 4 rfl rfl rfl ⟨rfl, trivial⟩ trivial rfl rfl)
       ·
        refine Gf rfl rfl rfl rfl <| Gf rfl rfl rfl rfl <| Gf rfl rfl rfl rfl <| V rfl (y_pick (b := false) rfl rfl) <| tl_end ?_
        exact tx_loop rfl (back (rw := []) (sl := [(98, _)]) 0 0 4 rfl rfl rfl ⟨rfl, trivial⟩ trivial rfl rfl)
       refine V rfl (y_as rfl) <| go rfl <| t_seq <| sr <| V rfl (y_mv rfl) <| V rfl (y_not rfl) <| go rfl ?_
       refine If rfl (fun h26 => ?_) (fun h26 => ?_)
       ·
        refine sr <| V rfl (y_as rfl) <| go rfl <| t_ret ?_
        refine tx_end rfl (ret (res1 rfl (rv_t rfl)) fun hI => ⟨?_, rfl⟩)
        grind [insErr, insB]
       ·
        refine skipgo rfl <| sr <| V rfl (y_as rfl) <| go rfl <| t_ret ?_
        refine tx_end rfl (ret (res1 rfl (rv_t rfl)) fun hI => ⟨?_, rfl⟩)
        grind [insErr, insB]
      ·
       refine sr <| V rfl (y_eq rfl rfl) <| V rfl (y_as rfl) <| go rfl ?_
       refine If rfl (fun h27 => ?_) (fun h27 => ?_)
       ·
        refine t_region <| V rfl (y_mv rfl) <| V rfl (y_mv rfl) ?_
        refine' Jn 102 104 2 rfl (fun h28 => ?_) (fun h28 => ?_) _ rfl ?_
        rotate_left 2
        ·
         refine Gt rfl rfl <| V rfl (y_mv rfl) <| V rfl (y_pick (b := true) rfl rfl) <| tl_end ?_
         exact tx_loop rfl (back (rw := []) (sl := [(104, _)]) 0 0 2 rfl rfl rfl ⟨rfl, trivial⟩ trivial rfl rfl)
        ·
         refine Gf rfl rfl rfl rfl <| V rfl (y_pick (b := false) rfl rfl) <| tl_end ?_
         exact tx_loop rfl (back (rw := []) (sl := [(104, _)]) 0 0 2 rfl rfl rfl ⟨rfl, trivial⟩ trivial rfl rfl)
        refine V rfl (y_mv rfl) ?_
        refine' Jn 105 109 4 rfl (fun h29 => ?_) (fun h29 => ?_) _ rfl ?_
        rotate_left 2
        ·
         refine Gt rfl rfl <| V rfl (y_fal rfl fo74_3 rfl) <| Gt rfl rfl <| V rfl (y_ld (i := 0) rfl rfl rfl tc3) <| Gt rfl rfl ?_
         refine Ef (e_call rfl en132 rfl (c_ref15_within _ _ _) ?_)
         refine V rfl (y_pick (b := true) rfl rfl) <| tl_end ?_
         exact tx_loop rfl (back (rw := []) (sl := [(109, _)]) 0 0 4 rfl rfl rfl ⟨rfl, trivial⟩ trivial rfl rfl)
        ·
         refine Gf rfl rfl rfl rfl <| Gf rfl rfl rfl rfl <| Gf rfl rfl rfl rfl <| V rfl (y_pick (b := false) rfl rfl) <| tl_end ?_
         exact tx_loop rfl (back (rw := []) (sl := [(109, _)]) 0 0 4 rfl rfl rfl ⟨rfl, trivial⟩ trivial rfl rfl)
        refine V rfl (y_as rfl) <| go rfl <| t_seq <| sr <| V rfl (y_mv rfl) <| V rfl (y_not rfl) <| go rfl ?_
        refine If rfl (fun h30 => ?_) (fun h30 => ?_)
        ·
         refine sr <| V rfl (y_as rfl) <| go rfl <| t_ret ?_
         refine tx_end rfl (ret (res1 rfl (rv_t rfl)) fun hI => ⟨?_, rfl⟩)
         grind [insErr, insB]
        ·
         refine skipgo rfl <| sr <| V rfl (y_as rfl) <| go rfl <| t_ret ?_
         refine tx_end rfl (ret (res1 rfl (rv_t rfl)) fun hI => ⟨?_, rfl⟩)
         grind [insErr, insB]
       ·
        refine t_seq <| sr <| V rfl (y_eq rfl rfl) <| V rfl (y_as rfl) <| go rfl ?_
        refine If rfl (fun h31 => ?_) (fun h31 => ?_)
        ·
         refine skipgo rfl <| t_ift rfl <| t_region <| V rfl (y_mv rfl) <| V rfl (y_mv rfl) ?_
         refine' Jn 114 116 2 rfl (fun h32 => ?_) (fun h32 => ?_) _ rfl ?_
         rotate_left 2
         ·
          refine Gt rfl rfl <| V rfl (y_mv rfl) <| V rfl (y_pick (b := true) rfl rfl) <| tl_end ?_
          exact tx_loop rfl (back (rw := []) (sl := [(116, _)]) 0 0 2 rfl rfl rfl ⟨rfl, trivial⟩ trivial rfl rfl)
         ·
          refine Gf rfl rfl rfl rfl <| V rfl (y_pick (b := false) rfl rfl) <| tl_end ?_
          exact tx_loop rfl (back (rw := []) (sl := [(116, _)]) 0 0 2 rfl rfl rfl ⟨rfl, trivial⟩ trivial rfl rfl)
         refine V rfl (y_mv rfl) ?_
         refine' Jn 117 121 4 rfl (fun h33 => ?_) (fun h33 => ?_) _ rfl ?_
         rotate_left 2
         ·
          refine Gt rfl rfl <| V rfl (y_fal rfl fo74_3 rfl) <| Gt rfl rfl <| V rfl (y_ld (i := 0) rfl rfl rfl tc3) <| Gt rfl rfl ?_
          refine Ef (e_call rfl en132 rfl (c_ref15_within _ _ _) ?_)
          refine V rfl (y_pick (b := true) rfl rfl) <| tl_end ?_
          exact tx_loop rfl (back (rw := []) (sl := [(121, _)]) 0 0 4 rfl rfl rfl ⟨rfl, trivial⟩ trivial rfl rfl)
         ·
          refine Gf rfl rfl rfl rfl <| Gf rfl rfl rfl rfl <| Gf rfl rfl rfl rfl <| V rfl (y_pick (b := false) rfl rfl) <| tl_end ?_
          exact tx_loop rfl (back (rw := []) (sl := [(121, _)]) 0 0 4 rfl rfl rfl ⟨rfl, trivial⟩ trivial rfl rfl)
         refine V rfl (y_as rfl) <| go rfl <| t_seq <| sr <| V rfl (y_mv rfl) <| V rfl (y_not rfl) <| go rfl ?_
         refine If rfl (fun h34 => ?_) (fun h34 => ?_)
         ·
          refine sr <| V rfl (y_as rfl) <| go rfl <| t_ret ?_
          refine tx_end rfl (ret (res1 rfl (rv_t rfl)) fun hI => ⟨?_, rfl⟩)
          grind [insErr, insB]
         ·
          refine skipgo rfl <| sr <| V rfl (y_as rfl) <| go rfl <| t_ret ?_
          refine tx_end rfl (ret (res1 rfl (rv_t rfl)) fun hI => ⟨?_, rfl⟩)
          grind [insErr, insB]
        ·
         refine t_region <| V rfl (y_eq rfl rfl) <| V rfl (y_as rfl) <| go rfl ?_
         refine If rfl (fun h35 => ?_) (fun h35 => ?_)
         ·
          refine t_region <| V rfl (y_mv rfl) <| V rfl (y_mv rfl) ?_
          refine' Jn 114 116 2 rfl (fun h36 => ?_) (fun h36 => ?_) _ rfl ?_
          rotate_left 2
          ·
           refine Gt rfl rfl <| V rfl (y_mv rfl) <| V rfl (y_pick (b := true) rfl rfl) <| tl_end ?_
           exact tx_loop rfl (back (rw := []) (sl := [(116, _)]) 0 0 2 rfl rfl rfl ⟨rfl, trivial⟩ trivial rfl rfl)
          ·
           refine Gf rfl rfl rfl rfl <| V rfl (y_pick (b := false) rfl rfl) <| tl_end ?_
           exact tx_loop rfl (back (rw := []) (sl := [(116, _)]) 0 0 2 rfl rfl rfl ⟨rfl, trivial⟩ trivial rfl rfl)
          refine V rfl (y_mv rfl) ?_
          refine' Jn 117 121 4 rfl (fun h37 => ?_) (fun h37 => ?_) _ rfl ?_
          rotate_left 2
          ·
           refine Gt rfl rfl <| V rfl (y_fal rfl fo74_3 rfl) <| Gt rfl rfl <| V rfl (y_ld (i := 0) rfl rfl rfl tc3) <| Gt rfl rfl ?_
           refine Ef (e_call rfl en132 rfl (c_ref15_within _ _ _) ?_)
           refine V rfl (y_pick (b := true) rfl rfl) <| tl_end ?_
           exact tx_loop rfl (back (rw := []) (sl := [(121, _)]) 0 0 4 rfl rfl rfl ⟨rfl, trivial⟩ trivial rfl rfl)
          ·
           refine Gf rfl rfl rfl rfl <| Gf rfl rfl rfl rfl <| Gf rfl rfl rfl rfl <| V rfl (y_pick (b := false) rfl rfl) <| tl_end ?_
           exact tx_loop rfl (back (rw := []) (sl := [(121, _)]) 0 0 4 rfl rfl rfl ⟨rfl, trivial⟩ trivial rfl rfl)
          refine V rfl (y_as rfl) <| go rfl <| t_seq <| sr <| V rfl (y_mv rfl) <| V rfl (y_not rfl) <| go rfl ?_
          refine If rfl (fun h38 => ?_) (fun h38 => ?_)
          ·
           refine sr <| V rfl (y_as rfl) <| go rfl <| t_ret ?_
           refine tx_end rfl (ret (res1 rfl (rv_t rfl)) fun hI => ⟨?_, rfl⟩)
           grind [insErr, insB]
          ·
           refine skipgo rfl <| sr <| V rfl (y_as rfl) <| go rfl <| t_ret ?_
           refine tx_end rfl (ret (res1 rfl (rv_t rfl)) fun hI => ⟨?_, rfl⟩)
           grind [insErr, insB]
         ·
          refine skipgo rfl <| t_seq <| sr <| V rfl (y_mv rfl) <| V rfl (y_not rfl) <| go rfl <| t_ift rfl <| sr <| V rfl (y_as rfl) <| go rfl ?_
          refine t_ret ?_
          refine tx_end rfl (ret (res1 rfl (rv_t rfl)) fun hI => ⟨?_, rfl⟩)
          grind [insErr, insB]

theorem c_code_shapeOf {I : Imm} (o : Int)  : PAt Try.prog I 77 [.int .u8 o] (.agg #[.bool ((shapeOf o).known), .int .i64 ((shapeOf o).place), .bool ((shapeOf o).src), .bool ((shapeOf o).operand), .bool ((shapeOf o).number), .bool ((shapeOf o).jump), .bool ((shapeOf o).long)]) := by
 refine pat_of fun L => fn_enter Try.func77 rfl rfl rfl ?_
 refine sr ?_
 refine Ef (e_alloc 0 rfl Try.zeroValue139 rfl rfl rfl rfl fun b0 => ?_)
 refine go rfl <| t_seq <| t_block <| sr <| V rfl (y_mv rfl) <| V rfl (y_eq rfl rfl) <| V rfl (y_mv rfl) ?_
 refine' Jn 6 13 7 rfl (fun h1 => ?_) (fun h1 => ?_) _ rfl ?_
 rotate_left 2
 ·
  refine Gf rfl rfl rfl rfl <| Gf rfl rfl rfl rfl <| Gf rfl rfl rfl rfl <| Gu rfl rfl rfl <| Gu rfl rfl rfl <| Gf rfl rfl rfl rfl <| V rfl (y_pick (b := true) rfl rfl) <| tl_end ?_
  exact tx_loop rfl (back (rw := []) (sl := [(13, _)]) 0 0 7 rfl rfl rfl ⟨rfl, trivial⟩ trivial rfl rfl)
 ·
  refine Gt rfl rfl <| V rfl (y_mv rfl) <| Gt rfl rfl <| V rfl (y_ge rfl rfl) <| Gt rfl rfl <| V rfl (y_mv rfl) ?_
  refine' Jn 9 12 3 rfl (fun h2 => ?_) (fun h2 => ?_) _ rfl ?_
  rotate_left 2
  ·
   refine Gt rfl rfl <| V rfl (y_mv rfl) <| Gt rfl rfl <| V rfl (y_le rfl rfl) <| Gt rfl rfl <| V rfl (y_pick (b := true) rfl rfl) <| tl_end ?_
   exact tx_loop rfl (back (rw := []) (sl := [(12, _)]) 0 0 3 rfl rfl rfl ⟨rfl, trivial⟩ trivial rfl rfl)
  ·
   refine Gf rfl rfl rfl rfl <| Gf rfl rfl rfl rfl <| Gt rfl rfl <| V rfl (y_pick (b := false) rfl rfl) <| tl_end ?_
   exact tx_loop rfl (back (rw := []) (sl := [(12, _)]) 0 0 3 rfl rfl rfl ⟨rfl, trivial⟩ trivial rfl rfl)
  refine V rfl (y_pick (b := false) rfl rfl) <| tl_end ?_
  exact tx_loop rfl (back (rw := []) (sl := [(13, _)]) 0 0 5 rfl rfl rfl ⟨rfl, trivial⟩ trivial rfl rfl)
 refine V rfl (y_as rfl) <| go rfl ?_
 refine If rfl (fun h3 => ?_) (fun h3 => ?_)
 ·
  refine sr <| V rfl (y_build (vs := [_, _, _, _, _, _, _]) rfl bp139 rfl) ?_
  refine Ef (e_sta 0 rfl rfl rfl rfl rfl rfl ta139 ?_)
  refine go rfl <| t_ret ?_
  refine tx_end rfl (ret (res1 rfl (rv_a (i := 0) rfl rfl ta139 rfl)) fun hI => ⟨?_, rfl⟩)
  grind [shapeOf]
 ·
  refine sr <| V rfl (y_mv rfl) <| V rfl (y_eq rfl rfl) <| V rfl (y_as rfl) <| go rfl ?_
  refine If rfl (fun h4 => ?_) (fun h4 => ?_)
  ·
   refine sr <| V rfl (y_build (vs := [_, _, _, _, _, _, _]) rfl bp139 rfl) ?_
   refine Ef (e_sta 0 rfl rfl rfl rfl rfl rfl ta139 ?_)
   refine go rfl <| t_ret ?_
   refine tx_end rfl (ret (res1 rfl (rv_a (i := 0) rfl rfl ta139 rfl)) fun hI => ⟨?_, rfl⟩)
   grind [shapeOf]
  ·
   refine sr <| V rfl (y_mv rfl) <| V rfl (y_eq rfl rfl) <| V rfl (y_as rfl) <| go rfl ?_
   refine If rfl (fun h5 => ?_) (fun h5 => ?_)
   ·
    refine sr <| V rfl (y_build (vs := [_, _, _, _, _, _, _]) rfl bp139 rfl) ?_
    refine Ef (e_sta 0 rfl rfl rfl rfl rfl rfl ta139 ?_)
    refine go rfl <| t_ret ?_
    refine tx_end rfl (ret (res1 rfl (rv_a (i := 0) rfl rfl ta139 rfl)) fun hI => ⟨?_, rfl⟩)
    grind [shapeOf]
   ·
    refine sr <| V rfl (y_mv rfl) <| V rfl (y_le rfl rfl) <| V rfl (y_as rfl) <| go rfl ?_
    refine If rfl (fun h6 => ?_) (fun h6 => ?_)
    ·
     refine sr <| V rfl (y_build (vs := [_, _, _, _, _, _, _]) rfl bp139 rfl) ?_
     refine Ef (e_sta 0 rfl rfl rfl rfl rfl rfl ta139 ?_)
     refine go rfl <| t_ret ?_
     refine tx_end rfl (ret (res1 rfl (rv_a (i := 0) rfl rfl ta139 rfl)) fun hI => ⟨?_, rfl⟩)
     grind [shapeOf]
    ·
     refine sr <| V rfl (y_mv rfl) <| V rfl (y_le rfl rfl) <| V rfl (y_as rfl) <| go rfl ?_
     refine If rfl (fun h7 => ?_) (fun h7 => ?_)
     ·
      refine sr <| V rfl (y_build (vs := [_, _, _, _, _, _, _]) rfl bp139 rfl) ?_
      refine Ef (e_sta 0 rfl rfl rfl rfl rfl rfl ta139 ?_)
      refine go rfl <| t_ret ?_
      refine tx_end rfl (ret (res1 rfl (rv_a (i := 0) rfl rfl ta139 rfl)) fun hI => ⟨?_, rfl⟩)
      grind [shapeOf]
     ·
      refine sr <| V rfl (y_mv rfl) <| V rfl (y_eq rfl rfl) <| V rfl (y_as rfl) <| go rfl ?_
      refine If rfl (fun h8 => ?_) (fun h8 => ?_)
      ·
       refine sr <| V rfl (y_build (vs := [_, _, _, _, _, _, _]) rfl bp139 rfl) ?_
       refine Ef (e_sta 0 rfl rfl rfl rfl rfl rfl ta139 ?_)
       refine go rfl <| t_ret ?_
       refine tx_end rfl (ret (res1 rfl (rv_a (i := 0) rfl rfl ta139 rfl)) fun hI => ⟨?_, rfl⟩)
       grind [shapeOf]
      ·
       refine sr <| V rfl (y_mv rfl) <| V rfl (y_eq rfl rfl) <| V rfl (y_as rfl) <| go rfl ?_
       refine If rfl (fun h9 => ?_) (fun h9 => ?_)
       ·
        refine sr <| V rfl (y_build (vs := [_, _, _, _, _, _, _]) rfl bp139 rfl) ?_
        refine Ef (e_sta 0 rfl rfl rfl rfl rfl rfl ta139 ?_)
        refine go rfl <| t_ret ?_
        refine tx_end rfl (ret (res1 rfl (rv_a (i := 0) rfl rfl ta139 rfl)) fun hI => ⟨?_, rfl⟩)
        grind [shapeOf]
       ·
        refine sr <| V rfl (y_mv rfl) <| V rfl (y_le rfl rfl) <| V rfl (y_as rfl) <| go rfl ?_
        refine If rfl (fun h10 => ?_) (fun h10 => ?_)
        ·
         refine sr <| V rfl (y_build (vs := [_, _, _, _, _, _, _]) rfl bp139 rfl) ?_
         refine Ef (e_sta 0 rfl rfl rfl rfl rfl rfl ta139 ?_)
         refine go rfl <| t_ret ?_
         refine tx_end rfl (ret (res1 rfl (rv_a (i := 0) rfl rfl ta139 rfl)) fun hI => ⟨?_, rfl⟩)
         grind [shapeOf]
        ·
         refine sr <| V rfl (y_mv rfl) <| V rfl (y_eq rfl rfl) <| V rfl (y_as rfl) <| go rfl ?_
         refine If rfl (fun h11 => ?_) (fun h11 => ?_)
         ·
          refine sr <| V rfl (y_build (vs := [_, _, _, _, _, _, _]) rfl bp139 rfl) ?_
          refine Ef (e_sta 0 rfl rfl rfl rfl rfl rfl ta139 ?_)
          refine go rfl <| t_ret ?_
          refine tx_end rfl (ret (res1 rfl (rv_a (i := 0) rfl rfl ta139 rfl)) fun hI => ⟨?_, rfl⟩)
          grind [shapeOf]
         ·
          refine skipgo rfl <| sr <| V rfl (y_build (vs := [_, _, _, _, _, _, _]) rfl bp139 rfl) ?_
          refine Ef (e_sta 0 rfl rfl rfl rfl rfl rfl ta139 ?_)
          refine go rfl <| t_ret ?_
          refine tx_end rfl (ret (res1 rfl (rv_a (i := 0) rfl rfl ta139 rfl)) fun hI => ⟨?_, rfl⟩)
          grind [shapeOf]

theorem c_code_Right_1 {I : Imm} (n m : Int) (b : Bool)  : PAt Try.prog I 106 [.int .i64 n, .int .i64 m, .bool b] (.bool (inC n m b)) := by
 refine pat_of fun L => fn_enter Try.func106 rfl rfl rfl ?_
 refine sr <| V rfl (y_as rfl) <| go rfl <| t_seq <| sr <| V rfl (y_mv rfl) <| V rfl (y_not rfl) <| go rfl ?_
 refine If rfl (fun h1 => ?_) (fun h1 => ?_)
 ·
  refine t_region <| V rfl (y_as rfl) <| go rfl <| sr <| V rfl (y_mv rfl) <| V rfl (y_ge rfl rfl) <| V rfl (y_mv rfl) ?_
  refine' Jn 11 15 4 rfl (fun h2 => ?_) (fun h2 => ?_) _ rfl ?_
  rotate_left 2
  ·
   refine Gt rfl rfl <| V rfl (y_mv rfl) <| Gt rfl rfl <| V rfl (y_mv rfl) <| Gt rfl rfl <| V rfl (y_le rfl rfl) <| V rfl (y_pick (b := true) rfl rfl) <| tl_end ?_
   exact tx_loop rfl (back (rw := []) (sl := [(15, _)]) 0 0 4 rfl rfl rfl ⟨rfl, trivial⟩ trivial rfl rfl)
  ·
   refine Gf rfl rfl rfl rfl <| Gf rfl rfl rfl rfl <| Gf rfl rfl rfl rfl <| V rfl (y_pick (b := false) rfl rfl) <| tl_end ?_
   exact tx_loop rfl (back (rw := []) (sl := [(15, _)]) 0 0 4 rfl rfl rfl ⟨rfl, trivial⟩ trivial rfl rfl)
  refine V rfl (y_as rfl) <| go rfl <| t_ret ?_
  refine tx_end rfl (ret (res1 rfl (rv_t rfl)) fun hI => ⟨?_, rfl⟩)
  grind [inC]
 ·
  refine skipgo rfl <| sr <| V rfl (y_mv rfl) <| V rfl (y_ge rfl rfl) <| V rfl (y_mv rfl) ?_
  refine' Jn 11 15 4 rfl (fun h3 => ?_) (fun h3 => ?_) _ rfl ?_
  rotate_left 2
  ·
   refine Gt rfl rfl <| V rfl (y_mv rfl) <| Gt rfl rfl <| V rfl (y_mv rfl) <| Gt rfl rfl <| V rfl (y_le rfl rfl) <| V rfl (y_pick (b := true) rfl rfl) <| tl_end ?_
   exact tx_loop rfl (back (rw := []) (sl := [(15, _)]) 0 0 4 rfl rfl rfl ⟨rfl, trivial⟩ trivial rfl rfl)
  ·
   refine Gf rfl rfl rfl rfl <| Gf rfl rfl rfl rfl <| Gf rfl rfl rfl rfl <| V rfl (y_pick (b := false) rfl rfl) <| tl_end ?_
   exact tx_loop rfl (back (rw := []) (sl := [(15, _)]) 0 0 4 rfl rfl rfl ⟨rfl, trivial⟩ trivial rfl rfl)
  refine V rfl (y_as rfl) <| go rfl <| t_ret ?_
  refine tx_end rfl (ret (res1 rfl (rv_t rfl)) fun hI => ⟨?_, rfl⟩)
  grind [inC]

set_option maxHeartbeats 1000000 in
theorem c_code_Right {I : Imm} (i : Ins) (hop : 0 ≤ i.op) : PAt Try.prog I 79 [.agg #[.int .u8 i.op, .int .i64 i.d, .int .i64 i.s, .int .i64 i.n]] (.int .i64 (insErr i)) := by
 have hr := rightC_ins i hop
 refine pat_of fun L => fn_enter Try.func79 rfl rfl rfl ?_
 refine sr ?_
 refine Ef (e_box 0 rfl rfl rfl rfl rfl rfl fun b0 => ?_)
 refine V rfl (y_as rfl) <| go rfl <| sr <| V rfl (y_fal rfl fo74_0 rfl) <| V rfl (y_ld (i := 0) rfl rfl rfl tc72) ?_
 refine Ef (e_call rfl en77 rfl (c_code_shapeOf _) ?_)
 refine Ef (e_alloc 1 rfl Try.zeroValue139 rfl rfl rfl rfl fun b1 => ?_)
 refine Ef (e_sta 1 rfl rfl rfl rfl rfl rfl ta139 ?_)
 refine go rfl <| sr <| V rfl (y_as rfl) <| go rfl <| sr <| V rfl (y_fal rfl fo139_4 rfl) <| V rfl (y_ld (i := 1) rfl rfl rfl tc4) <| V rfl (y_mv rfl) ?_
 refine' Jn 13 21 8 rfl (fun h1 => ?_) (fun h1 => ?_) _ rfl ?_
 rotate_left 2
 ·
  refine Gf rfl rfl rfl rfl <| Gf rfl rfl rfl rfl <| Gf rfl rfl rfl rfl <| Gu rfl rfl rfl <| Gu rfl rfl rfl <| Gu rfl rfl rfl <| Gf rfl rfl rfl rfl <| V rfl (y_pick (b := true) rfl rfl) <| tl_end ?_
  exact tx_loop rfl (back (rw := []) (sl := [(21, _)]) 0 0 8 rfl rfl rfl ⟨rfl, trivial⟩ trivial rfl rfl)
 ·
  refine Gt rfl rfl <| V rfl (y_fal rfl fo139_3 rfl) <| Gt rfl rfl <| V rfl (y_ld (i := 1) rfl rfl rfl tc4) <| Gt rfl rfl <| V rfl (y_mv rfl) ?_
  refine' Jn 16 20 4 rfl (fun h2 => ?_) (fun h2 => ?_) _ rfl ?_
  rotate_left 2
  ·
   refine Gt rfl rfl <| V rfl (y_fal rfl fo74_2 rfl) <| Gt rfl rfl <| V rfl (y_ld (i := 0) rfl rfl rfl tc3) <| Gt rfl rfl <| V rfl (y_eq rfl rfl) <| Gt rfl rfl <| V rfl (y_pick (b := true) rfl rfl) <| tl_end ?_
   exact tx_loop rfl (back (rw := []) (sl := [(20, _)]) 0 0 4 rfl rfl rfl ⟨rfl, trivial⟩ trivial rfl rfl)
  ·
   refine Gf rfl rfl rfl rfl <| Gf rfl rfl rfl rfl <| Gf rfl rfl rfl rfl <| Gt rfl rfl <| V rfl (y_pick (b := false) rfl rfl) <| tl_end ?_
   exact tx_loop rfl (back (rw := []) (sl := [(20, _)]) 0 0 4 rfl rfl rfl ⟨rfl, trivial⟩ trivial rfl rfl)
  refine V rfl (y_pick (b := false) rfl rfl) <| tl_end ?_
  exact tx_loop rfl (back (rw := []) (sl := [(21, _)]) 0 0 5 rfl rfl rfl ⟨rfl, trivial⟩ trivial rfl rfl)
 refine V rfl (y_as rfl) <| V rfl (y_as rfl) <| go rfl <| t_seq <| sr <| V rfl (y_fal rfl fo139_5 rfl) <| V rfl (y_ld (i := 1) rfl rfl rfl tc4) <| V rfl (y_mv rfl) ?_
 refine' Jn 24 27 3 rfl (fun h3 => ?_) (fun h3 => ?_) _ rfl ?_
 rotate_left 2
 ·
  refine Gf rfl rfl rfl rfl <| Gf rfl rfl rfl rfl <| V rfl (y_pick (b := true) rfl rfl) <| tl_end ?_
  exact tx_loop rfl (back (rw := []) (sl := [(27, _)]) 0 0 3 rfl rfl rfl ⟨rfl, trivial⟩ trivial rfl rfl)
 ·
  refine Gt rfl rfl <| V rfl (y_fal rfl fo139_6 rfl) <| Gt rfl rfl <| V rfl (y_ld (i := 1) rfl rfl rfl tc4) <| V rfl (y_pick (b := false) rfl rfl) <| tl_end ?_
  exact tx_loop rfl (back (rw := []) (sl := [(27, _)]) 0 0 3 rfl rfl rfl ⟨rfl, trivial⟩ trivial rfl rfl)
 refine go rfl ?_
 refine' JIf2 [5, 6] rfl (fun h4 => ?_) (fun h4 => ?_) ?_ ?_
 rotate_left 4
 ·
  refine t_region <| V rfl (y_as rfl) <| V rfl (y_as rfl) <| tl_end ?_
  exact tx_loop rfl (back (rw := []) (sl := [(5, _), (6, _)]) 0 0 2 rfl rfl rfl ⟨rfl, rfl, trivial⟩ trivial rfl rfl)
 ·
  refine t_skip ?_
  exact tx_loop rfl (back (rw := []) (sl := [(5, _), (6, _)]) 0 0 0 rfl rfl rfl ⟨rfl, rfl, trivial⟩ trivial rfl rfl)
 · rfl
 refine tx_go rfl <| sr <| V rfl (y_as rfl) <| go rfl <| t_seq <| sr <| V rfl (y_fal rfl fo139_3 rfl) <| V rfl (y_ld (i := 1) rfl rfl rfl tc4) <| go rfl ?_
 refine' JIf1 [7] rfl (fun h5 => ?_) (fun h5 => ?_) ?_ ?_
 rotate_left 2
 ·
  refine t_region <| V rfl (y_as rfl) <| tl_end ?_
  exact tx_loop rfl (back (rw := []) (sl := [(7, _)]) 0 0 1 rfl rfl rfl ⟨rfl, trivial⟩ trivial rfl rfl)
 ·
  refine t_skip ?_
  exact tx_loop rfl (back (rw := []) (sl := [(7, _)]) 0 0 0 rfl rfl rfl ⟨rfl, trivial⟩ trivial rfl rfl)
 · rfl
 refine tx_go rfl <| t_seq <| sr <| V rfl (y_fal rfl fo139_0 rfl) <| V rfl (y_ld (i := 1) rfl rfl rfl tc4) <| V rfl (y_not rfl) <| V rfl (y_mv rfl) ?_
 refine Spl 33 rfl (fun h6 => ?_) (fun h6 => ?_)
 ·
  refine Gf rfl rfl rfl rfl <| Gf rfl rfl rfl rfl <| Gf rfl rfl rfl rfl <| Gf rfl rfl rfl rfl <| Gf rfl rfl rfl rfl <| Gf rfl rfl rfl rfl <| Gf rfl rfl rfl rfl <| Gf rfl rfl rfl rfl <| Gf rfl rfl rfl rfl <| Gf rfl rfl rfl rfl ?_
  refine V rfl (y_pick (b := true) rfl rfl) <| V rfl (y_mv rfl) <| Gf rfl rfl rfl rfl <| Gf rfl rfl rfl rfl <| Gf rfl rfl rfl rfl <| Gf rfl rfl rfl rfl <| Gf rfl rfl rfl rfl <| Gf rfl rfl rfl rfl <| Gf rfl rfl rfl rfl <| Gu rfl rfl rfl ?_
  refine Gu rfl rfl rfl <| Gf rfl rfl rfl rfl <| Gf rfl rfl rfl rfl <| Gf rfl rfl rfl rfl <| V rfl (y_pick (b := true) rfl rfl) <| V rfl (y_mv rfl) <| Gf rfl rfl rfl rfl <| Gf rfl rfl rfl rfl <| Gf rfl rfl rfl rfl <| Gf rfl rfl rfl rfl ?_
  refine Gf rfl rfl rfl rfl <| Gf rfl rfl rfl rfl <| Gf rfl rfl rfl rfl <| V rfl (y_pick (b := true) rfl rfl) <| go rfl <| t_ift rfl <| sr <| V rfl (y_as rfl) <| go rfl <| t_ret ?_
  refine tx_end rfl (ret (res1 rfl (rv_t rfl)) fun hI => ⟨?_, rfl⟩)
  grind [insErr, rightC]
 ·
  refine Gt rfl rfl <| V rfl (y_mv rfl) <| Gt rfl rfl <| V rfl (y_fal rfl fo74_1 rfl) <| Gt rfl rfl <| V rfl (y_ld (i := 0) rfl rfl rfl tc3) <| Gt rfl rfl <| V rfl (y_fal rfl fo139_1 rfl) <| Gt rfl rfl <| V rfl (y_ld (i := 1) rfl rfl rfl tc3) ?_
  refine Gt rfl rfl <| V rfl (y_fal rfl fo139_1 rfl) <| Gt rfl rfl <| V rfl (y_ld (i := 1) rfl rfl rfl tc3) <| Gt rfl rfl <| V rfl (y_ge rfl rfl) <| Gt rfl rfl ?_
  refine Ef (e_callv rfl rfl en106 rfl (c_code_Right_1 _ _ _) ?_)
  refine Gt rfl rfl <| V rfl (y_not rfl) <| V rfl (y_pick (b := false) rfl rfl) <| V rfl (y_mv rfl) ?_
  refine Spl 45 rfl (fun h7 => ?_) (fun h7 => ?_)
  ·
   refine Gf rfl rfl rfl rfl <| Gf rfl rfl rfl rfl <| Gf rfl rfl rfl rfl <| Gf rfl rfl rfl rfl <| Gf rfl rfl rfl rfl <| Gf rfl rfl rfl rfl <| Gf rfl rfl rfl rfl <| Gu rfl rfl rfl <| Gu rfl rfl rfl <| Gf rfl rfl rfl rfl ?_
   refine Gf rfl rfl rfl rfl <| Gf rfl rfl rfl rfl <| V rfl (y_pick (b := true) rfl rfl) <| V rfl (y_mv rfl) <| Gf rfl rfl rfl rfl <| Gf rfl rfl rfl rfl <| Gf rfl rfl rfl rfl <| Gf rfl rfl rfl rfl <| Gf rfl rfl rfl rfl <| Gf rfl rfl rfl rfl ?_
   refine Gf rfl rfl rfl rfl <| V rfl (y_pick (b := true) rfl rfl) <| go rfl <| t_ift rfl <| sr <| V rfl (y_as rfl) <| go rfl <| t_ret ?_
   refine tx_end rfl (ret (res1 rfl (rv_t rfl)) fun hI => ⟨?_, rfl⟩)
   grind [insErr, rightC]
  ·
   refine Gt rfl rfl <| V rfl (y_mv rfl) <| Gt rfl rfl <| V rfl (y_fal rfl fo74_2 rfl) <| Gt rfl rfl <| V rfl (y_ld (i := 0) rfl rfl rfl tc3) <| Gt rfl rfl <| V rfl (y_mv rfl) <| Gt rfl rfl <| V rfl (y_fal rfl fo139_2 rfl) ?_
   refine Gt rfl rfl <| V rfl (y_ld (i := 1) rfl rfl rfl tc4) <| Gt rfl rfl <| V rfl (y_mv rfl) ?_
   refine' Jn 52 55 3 rfl (fun h8 => ?_) (fun h8 => ?_) _ rfl ?_
   rotate_left 2
   ·
    refine Gf rfl rfl rfl rfl <| Gf rfl rfl rfl rfl <| Gt rfl rfl <| V rfl (y_pick (b := true) rfl rfl) <| tl_end ?_
    exact tx_loop rfl (back (rw := []) (sl := [(55, _)]) 0 0 3 rfl rfl rfl ⟨rfl, trivial⟩ trivial rfl rfl)
   ·
    refine Gt rfl rfl <| V rfl (y_fal rfl fo139_3 rfl) <| Gt rfl rfl <| V rfl (y_ld (i := 1) rfl rfl rfl tc4) <| Gt rfl rfl <| V rfl (y_pick (b := false) rfl rfl) <| tl_end ?_
    exact tx_loop rfl (back (rw := []) (sl := [(55, _)]) 0 0 3 rfl rfl rfl ⟨rfl, trivial⟩ trivial rfl rfl)
   refine Gt rfl rfl ?_
   refine Ef (e_callv rfl rfl en106 rfl (c_code_Right_1 _ _ _) ?_)
   refine Gt rfl rfl <| V rfl (y_not rfl) <| V rfl (y_pick (b := false) rfl rfl) <| V rfl (y_mv rfl) ?_
   refine Spl 59 rfl (fun h9 => ?_) (fun h9 => ?_)
   ·
    refine Gf rfl rfl rfl rfl <| Gf rfl rfl rfl rfl <| Gf rfl rfl rfl rfl <| Gf rfl rfl rfl rfl <| Gf rfl rfl rfl rfl <| Gf rfl rfl rfl rfl <| Gf rfl rfl rfl rfl <| V rfl (y_pick (b := true) rfl rfl) <| go rfl <| t_ift rfl ?_
    refine sr <| V rfl (y_as rfl) <| go rfl <| t_ret ?_
    refine tx_end rfl (ret (res1 rfl (rv_t rfl)) fun hI => ⟨?_, rfl⟩)
    grind [insErr, rightC]
   ·
    refine Gt rfl rfl <| V rfl (y_mv rfl) <| Gt rfl rfl <| V rfl (y_fal rfl fo74_3 rfl) <| Gt rfl rfl <| V rfl (y_ld (i := 0) rfl rfl rfl tc3) <| Gt rfl rfl <| V rfl (y_mv rfl) <| Gt rfl rfl <| V rfl (y_mv rfl) ?_
    refine Gt rfl rfl ?_
    refine Ef (e_callv rfl rfl en106 rfl (c_code_Right_1 _ _ _) ?_)
    refine Gt rfl rfl <| V rfl (y_not rfl) <| V rfl (y_pick (b := false) rfl rfl) <| go rfl ?_
    refine If rfl (fun h10 => ?_) (fun h10 => ?_)
    ·
     refine sr <| V rfl (y_as rfl) <| go rfl <| t_ret ?_
     refine tx_end rfl (ret (res1 rfl (rv_t rfl)) fun hI => ⟨?_, rfl⟩)
     grind [insErr, rightC]
    ·
     refine skipgo rfl <| sr <| V rfl (y_as rfl) <| go rfl <| t_ret ?_
     refine tx_end rfl (ret (res1 rfl (rv_t rfl)) fun hI => ⟨?_, rfl⟩)
     grind [insErr, rightC]

theorem c_syntax_plain {I : Imm} (i : Ins) (post : Bool) (hop : 0 ≤ i.op) : PAt Try.prog I 100 [.agg #[.int .u8 i.op, .int .i64 i.d, .int .i64 i.s, .int .i64 i.n], .bool post] (.bool (plainB i post)) := by
 refine pat_of fun L => fn_enter Try.func100 rfl rfl rfl ?_
 refine sr ?_
 refine Ef (e_box 0 rfl rfl rfl rfl rfl rfl fun b0 => ?_)
 refine V rfl (y_as rfl) <| go rfl <| t_seq <| t_block <| sr <| V rfl (y_lda (i := 0) rfl rfl ta74 rfl) ?_
 refine Ef (e_call rfl en79 rfl (c_code_Right _ (by omega)) ?_)
 refine V rfl (y_ne rfl rfl) <| V rfl (y_mv rfl) ?_
 refine' Jn 9 13 4 rfl (fun h1 => ?_) (fun h1 => ?_) _ rfl ?_
 rotate_left 2
 ·
  refine Gf rfl rfl rfl rfl <| Gf rfl rfl rfl rfl <| Gf rfl rfl rfl rfl <| V rfl (y_pick (b := true) rfl rfl) <| tl_end ?_
  exact tx_loop rfl (back (rw := []) (sl := [(13, _)]) 0 0 4 rfl rfl rfl ⟨rfl, trivial⟩ trivial rfl rfl)
 ·
  refine Gt rfl rfl <| V rfl (y_fal rfl fo74_0 rfl) <| Gt rfl rfl <| V rfl (y_ld (i := 0) rfl rfl rfl tc72) <| Gt rfl rfl <| V rfl (y_eq rfl rfl) <| V rfl (y_pick (b := false) rfl rfl) <| tl_end ?_
  exact tx_loop rfl (back (rw := []) (sl := [(13, _)]) 0 0 4 rfl rfl rfl ⟨rfl, trivial⟩ trivial rfl rfl)
 refine V rfl (y_mv rfl) ?_
 refine' Jn 14 18 4 rfl (fun h2 => ?_) (fun h2 => ?_) _ rfl ?_
 rotate_left 2
 ·
  refine Gf rfl rfl rfl rfl <| Gf rfl rfl rfl rfl <| Gf rfl rfl rfl rfl <| V rfl (y_pick (b := true) rfl rfl) <| tl_end ?_
  exact tx_loop rfl (back (rw := []) (sl := [(18, _)]) 0 0 4 rfl rfl rfl ⟨rfl, trivial⟩ trivial rfl rfl)
 ·
  refine Gt rfl rfl <| V rfl (y_fal rfl fo74_0 rfl) <| Gt rfl rfl <| V rfl (y_ld (i := 0) rfl rfl rfl tc72) <| Gt rfl rfl <| V rfl (y_ge rfl rfl) <| V rfl (y_pick (b := false) rfl rfl) <| tl_end ?_
  exact tx_loop rfl (back (rw := []) (sl := [(18, _)]) 0 0 4 rfl rfl rfl ⟨rfl, trivial⟩ trivial rfl rfl)
 refine V rfl (y_as rfl) <| go rfl ?_
 refine If rfl (fun h3 => ?_) (fun h3 => ?_)
 ·
  refine sr <| V rfl (y_as rfl) <| go rfl <| t_ret ?_
  refine tx_end rfl (ret (res1 rfl (rv_t rfl)) fun hI => ⟨?_, rfl⟩)
  first | grind [plainB, insErr] | (by_cases h26 : i.op = 26 <;> grind [plainB, insErr])
 ·
  refine sr <| V rfl (y_fal rfl fo74_0 rfl) <| V rfl (y_ld (i := 0) rfl rfl rfl tc72) <| V rfl (y_ge rfl rfl) <| V rfl (y_mv rfl) ?_
  refine' Jn 23 27 4 rfl (fun h4 => ?_) (fun h4 => ?_) _ rfl ?_
  rotate_left 2
  ·
   refine Gt rfl rfl <| V rfl (y_fal rfl fo74_0 rfl) <| Gt rfl rfl <| V rfl (y_ld (i := 0) rfl rfl rfl tc72) <| Gt rfl rfl <| V rfl (y_le rfl rfl) <| V rfl (y_pick (b := true) rfl rfl) <| tl_end ?_
   exact tx_loop rfl (back (rw := []) (sl := [(27, _)]) 0 0 4 rfl rfl rfl ⟨rfl, trivial⟩ trivial rfl rfl)
  ·
   refine Gf rfl rfl rfl rfl <| Gf rfl rfl rfl rfl <| Gf rfl rfl rfl rfl <| V rfl (y_pick (b := false) rfl rfl) <| tl_end ?_
   exact tx_loop rfl (back (rw := []) (sl := [(27, _)]) 0 0 4 rfl rfl rfl ⟨rfl, trivial⟩ trivial rfl rfl)
  refine V rfl (y_as rfl) <| go rfl ?_
  refine If rfl (fun h5 => ?_) (fun h5 => ?_)
  ·
   refine sr <| V rfl (y_as rfl) <| go rfl <| t_ret ?_
   refine tx_end rfl (ret (res1 rfl (rv_t rfl)) fun hI => ⟨?_, rfl⟩)
   first | grind [plainB, insErr] | (by_cases h26 : i.op = 26 <;> grind [plainB, insErr])
  ·
   refine skipgo rfl <| sr <| V rfl (y_mv rfl) <| V rfl (y_mv rfl) ?_
   refine' Jn 29 33 4 rfl (fun h6 => ?_) (fun h6 => ?_) _ rfl ?_
   rotate_left 2
   ·
    refine Gf rfl rfl rfl rfl <| Gf rfl rfl rfl rfl <| Gf rfl rfl rfl rfl <| V rfl (y_pick (b := true) rfl rfl) <| tl_end ?_
    exact tx_loop rfl (back (rw := []) (sl := [(33, _)]) 0 0 4 rfl rfl rfl ⟨rfl, trivial⟩ trivial rfl rfl)
   ·
    refine Gt rfl rfl <| V rfl (y_fal rfl fo74_0 rfl) <| Gt rfl rfl <| V rfl (y_ld (i := 0) rfl rfl rfl tc72) <| Gt rfl rfl <| V rfl (y_ne rfl rfl) <| V rfl (y_pick (b := false) rfl rfl) <| tl_end ?_
    exact tx_loop rfl (back (rw := []) (sl := [(33, _)]) 0 0 4 rfl rfl rfl ⟨rfl, trivial⟩ trivial rfl rfl)
   refine V rfl (y_as rfl) <| go rfl <| t_ret ?_
   refine tx_end rfl (ret (res1 rfl (rv_t rfl)) fun hI => ⟨?_, rfl⟩)
   first | grind [plainB, insErr] | (by_cases h26 : i.op = 26 <;> grind [plainB, insErr])

theorem c_syntax_condition {I : Imm} (c : Cond) (hop : 0 ≤ c.ins.op) : PAt Try.prog I 101 [.agg #[.bool c.not, .int .u8 c.ins.op, .int .i64 c.ins.d, .int .i64 c.ins.s, .int .i64 c.ins.n]] (.bool (condB c)) := by
 refine pat_of fun L => fn_enter Try.func101 rfl rfl rfl ?_
 refine sr ?_
 refine Ef (e_box 0 rfl rfl rfl rfl rfl rfl fun b0 => ?_)
 refine V rfl (y_as rfl) <| go rfl <| sr <| V rfl (y_fal rfl fo76_1 rfl) <| V rfl (y_lda (i := 0) rfl rfl ta74 rfl) ?_
 refine Ef (e_call rfl en79 rfl (c_code_Right _ (by omega)) ?_)
 refine V rfl (y_eq rfl rfl) <| V rfl (y_mv rfl) ?_
 refine' Jn 7 12 5 rfl (fun h1 => ?_) (fun h1 => ?_) _ rfl ?_
 rotate_left 2
 ·
  refine Gt rfl rfl <| V rfl (y_fal rfl fo76_1 rfl) <| Gt rfl rfl <| V rfl (y_fal rfl fo74_0 rfl) <| Gt rfl rfl <| V rfl (y_ld (i := 0) rfl rfl rfl tc72) <| Gt rfl rfl <| V rfl (y_ge rfl rfl) <| V rfl (y_pick (b := true) rfl rfl) <| tl_end ?_
  exact tx_loop rfl (back (rw := []) (sl := [(12, _)]) 0 0 5 rfl rfl rfl ⟨rfl, trivial⟩ trivial rfl rfl)
 ·
  refine Gf rfl rfl rfl rfl <| Gf rfl rfl rfl rfl <| Gf rfl rfl rfl rfl <| Gf rfl rfl rfl rfl <| V rfl (y_pick (b := false) rfl rfl) <| tl_end ?_
  exact tx_loop rfl (back (rw := []) (sl := [(12, _)]) 0 0 5 rfl rfl rfl ⟨rfl, trivial⟩ trivial rfl rfl)
 refine V rfl (y_mv rfl) ?_
 refine' Jn 13 18 5 rfl (fun h2 => ?_) (fun h2 => ?_) _ rfl ?_
 rotate_left 2
 ·
  refine Gt rfl rfl <| V rfl (y_fal rfl fo76_1 rfl) <| Gt rfl rfl <| V rfl (y_fal rfl fo74_0 rfl) <| Gt rfl rfl <| V rfl (y_ld (i := 0) rfl rfl rfl tc72) <| Gt rfl rfl <| V rfl (y_le rfl rfl) <| V rfl (y_pick (b := true) rfl rfl) <| tl_end ?_
  exact tx_loop rfl (back (rw := []) (sl := [(18, _)]) 0 0 5 rfl rfl rfl ⟨rfl, trivial⟩ trivial rfl rfl)
 ·
  refine Gf rfl rfl rfl rfl <| Gf rfl rfl rfl rfl <| Gf rfl rfl rfl rfl <| Gf rfl rfl rfl rfl <| V rfl (y_pick (b := false) rfl rfl) <| tl_end ?_
  exact tx_loop rfl (back (rw := []) (sl := [(18, _)]) 0 0 5 rfl rfl rfl ⟨rfl, trivial⟩ trivial rfl rfl)
 refine V rfl (y_as rfl) <| go rfl <| t_ret ?_
 refine tx_end rfl (ret (res1 rfl (rv_t rfl)) fun hI => ⟨?_, rfl⟩)
 grind [condB, insErr]

theorem c_ref19_plain {I : Imm} (i : Ins) (post : Bool)  : PAt Try.prog I 114 [.agg #[.int .u8 i.op, .int .i64 i.d, .int .i64 i.s, .int .i64 i.n], .bool post] (.bool (plainB i post)) := by
 refine pat_of fun L => fn_enter Try.func114 rfl rfl rfl ?_
 refine sr ?_
 refine Ef (e_box 0 rfl rfl rfl rfl rfl rfl fun b0 => ?_)
 refine V rfl (y_as rfl) <| go rfl <| sr <| V rfl (y_fal rfl fo74_0 rfl) <| V rfl (y_ld (i := 0) rfl rfl rfl tc72) <| V rfl (y_as rfl) <| go rfl <| sr <| V rfl (y_lda (i := 0) rfl rfl ta74 rfl) ?_
 refine Ef (e_call rfl en126 rfl (c_ref15_Right _) ?_)
 refine V rfl (y_eq rfl rfl) <| V rfl (y_mv rfl) ?_
 refine' Jn 11 33 22 rfl (fun h1 => ?_) (fun h1 => ?_) _ rfl ?_
 rotate_left 2
 ·
  refine Gt rfl rfl <| V rfl (y_mv rfl) <| Gt rfl rfl <| V rfl (y_ge rfl rfl) <| Gt rfl rfl <| V rfl (y_mv rfl) ?_
  refine' Jn 14 17 3 rfl (fun h2 => ?_) (fun h2 => ?_) _ rfl ?_
  rotate_left 2
  ·
   refine Gt rfl rfl <| V rfl (y_mv rfl) <| Gt rfl rfl <| V rfl (y_le rfl rfl) <| Gt rfl rfl <| V rfl (y_pick (b := true) rfl rfl) <| tl_end ?_
   exact tx_loop rfl (back (rw := []) (sl := [(17, _)]) 0 0 3 rfl rfl rfl ⟨rfl, trivial⟩ trivial rfl rfl)
  ·
   refine Gf rfl rfl rfl rfl <| Gf rfl rfl rfl rfl <| Gt rfl rfl <| V rfl (y_pick (b := false) rfl rfl) <| tl_end ?_
   exact tx_loop rfl (back (rw := []) (sl := [(17, _)]) 0 0 3 rfl rfl rfl ⟨rfl, trivial⟩ trivial rfl rfl)
  refine Gt rfl rfl <| V rfl (y_mv rfl) ?_
  refine' Jn 18 25 7 rfl (fun h3 => ?_) (fun h3 => ?_) _ rfl ?_
  rotate_left 2
  ·
   refine Gf rfl rfl rfl rfl <| Gf rfl rfl rfl rfl <| Gf rfl rfl rfl rfl <| Gu rfl rfl rfl <| Gu rfl rfl rfl <| Gf rfl rfl rfl rfl <| Gt rfl rfl <| V rfl (y_pick (b := true) rfl rfl) <| tl_end ?_
   exact tx_loop rfl (back (rw := []) (sl := [(25, _)]) 0 0 7 rfl rfl rfl ⟨rfl, trivial⟩ trivial rfl rfl)
  ·
   refine Gt rfl rfl <| V rfl (y_mv rfl) <| Gt rfl rfl <| V rfl (y_ge rfl rfl) <| Gt rfl rfl <| V rfl (y_mv rfl) ?_
   refine' Jn 21 24 3 rfl (fun h4 => ?_) (fun h4 => ?_) _ rfl ?_
   rotate_left 2
   ·
    refine Gt rfl rfl <| V rfl (y_mv rfl) <| Gt rfl rfl <| V rfl (y_le rfl rfl) <| Gt rfl rfl <| V rfl (y_pick (b := true) rfl rfl) <| tl_end ?_
    exact tx_loop rfl (back (rw := []) (sl := [(24, _)]) 0 0 3 rfl rfl rfl ⟨rfl, trivial⟩ trivial rfl rfl)
   ·
    refine Gf rfl rfl rfl rfl <| Gf rfl rfl rfl rfl <| Gt rfl rfl <| V rfl (y_pick (b := false) rfl rfl) <| tl_end ?_
    exact tx_loop rfl (back (rw := []) (sl := [(24, _)]) 0 0 3 rfl rfl rfl ⟨rfl, trivial⟩ trivial rfl rfl)
   refine Gt rfl rfl <| V rfl (y_pick (b := false) rfl rfl) <| tl_end ?_
   exact tx_loop rfl (back (rw := []) (sl := [(25, _)]) 0 0 5 rfl rfl rfl ⟨rfl, trivial⟩ trivial rfl rfl)
  refine Gt rfl rfl <| V rfl (y_mv rfl) ?_
  refine' Jn 26 32 6 rfl (fun h5 => ?_) (fun h5 => ?_) _ rfl ?_
  rotate_left 2
  ·
   refine Gf rfl rfl rfl rfl <| Gf rfl rfl rfl rfl <| Gf rfl rfl rfl rfl <| Gu rfl rfl rfl <| Gf rfl rfl rfl rfl <| Gt rfl rfl <| V rfl (y_pick (b := true) rfl rfl) <| tl_end ?_
   exact tx_loop rfl (back (rw := []) (sl := [(32, _)]) 0 0 6 rfl rfl rfl ⟨rfl, trivial⟩ trivial rfl rfl)
  ·
   refine Gt rfl rfl <| V rfl (y_mv rfl) <| Gt rfl rfl <| V rfl (y_eq rfl rfl) <| Gt rfl rfl <| V rfl (y_mv rfl) ?_
   refine' Jn 29 31 2 rfl (fun h6 => ?_) (fun h6 => ?_) _ rfl ?_
   rotate_left 2
   ·
    refine Gt rfl rfl <| V rfl (y_mv rfl) <| Gt rfl rfl <| V rfl (y_pick (b := true) rfl rfl) <| tl_end ?_
    exact tx_loop rfl (back (rw := []) (sl := [(31, _)]) 0 0 2 rfl rfl rfl ⟨rfl, trivial⟩ trivial rfl rfl)
   ·
    refine Gf rfl rfl rfl rfl <| Gt rfl rfl <| V rfl (y_pick (b := false) rfl rfl) <| tl_end ?_
    exact tx_loop rfl (back (rw := []) (sl := [(31, _)]) 0 0 2 rfl rfl rfl ⟨rfl, trivial⟩ trivial rfl rfl)
   refine Gt rfl rfl <| V rfl (y_pick (b := false) rfl rfl) <| tl_end ?_
   exact tx_loop rfl (back (rw := []) (sl := [(32, _)]) 0 0 5 rfl rfl rfl ⟨rfl, trivial⟩ trivial rfl rfl)
  refine V rfl (y_pick (b := true) rfl rfl) <| tl_end ?_
  exact tx_loop rfl (back (rw := []) (sl := [(33, _)]) 0 0 9 rfl rfl rfl ⟨rfl, trivial⟩ trivial rfl rfl)
 ·
  refine Gf rfl rfl rfl rfl <| Gf rfl rfl rfl rfl <| Gf rfl rfl rfl rfl <| Gu rfl rfl rfl <| Gu rfl rfl rfl <| Gf rfl rfl rfl rfl <| Gf rfl rfl rfl rfl <| Gu rfl rfl rfl <| Gu rfl rfl rfl <| Gu rfl rfl rfl ?_
  refine Gu rfl rfl rfl <| Gu rfl rfl rfl <| Gu rfl rfl rfl <| Gf rfl rfl rfl rfl <| Gf rfl rfl rfl rfl <| Gu rfl rfl rfl <| Gu rfl rfl rfl <| Gu rfl rfl rfl <| Gu rfl rfl rfl <| Gu rfl rfl rfl ?_
  refine Gf rfl rfl rfl rfl <| V rfl (y_pick (b := false) rfl rfl) <| tl_end ?_
  exact tx_loop rfl (back (rw := []) (sl := [(33, _)]) 0 0 22 rfl rfl rfl ⟨rfl, trivial⟩ trivial rfl rfl)
 refine V rfl (y_as rfl) <| go rfl <| t_ret ?_
 refine tx_end rfl (ret (res1 rfl (rv_t rfl)) fun hI => ⟨?_, rfl⟩)
 first | grind [plainB, insErr] | (by_cases h26 : i.op = 26 <;> grind [plainB, insErr])

theorem c_ref19_condition {I : Imm} (c : Cond)  : PAt Try.prog I 115 [.agg #[.bool c.not, .int .u8 c.ins.op, .int .i64 c.ins.d, .int .i64 c.ins.s, .int .i64 c.ins.n]] (.bool (condB c)) := by
 refine pat_of fun L => fn_enter Try.func115 rfl rfl rfl ?_
 refine sr ?_
 refine Ef (e_box 0 rfl rfl rfl rfl rfl rfl fun b0 => ?_)
 refine V rfl (y_as rfl) <| go rfl <| sr <| V rfl (y_fal rfl fo76_1 rfl) <| V rfl (y_lda (i := 0) rfl rfl ta74 rfl) ?_
 refine Ef (e_call rfl en126 rfl (c_ref15_Right _) ?_)
 refine V rfl (y_eq rfl rfl) <| V rfl (y_mv rfl) ?_
 refine' Jn 7 12 5 rfl (fun h1 => ?_) (fun h1 => ?_) _ rfl ?_
 rotate_left 2
 ·
  refine Gt rfl rfl <| V rfl (y_fal rfl fo76_1 rfl) <| Gt rfl rfl <| V rfl (y_fal rfl fo74_0 rfl) <| Gt rfl rfl <| V rfl (y_ld (i := 0) rfl rfl rfl tc72) <| Gt rfl rfl <| V rfl (y_ge rfl rfl) <| V rfl (y_pick (b := true) rfl rfl) <| tl_end ?_
  exact tx_loop rfl (back (rw := []) (sl := [(12, _)]) 0 0 5 rfl rfl rfl ⟨rfl, trivial⟩ trivial rfl rfl)
 ·
  refine Gf rfl rfl rfl rfl <| Gf rfl rfl rfl rfl <| Gf rfl rfl rfl rfl <| Gf rfl rfl rfl rfl <| V rfl (y_pick (b := false) rfl rfl) <| tl_end ?_
  exact tx_loop rfl (back (rw := []) (sl := [(12, _)]) 0 0 5 rfl rfl rfl ⟨rfl, trivial⟩ trivial rfl rfl)
 refine V rfl (y_mv rfl) ?_
 refine' Jn 13 18 5 rfl (fun h2 => ?_) (fun h2 => ?_) _ rfl ?_
 rotate_left 2
 ·
  refine Gt rfl rfl <| V rfl (y_fal rfl fo76_1 rfl) <| Gt rfl rfl <| V rfl (y_fal rfl fo74_0 rfl) <| Gt rfl rfl <| V rfl (y_ld (i := 0) rfl rfl rfl tc72) <| Gt rfl rfl <| V rfl (y_le rfl rfl) <| V rfl (y_pick (b := true) rfl rfl) <| tl_end ?_
  exact tx_loop rfl (back (rw := []) (sl := [(18, _)]) 0 0 5 rfl rfl rfl ⟨rfl, trivial⟩ trivial rfl rfl)
 ·
  refine Gf rfl rfl rfl rfl <| Gf rfl rfl rfl rfl <| Gf rfl rfl rfl rfl <| Gf rfl rfl rfl rfl <| V rfl (y_pick (b := false) rfl rfl) <| tl_end ?_
  exact tx_loop rfl (back (rw := []) (sl := [(18, _)]) 0 0 5 rfl rfl rfl ⟨rfl, trivial⟩ trivial rfl rfl)
 refine V rfl (y_as rfl) <| go rfl <| t_ret ?_
 refine tx_end rfl (ret (res1 rfl (rv_t rfl)) fun hI => ⟨?_, rfl⟩)
 grind [condB, insErr]

end Go.Proofs.Ytngdkgddeobiiaa
