/- Walks, printed by my gen.py: syntax_right, syntax_Right_1, syntax_walk. -/
import Derived.Test.YtngdkgddeobiiaaFacts
import Derived.Test.YtngdkgddeobiiaaPStmt
import Derived.Test.YtngdkgddeobiiaaWCode
namespace Go.Proofs.Ytngdkgddeobiiaa
open Go Go.TL Go.RowKit
set_option maxRecDepth 100000


theorem c_syntax_right {I : Imm} (s : Stmt) (post : Bool) (p : Addr) (Ab : Option Addr) (cb : Nat) (Ae : Option Addr) (ce : Nat) (hc : CellsI I p (s.cells Ab cb Ae ce)) (h1 : 0 ≤ s.ins.op) (h2 : 0 ≤ s.cond.ins.op) (h3 : s.size ≤ 1000000) : PAt Try.prog I 68 [.pointer (some p), .bool post] (.bool (rightS s post)) := by
 have hsz := s.size_eq
 have hl1 := length_sizeL s.body
 have hl2 := length_sizeL s.els
 have hlen : ((s.body.length : Int) + s.els.length = 0) ↔ (s.body.length + s.els.length = 0) := by omega
 have hle2 : ((s.els.length : Int) = 0) ↔ (s.els.length = 0) := by omega
 refine pat_of fun L => fn_enter Try.func68 rfl rfl rfl ?_
 refine sr <| V rfl (y_as rfl) <| go rfl <| t_seq <| t_quiet rfl (by kernel_rfl) <| W rfl (y_mv rfl) <| W rfl (y_nc rfl) <| W rfl (y_fa rfl fo78_2) <| W rfl (y_ldia rfl ta76 rfl (hc.sub 5 5)) <| W rfl (y_build (vs := [_, _, _, _, _]) rfl bp76 rfl) ?_
 refine W rfl (y_eqlst rfl rfl Try.eqGuardType76 (se76 _ _ _ _ _ _ _ _ _ _)) <| W rfl (y_mv rfl) ?_
 refine Splq 12 rfl (fun h1 => ?_) (fun h1 => ?_)
 ·
  try have hxh1 := cond_ext h1
  try have hyh1 := cond_ne h1
  try have hxh1 := ins_ext h1
  try have hyh1 := ins_ne h1
  refine Gtq rfl rfl <| W rfl (y_mv rfl) <| Gtq rfl rfl <| W rfl (y_nc rfl) <| Gtq rfl rfl <| W rfl (y_fa rfl fo78_3) <| Gtq rfl rfl <| W rfl (y_ldi rfl (hc 10 _ rfl) tc23) <| Gtq rfl rfl <| W rfl (y_lens Try.underlying23 rfl) ?_
  refine Gtq rfl rfl <| W rfl (y_mv rfl) <| Gtq rfl rfl <| W rfl (y_nc rfl) <| Gtq rfl rfl <| W rfl (y_fa rfl fo78_4) <| Gtq rfl rfl <| W rfl (y_ldi rfl (hc 11 _ rfl) tc23) <| Gtq rfl rfl <| W rfl (y_lens Try.underlying23 rfl) ?_
  refine Gtq rfl rfl <| W rfl (y_add rfl rfl (by omega)) <| Gtq rfl rfl <| W rfl (y_eq rfl rfl) <| W rfl (y_pick (b := true) rfl rfl) <| W rfl (y_as rfl) <| goq rfl <| t_seq <| sr <| V rfl (y_mv rfl) ?_
  refine V rfl (y_nc rfl) <| V rfl (y_fa rfl fo78_0) <| V rfl (y_ldi rfl (hc 0 _ rfl) tc71) <| go rfl <| t_block <| sr <| V rfl (y_eq rfl rfl) <| V rfl (y_as rfl) <| go rfl ?_
  refine If rfl (fun h2 => ?_) (fun h2 => ?_)
  ·
   try have hxh2 := cond_ext h2
   try have hyh2 := cond_ne h2
   try have hxh2 := ins_ext h2
   try have hyh2 := ins_ne h2
   refine sr <| V rfl (y_mv rfl) <| V rfl (y_mv rfl) ?_
   refine' Jn 33 40 7 rfl (fun h3 => ?_) (fun h3 => ?_) _ rfl ?_
   rotate_left 2
   ·
    try have hxh3 := cond_ext h3
    try have hyh3 := cond_ne h3
    try have hxh3 := ins_ext h3
    try have hyh3 := ins_ne h3
    refine Gt rfl rfl <| V rfl (y_mv rfl) <| Gt rfl rfl <| V rfl (y_nc rfl) <| Gt rfl rfl <| V rfl (y_fa rfl fo78_1) <| Gt rfl rfl <| V rfl (y_ldia rfl ta74 rfl (hc.sub 1 4)) <| Gt rfl rfl <| V rfl (y_mv rfl) ?_
    refine Gt rfl rfl ?_
    refine Ef (e_call rfl en100 rfl (c_syntax_plain _ _ (by omega)) ?_)
    refine V rfl (y_pick (b := true) rfl rfl) <| tl_end ?_
    exact tx_loop rfl (back (rw := []) (sl := [(40, _)]) 0 0 7 rfl rfl rfl ⟨rfl, trivial⟩ trivial rfl rfl)
   ·
    try have hxh3 := cond_ext h3
    try have hyh3 := cond_ne h3
    try have hxh3 := ins_ext h3
    try have hyh3 := ins_ne h3
    refine Gf rfl rfl rfl rfl <| Gf rfl rfl rfl rfl <| Gf rfl rfl rfl rfl <| Gf rfl rfl rfl rfl <| Gf rfl rfl rfl rfl <| Gf rfl rfl rfl rfl <| V rfl (y_pick (b := false) rfl rfl) <| tl_end ?_
    exact tx_loop rfl (back (rw := []) (sl := [(40, _)]) 0 0 7 rfl rfl rfl ⟨rfl, trivial⟩ trivial rfl rfl)
   refine V rfl (y_as rfl) <| go rfl <| t_ret ?_
   refine tx_end rfl (ret (res1 rfl (rv_t rfl)) fun hI => ⟨?_, rfl⟩)
   try simp only [hlen] at *
   try simp only [hle2] at *
   try simp only [ins_zero]
   grind [rightS]
  ·
   try have hxh2 := cond_ext h2
   try have hyh2 := cond_ne h2
   try have hxh2 := ins_ext h2
   try have hyh2 := ins_ne h2
   refine sr <| V rfl (y_eq rfl rfl) <| V rfl (y_as rfl) <| go rfl ?_
   refine If rfl (fun h4 => ?_) (fun h4 => ?_)
   ·
    try have hxh4 := cond_ext h4
    try have hyh4 := cond_ne h4
    try have hxh4 := ins_ext h4
    try have hyh4 := ins_ne h4
    refine sr <| V rfl (y_mv rfl) <| V rfl (y_mv rfl) ?_
    refine' Jn 44 51 7 rfl (fun h5 => ?_) (fun h5 => ?_) _ rfl ?_
    rotate_left 2
    ·
     try have hxh5 := cond_ext h5
     try have hyh5 := cond_ne h5
     try have hxh5 := ins_ext h5
     try have hyh5 := ins_ne h5
     refine Gt rfl rfl <| V rfl (y_mv rfl) <| Gt rfl rfl <| V rfl (y_nc rfl) <| Gt rfl rfl <| V rfl (y_fa rfl fo78_1) <| Gt rfl rfl <| V rfl (y_ldia rfl ta74 rfl (hc.sub 1 4)) <| Gt rfl rfl <| V rfl (y_build (vs := [_, _, _, _]) rfl bp74 rfl) ?_
     refine Gt rfl rfl <| V rfl (y_eqlst rfl rfl Try.eqGuardType74 (se74 _ _ _ _ _ _ _ _)) <| V rfl (y_pick (b := true) rfl rfl) <| tl_end ?_
     exact tx_loop rfl (back (rw := []) (sl := [(51, _)]) 0 0 7 rfl rfl rfl ⟨rfl, trivial⟩ trivial rfl rfl)
    ·
     try have hxh5 := cond_ext h5
     try have hyh5 := cond_ne h5
     try have hxh5 := ins_ext h5
     try have hyh5 := ins_ne h5
     refine Gf rfl rfl rfl rfl <| Gf rfl rfl rfl rfl <| Gf rfl rfl rfl rfl <| Gf rfl rfl rfl rfl <| Gf rfl rfl rfl rfl <| Gf rfl rfl rfl rfl <| V rfl (y_pick (b := false) rfl rfl) <| tl_end ?_
     exact tx_loop rfl (back (rw := []) (sl := [(51, _)]) 0 0 7 rfl rfl rfl ⟨rfl, trivial⟩ trivial rfl rfl)
    refine V rfl (y_as rfl) <| go rfl <| t_ret ?_
    refine tx_end rfl (ret (res1 rfl (rv_t rfl)) fun hI => ⟨?_, rfl⟩)
    try simp only [hlen] at *
    try simp only [hle2] at *
    try simp only [ins_zero]
    grind [rightS]
   ·
    try have hxh4 := cond_ext h4
    try have hyh4 := cond_ne h4
    try have hxh4 := ins_ext h4
    try have hyh4 := ins_ne h4
    refine t_seq <| sr <| V rfl (y_eq rfl rfl) <| V rfl (y_as rfl) <| go rfl ?_
    refine If rfl (fun h6 => ?_) (fun h6 => ?_)
    ·
     try have hxh6 := cond_ext h6
     try have hyh6 := cond_ne h6
     try have hxh6 := ins_ext h6
     try have hyh6 := ins_ne h6
     refine skipgo rfl <| t_ift rfl <| sr <| V rfl (y_mv rfl) <| V rfl (y_nc rfl) <| V rfl (y_fa rfl fo78_1) <| V rfl (y_ldia rfl ta74 rfl (hc.sub 1 4)) <| V rfl (y_build (vs := [_, _, _, _]) rfl bp74 rfl) <| V rfl (y_eqlst rfl rfl Try.eqGuardType74 (se74 _ _ _ _ _ _ _ _)) <| V rfl (y_mv rfl) ?_
     refine' Jn 61 67 6 rfl (fun h7 => ?_) (fun h7 => ?_) _ rfl ?_
     rotate_left 2
     ·
      try have hxh7 := cond_ext h7
      try have hyh7 := cond_ne h7
      try have hxh7 := ins_ext h7
      try have hyh7 := ins_ne h7
      refine Gt rfl rfl <| V rfl (y_mv rfl) <| Gt rfl rfl <| V rfl (y_nc rfl) <| Gt rfl rfl <| V rfl (y_fa rfl fo78_2) <| Gt rfl rfl <| V rfl (y_ldia rfl ta76 rfl (hc.sub 5 5)) <| Gt rfl rfl ?_
      refine Ef (e_call rfl en101 rfl (c_syntax_condition _ (by omega)) ?_)
      refine V rfl (y_pick (b := true) rfl rfl) <| tl_end ?_
      exact tx_loop rfl (back (rw := []) (sl := [(67, _)]) 0 0 6 rfl rfl rfl ⟨rfl, trivial⟩ trivial rfl rfl)
     ·
      try have hxh7 := cond_ext h7
      try have hyh7 := cond_ne h7
      try have hxh7 := ins_ext h7
      try have hyh7 := ins_ne h7
      refine Gf rfl rfl rfl rfl <| Gf rfl rfl rfl rfl <| Gf rfl rfl rfl rfl <| Gf rfl rfl rfl rfl <| Gf rfl rfl rfl rfl <| V rfl (y_pick (b := false) rfl rfl) <| tl_end ?_
      exact tx_loop rfl (back (rw := []) (sl := [(67, _)]) 0 0 6 rfl rfl rfl ⟨rfl, trivial⟩ trivial rfl rfl)
     refine V rfl (y_mv rfl) ?_
     refine' Jn 68 82 14 rfl (fun h8 => ?_) (fun h8 => ?_) _ rfl ?_
     rotate_left 2
     ·
      try have hxh8 := cond_ext h8
      try have hyh8 := cond_ne h8
      try have hxh8 := ins_ext h8
      try have hyh8 := ins_ne h8
      refine Gt rfl rfl <| V rfl (y_mv rfl) <| Gt rfl rfl <| V rfl (y_nc rfl) <| Gt rfl rfl <| V rfl (y_fa rfl fo78_0) <| Gt rfl rfl <| V rfl (y_ldi rfl (hc 0 _ rfl) tc71) <| Gt rfl rfl <| V rfl (y_eq rfl rfl) ?_
      refine Gt rfl rfl <| V rfl (y_mv rfl) ?_
      refine' Jn 74 81 7 rfl (fun h9 => ?_) (fun h9 => ?_) _ rfl ?_
      rotate_left 2
      ·
       try have hxh9 := cond_ext h9
       try have hyh9 := cond_ne h9
       try have hxh9 := ins_ext h9
       try have hyh9 := ins_ne h9
       refine Gf rfl rfl rfl rfl <| Gf rfl rfl rfl rfl <| Gf rfl rfl rfl rfl <| Gf rfl rfl rfl rfl <| Gf rfl rfl rfl rfl <| Gf rfl rfl rfl rfl <| Gt rfl rfl <| V rfl (y_pick (b := true) rfl rfl) <| tl_end ?_
       exact tx_loop rfl (back (rw := []) (sl := [(81, _)]) 0 0 7 rfl rfl rfl ⟨rfl, trivial⟩ trivial rfl rfl)
      ·
       try have hxh9 := cond_ext h9
       try have hyh9 := cond_ne h9
       try have hxh9 := ins_ext h9
       try have hyh9 := ins_ne h9
       refine Gt rfl rfl <| V rfl (y_mv rfl) <| Gt rfl rfl <| V rfl (y_nc rfl) <| Gt rfl rfl <| V rfl (y_fa rfl fo78_4) <| Gt rfl rfl <| V rfl (y_ldi rfl (hc 11 _ rfl) tc23) <| Gt rfl rfl <| V rfl (y_lens Try.underlying23 rfl) ?_
       refine Gt rfl rfl <| V rfl (y_eq rfl rfl) <| Gt rfl rfl <| V rfl (y_pick (b := false) rfl rfl) <| tl_end ?_
       exact tx_loop rfl (back (rw := []) (sl := [(81, _)]) 0 0 7 rfl rfl rfl ⟨rfl, trivial⟩ trivial rfl rfl)
      refine V rfl (y_pick (b := true) rfl rfl) <| tl_end ?_
      exact tx_loop rfl (back (rw := []) (sl := [(82, _)]) 0 0 8 rfl rfl rfl ⟨rfl, trivial⟩ trivial rfl rfl)
     ·
      try have hxh8 := cond_ext h8
      try have hyh8 := cond_ne h8
      try have hxh8 := ins_ext h8
      try have hyh8 := ins_ne h8
      refine Gf rfl rfl rfl rfl <| Gf rfl rfl rfl rfl <| Gf rfl rfl rfl rfl <| Gf rfl rfl rfl rfl <| Gf rfl rfl rfl rfl <| Gf rfl rfl rfl rfl <| Gu rfl rfl rfl <| Gu rfl rfl rfl <| Gu rfl rfl rfl <| Gu rfl rfl rfl ?_
      refine Gu rfl rfl rfl <| Gu rfl rfl rfl <| Gf rfl rfl rfl rfl <| V rfl (y_pick (b := false) rfl rfl) <| tl_end ?_
      exact tx_loop rfl (back (rw := []) (sl := [(82, _)]) 0 0 14 rfl rfl rfl ⟨rfl, trivial⟩ trivial rfl rfl)
     refine V rfl (y_as rfl) <| go rfl <| t_ret ?_
     refine tx_end rfl (ret (res1 rfl (rv_t rfl)) fun hI => ⟨?_, rfl⟩)
     try simp only [hlen] at *
     try simp only [hle2] at *
     try simp only [ins_zero]
     grind [rightS]
    ·
     try have hxh6 := cond_ext h6
     try have hyh6 := cond_ne h6
     try have hxh6 := ins_ext h6
     try have hyh6 := ins_ne h6
     refine t_region <| V rfl (y_eq rfl rfl) <| V rfl (y_as rfl) <| go rfl ?_
     refine If rfl (fun h10 => ?_) (fun h10 => ?_)
     ·
      try have hxh10 := cond_ext h10
      try have hyh10 := cond_ne h10
      try have hxh10 := ins_ext h10
      try have hyh10 := ins_ne h10
      refine sr <| V rfl (y_mv rfl) <| V rfl (y_nc rfl) <| V rfl (y_fa rfl fo78_1) <| V rfl (y_ldia rfl ta74 rfl (hc.sub 1 4)) <| V rfl (y_build (vs := [_, _, _, _]) rfl bp74 rfl) <| V rfl (y_eqlst rfl rfl Try.eqGuardType74 (se74 _ _ _ _ _ _ _ _)) <| V rfl (y_mv rfl) ?_
      refine' Jn 61 67 6 rfl (fun h11 => ?_) (fun h11 => ?_) _ rfl ?_
      rotate_left 2
      ·
       try have hxh11 := cond_ext h11
       try have hyh11 := cond_ne h11
       try have hxh11 := ins_ext h11
       try have hyh11 := ins_ne h11
       refine Gt rfl rfl <| V rfl (y_mv rfl) <| Gt rfl rfl <| V rfl (y_nc rfl) <| Gt rfl rfl <| V rfl (y_fa rfl fo78_2) <| Gt rfl rfl <| V rfl (y_ldia rfl ta76 rfl (hc.sub 5 5)) <| Gt rfl rfl ?_
       refine Ef (e_call rfl en101 rfl (c_syntax_condition _ (by omega)) ?_)
       refine V rfl (y_pick (b := true) rfl rfl) <| tl_end ?_
       exact tx_loop rfl (back (rw := []) (sl := [(67, _)]) 0 0 6 rfl rfl rfl ⟨rfl, trivial⟩ trivial rfl rfl)
      ·
       try have hxh11 := cond_ext h11
       try have hyh11 := cond_ne h11
       try have hxh11 := ins_ext h11
       try have hyh11 := ins_ne h11
       refine Gf rfl rfl rfl rfl <| Gf rfl rfl rfl rfl <| Gf rfl rfl rfl rfl <| Gf rfl rfl rfl rfl <| Gf rfl rfl rfl rfl <| V rfl (y_pick (b := false) rfl rfl) <| tl_end ?_
       exact tx_loop rfl (back (rw := []) (sl := [(67, _)]) 0 0 6 rfl rfl rfl ⟨rfl, trivial⟩ trivial rfl rfl)
      refine V rfl (y_mv rfl) ?_
      refine' Jn 68 82 14 rfl (fun h12 => ?_) (fun h12 => ?_) _ rfl ?_
      rotate_left 2
      ·
       try have hxh12 := cond_ext h12
       try have hyh12 := cond_ne h12
       try have hxh12 := ins_ext h12
       try have hyh12 := ins_ne h12
       refine Gt rfl rfl <| V rfl (y_mv rfl) <| Gt rfl rfl <| V rfl (y_nc rfl) <| Gt rfl rfl <| V rfl (y_fa rfl fo78_0) <| Gt rfl rfl <| V rfl (y_ldi rfl (hc 0 _ rfl) tc71) <| Gt rfl rfl <| V rfl (y_eq rfl rfl) ?_
       refine Gt rfl rfl <| V rfl (y_mv rfl) ?_
       refine' Jn 74 81 7 rfl (fun h13 => ?_) (fun h13 => ?_) _ rfl ?_
       rotate_left 2
       ·
        try have hxh13 := cond_ext h13
        try have hyh13 := cond_ne h13
        try have hxh13 := ins_ext h13
        try have hyh13 := ins_ne h13
        refine Gf rfl rfl rfl rfl <| Gf rfl rfl rfl rfl <| Gf rfl rfl rfl rfl <| Gf rfl rfl rfl rfl <| Gf rfl rfl rfl rfl <| Gf rfl rfl rfl rfl <| Gt rfl rfl <| V rfl (y_pick (b := true) rfl rfl) <| tl_end ?_
        exact tx_loop rfl (back (rw := []) (sl := [(81, _)]) 0 0 7 rfl rfl rfl ⟨rfl, trivial⟩ trivial rfl rfl)
       ·
        try have hxh13 := cond_ext h13
        try have hyh13 := cond_ne h13
        try have hxh13 := ins_ext h13
        try have hyh13 := ins_ne h13
        refine Gt rfl rfl <| V rfl (y_mv rfl) <| Gt rfl rfl <| V rfl (y_nc rfl) <| Gt rfl rfl <| V rfl (y_fa rfl fo78_4) <| Gt rfl rfl <| V rfl (y_ldi rfl (hc 11 _ rfl) tc23) <| Gt rfl rfl <| V rfl (y_lens Try.underlying23 rfl) ?_
        refine Gt rfl rfl <| V rfl (y_eq rfl rfl) <| Gt rfl rfl <| V rfl (y_pick (b := false) rfl rfl) <| tl_end ?_
        exact tx_loop rfl (back (rw := []) (sl := [(81, _)]) 0 0 7 rfl rfl rfl ⟨rfl, trivial⟩ trivial rfl rfl)
       refine V rfl (y_pick (b := true) rfl rfl) <| tl_end ?_
       exact tx_loop rfl (back (rw := []) (sl := [(82, _)]) 0 0 8 rfl rfl rfl ⟨rfl, trivial⟩ trivial rfl rfl)
      ·
       try have hxh12 := cond_ext h12
       try have hyh12 := cond_ne h12
       try have hxh12 := ins_ext h12
       try have hyh12 := ins_ne h12
       refine Gf rfl rfl rfl rfl <| Gf rfl rfl rfl rfl <| Gf rfl rfl rfl rfl <| Gf rfl rfl rfl rfl <| Gf rfl rfl rfl rfl <| Gf rfl rfl rfl rfl <| Gu rfl rfl rfl <| Gu rfl rfl rfl <| Gu rfl rfl rfl <| Gu rfl rfl rfl ?_
       refine Gu rfl rfl rfl <| Gu rfl rfl rfl <| Gf rfl rfl rfl rfl <| V rfl (y_pick (b := false) rfl rfl) <| tl_end ?_
       exact tx_loop rfl (back (rw := []) (sl := [(82, _)]) 0 0 14 rfl rfl rfl ⟨rfl, trivial⟩ trivial rfl rfl)
      refine V rfl (y_as rfl) <| go rfl <| t_ret ?_
      refine tx_end rfl (ret (res1 rfl (rv_t rfl)) fun hI => ⟨?_, rfl⟩)
      try simp only [hlen] at *
      try simp only [hle2] at *
      try simp only [ins_zero]
      grind [rightS]
     ·
      try have hxh10 := cond_ext h10
      try have hyh10 := cond_ne h10
      try have hxh10 := ins_ext h10
      try have hyh10 := ins_ne h10
      refine skipgo rfl <| sr <| V rfl (y_as rfl) <| go rfl <| t_ret ?_
      refine tx_end rfl (ret (res1 rfl (rv_t rfl)) fun hI => ⟨?_, rfl⟩)
      try simp only [hlen] at *
      try simp only [hle2] at *
      try simp only [ins_zero]
      grind [rightS]
 ·
  try have hxh1 := cond_ext h1
  try have hyh1 := cond_ne h1
  try have hxh1 := ins_ext h1
  try have hyh1 := ins_ne h1
  refine Gfq rfl rfl rfl rfl <| Gfq rfl rfl rfl rfl <| Gfq rfl rfl rfl rfl <| Gfq rfl rfl rfl rfl <| Gfq rfl rfl rfl rfl <| Gfq rfl rfl rfl rfl <| Gfq rfl rfl rfl rfl <| Gfq rfl rfl rfl rfl <| Gfq rfl rfl rfl rfl <| Gfq rfl rfl rfl rfl ?_
  refine Gfq rfl rfl rfl rfl <| Gfq rfl rfl rfl rfl <| W rfl (y_pick (b := false) rfl rfl) <| W rfl (y_as rfl) <| goq rfl <| t_seq <| sr <| V rfl (y_mv rfl) <| V rfl (y_nc rfl) <| V rfl (y_fa rfl fo78_0) ?_
  refine V rfl (y_ldi rfl (hc 0 _ rfl) tc71) <| go rfl <| t_block <| sr <| V rfl (y_eq rfl rfl) <| V rfl (y_as rfl) <| go rfl ?_
  refine If rfl (fun h14 => ?_) (fun h14 => ?_)
  ·
   try have hxh14 := cond_ext h14
   try have hyh14 := cond_ne h14
   try have hxh14 := ins_ext h14
   try have hyh14 := ins_ne h14
   refine sr <| V rfl (y_mv rfl) <| V rfl (y_mv rfl) <| Gf rfl rfl rfl rfl <| Gf rfl rfl rfl rfl <| Gf rfl rfl rfl rfl <| Gf rfl rfl rfl rfl <| Gf rfl rfl rfl rfl <| Gf rfl rfl rfl rfl <| V rfl (y_pick (b := false) rfl rfl) ?_
   refine V rfl (y_as rfl) <| go rfl <| t_ret ?_
   refine tx_end rfl (ret (res1 rfl (rv_t rfl)) fun hI => ⟨?_, rfl⟩)
   try simp only [hlen] at *
   try simp only [hle2] at *
   try simp only [ins_zero]
   grind [rightS]
  ·
   try have hxh14 := cond_ext h14
   try have hyh14 := cond_ne h14
   try have hxh14 := ins_ext h14
   try have hyh14 := ins_ne h14
   refine sr <| V rfl (y_eq rfl rfl) <| V rfl (y_as rfl) <| go rfl ?_
   refine If rfl (fun h15 => ?_) (fun h15 => ?_)
   ·
    try have hxh15 := cond_ext h15
    try have hyh15 := cond_ne h15
    try have hxh15 := ins_ext h15
    try have hyh15 := ins_ne h15
    refine sr <| V rfl (y_mv rfl) <| V rfl (y_mv rfl) <| Gf rfl rfl rfl rfl <| Gf rfl rfl rfl rfl <| Gf rfl rfl rfl rfl <| Gf rfl rfl rfl rfl <| Gf rfl rfl rfl rfl <| Gf rfl rfl rfl rfl <| V rfl (y_pick (b := false) rfl rfl) ?_
    refine V rfl (y_as rfl) <| go rfl <| t_ret ?_
    refine tx_end rfl (ret (res1 rfl (rv_t rfl)) fun hI => ⟨?_, rfl⟩)
    try simp only [hlen] at *
    try simp only [hle2] at *
    try simp only [ins_zero]
    grind [rightS]
   ·
    try have hxh15 := cond_ext h15
    try have hyh15 := cond_ne h15
    try have hxh15 := ins_ext h15
    try have hyh15 := ins_ne h15
    refine t_seq <| sr <| V rfl (y_eq rfl rfl) <| V rfl (y_as rfl) <| go rfl ?_
    refine If rfl (fun h16 => ?_) (fun h16 => ?_)
    ·
     try have hxh16 := cond_ext h16
     try have hyh16 := cond_ne h16
     try have hxh16 := ins_ext h16
     try have hyh16 := ins_ne h16
     refine skipgo rfl <| t_ift rfl <| sr <| V rfl (y_mv rfl) <| V rfl (y_nc rfl) <| V rfl (y_fa rfl fo78_1) <| V rfl (y_ldia rfl ta74 rfl (hc.sub 1 4)) <| V rfl (y_build (vs := [_, _, _, _]) rfl bp74 rfl) <| V rfl (y_eqlst rfl rfl Try.eqGuardType74 (se74 _ _ _ _ _ _ _ _)) <| V rfl (y_mv rfl) ?_
     refine' Jn 61 67 6 rfl (fun h17 => ?_) (fun h17 => ?_) _ rfl ?_
     rotate_left 2
     ·
      try have hxh17 := cond_ext h17
      try have hyh17 := cond_ne h17
      try have hxh17 := ins_ext h17
      try have hyh17 := ins_ne h17
      refine Gt rfl rfl <| V rfl (y_mv rfl) <| Gt rfl rfl <| V rfl (y_nc rfl) <| Gt rfl rfl <| V rfl (y_fa rfl fo78_2) <| Gt rfl rfl <| V rfl (y_ldia rfl ta76 rfl (hc.sub 5 5)) <| Gt rfl rfl ?_
      refine Ef (e_call rfl en101 rfl (c_syntax_condition _ (by omega)) ?_)
      refine V rfl (y_pick (b := true) rfl rfl) <| tl_end ?_
      exact tx_loop rfl (back (rw := []) (sl := [(67, _)]) 0 0 6 rfl rfl rfl ⟨rfl, trivial⟩ trivial rfl rfl)
     ·
      try have hxh17 := cond_ext h17
      try have hyh17 := cond_ne h17
      try have hxh17 := ins_ext h17
      try have hyh17 := ins_ne h17
      refine Gf rfl rfl rfl rfl <| Gf rfl rfl rfl rfl <| Gf rfl rfl rfl rfl <| Gf rfl rfl rfl rfl <| Gf rfl rfl rfl rfl <| V rfl (y_pick (b := false) rfl rfl) <| tl_end ?_
      exact tx_loop rfl (back (rw := []) (sl := [(67, _)]) 0 0 6 rfl rfl rfl ⟨rfl, trivial⟩ trivial rfl rfl)
     refine V rfl (y_mv rfl) ?_
     refine' Jn 68 82 14 rfl (fun h18 => ?_) (fun h18 => ?_) _ rfl ?_
     rotate_left 2
     ·
      try have hxh18 := cond_ext h18
      try have hyh18 := cond_ne h18
      try have hxh18 := ins_ext h18
      try have hyh18 := ins_ne h18
      refine Gt rfl rfl <| V rfl (y_mv rfl) <| Gt rfl rfl <| V rfl (y_nc rfl) <| Gt rfl rfl <| V rfl (y_fa rfl fo78_0) <| Gt rfl rfl <| V rfl (y_ldi rfl (hc 0 _ rfl) tc71) <| Gt rfl rfl <| V rfl (y_eq rfl rfl) ?_
      refine Gt rfl rfl <| V rfl (y_mv rfl) ?_
      refine' Jn 74 81 7 rfl (fun h19 => ?_) (fun h19 => ?_) _ rfl ?_
      rotate_left 2
      ·
       try have hxh19 := cond_ext h19
       try have hyh19 := cond_ne h19
       try have hxh19 := ins_ext h19
       try have hyh19 := ins_ne h19
       refine Gf rfl rfl rfl rfl <| Gf rfl rfl rfl rfl <| Gf rfl rfl rfl rfl <| Gf rfl rfl rfl rfl <| Gf rfl rfl rfl rfl <| Gf rfl rfl rfl rfl <| Gt rfl rfl <| V rfl (y_pick (b := true) rfl rfl) <| tl_end ?_
       exact tx_loop rfl (back (rw := []) (sl := [(81, _)]) 0 0 7 rfl rfl rfl ⟨rfl, trivial⟩ trivial rfl rfl)
      ·
       try have hxh19 := cond_ext h19
       try have hyh19 := cond_ne h19
       try have hxh19 := ins_ext h19
       try have hyh19 := ins_ne h19
       refine Gt rfl rfl <| V rfl (y_mv rfl) <| Gt rfl rfl <| V rfl (y_nc rfl) <| Gt rfl rfl <| V rfl (y_fa rfl fo78_4) <| Gt rfl rfl <| V rfl (y_ldi rfl (hc 11 _ rfl) tc23) <| Gt rfl rfl <| V rfl (y_lens Try.underlying23 rfl) ?_
       refine Gt rfl rfl <| V rfl (y_eq rfl rfl) <| Gt rfl rfl <| V rfl (y_pick (b := false) rfl rfl) <| tl_end ?_
       exact tx_loop rfl (back (rw := []) (sl := [(81, _)]) 0 0 7 rfl rfl rfl ⟨rfl, trivial⟩ trivial rfl rfl)
      refine V rfl (y_pick (b := true) rfl rfl) <| tl_end ?_
      exact tx_loop rfl (back (rw := []) (sl := [(82, _)]) 0 0 8 rfl rfl rfl ⟨rfl, trivial⟩ trivial rfl rfl)
     ·
      try have hxh18 := cond_ext h18
      try have hyh18 := cond_ne h18
      try have hxh18 := ins_ext h18
      try have hyh18 := ins_ne h18
      refine Gf rfl rfl rfl rfl <| Gf rfl rfl rfl rfl <| Gf rfl rfl rfl rfl <| Gf rfl rfl rfl rfl <| Gf rfl rfl rfl rfl <| Gf rfl rfl rfl rfl <| Gu rfl rfl rfl <| Gu rfl rfl rfl <| Gu rfl rfl rfl <| Gu rfl rfl rfl ?_
      refine Gu rfl rfl rfl <| Gu rfl rfl rfl <| Gf rfl rfl rfl rfl <| V rfl (y_pick (b := false) rfl rfl) <| tl_end ?_
      exact tx_loop rfl (back (rw := []) (sl := [(82, _)]) 0 0 14 rfl rfl rfl ⟨rfl, trivial⟩ trivial rfl rfl)
     refine V rfl (y_as rfl) <| go rfl <| t_ret ?_
     refine tx_end rfl (ret (res1 rfl (rv_t rfl)) fun hI => ⟨?_, rfl⟩)
     try simp only [hlen] at *
     try simp only [hle2] at *
     try simp only [ins_zero]
     grind [rightS]
    ·
     try have hxh16 := cond_ext h16
     try have hyh16 := cond_ne h16
     try have hxh16 := ins_ext h16
     try have hyh16 := ins_ne h16
     refine t_region <| V rfl (y_eq rfl rfl) <| V rfl (y_as rfl) <| go rfl ?_
     refine If rfl (fun h20 => ?_) (fun h20 => ?_)
     ·
      try have hxh20 := cond_ext h20
      try have hyh20 := cond_ne h20
      try have hxh20 := ins_ext h20
      try have hyh20 := ins_ne h20
      refine sr <| V rfl (y_mv rfl) <| V rfl (y_nc rfl) <| V rfl (y_fa rfl fo78_1) <| V rfl (y_ldia rfl ta74 rfl (hc.sub 1 4)) <| V rfl (y_build (vs := [_, _, _, _]) rfl bp74 rfl) <| V rfl (y_eqlst rfl rfl Try.eqGuardType74 (se74 _ _ _ _ _ _ _ _)) <| V rfl (y_mv rfl) ?_
      refine' Jn 61 67 6 rfl (fun h21 => ?_) (fun h21 => ?_) _ rfl ?_
      rotate_left 2
      ·
       try have hxh21 := cond_ext h21
       try have hyh21 := cond_ne h21
       try have hxh21 := ins_ext h21
       try have hyh21 := ins_ne h21
       refine Gt rfl rfl <| V rfl (y_mv rfl) <| Gt rfl rfl <| V rfl (y_nc rfl) <| Gt rfl rfl <| V rfl (y_fa rfl fo78_2) <| Gt rfl rfl <| V rfl (y_ldia rfl ta76 rfl (hc.sub 5 5)) <| Gt rfl rfl ?_
       refine Ef (e_call rfl en101 rfl (c_syntax_condition _ (by omega)) ?_)
       refine V rfl (y_pick (b := true) rfl rfl) <| tl_end ?_
       exact tx_loop rfl (back (rw := []) (sl := [(67, _)]) 0 0 6 rfl rfl rfl ⟨rfl, trivial⟩ trivial rfl rfl)
      ·
       try have hxh21 := cond_ext h21
       try have hyh21 := cond_ne h21
       try have hxh21 := ins_ext h21
       try have hyh21 := ins_ne h21
       refine Gf rfl rfl rfl rfl <| Gf rfl rfl rfl rfl <| Gf rfl rfl rfl rfl <| Gf rfl rfl rfl rfl <| Gf rfl rfl rfl rfl <| V rfl (y_pick (b := false) rfl rfl) <| tl_end ?_
       exact tx_loop rfl (back (rw := []) (sl := [(67, _)]) 0 0 6 rfl rfl rfl ⟨rfl, trivial⟩ trivial rfl rfl)
      refine V rfl (y_mv rfl) ?_
      refine' Jn 68 82 14 rfl (fun h22 => ?_) (fun h22 => ?_) _ rfl ?_
      rotate_left 2
      ·
       try have hxh22 := cond_ext h22
       try have hyh22 := cond_ne h22
       try have hxh22 := ins_ext h22
       try have hyh22 := ins_ne h22
       refine Gt rfl rfl <| V rfl (y_mv rfl) <| Gt rfl rfl <| V rfl (y_nc rfl) <| Gt rfl rfl <| V rfl (y_fa rfl fo78_0) <| Gt rfl rfl <| V rfl (y_ldi rfl (hc 0 _ rfl) tc71) <| Gt rfl rfl <| V rfl (y_eq rfl rfl) ?_
       refine Gt rfl rfl <| V rfl (y_mv rfl) ?_
       refine' Jn 74 81 7 rfl (fun h23 => ?_) (fun h23 => ?_) _ rfl ?_
       rotate_left 2
       ·
        try have hxh23 := cond_ext h23
        try have hyh23 := cond_ne h23
        try have hxh23 := ins_ext h23
        try have hyh23 := ins_ne h23
        refine Gf rfl rfl rfl rfl <| Gf rfl rfl rfl rfl <| Gf rfl rfl rfl rfl <| Gf rfl rfl rfl rfl <| Gf rfl rfl rfl rfl <| Gf rfl rfl rfl rfl <| Gt rfl rfl <| V rfl (y_pick (b := true) rfl rfl) <| tl_end ?_
        exact tx_loop rfl (back (rw := []) (sl := [(81, _)]) 0 0 7 rfl rfl rfl ⟨rfl, trivial⟩ trivial rfl rfl)
       ·
        try have hxh23 := cond_ext h23
        try have hyh23 := cond_ne h23
        try have hxh23 := ins_ext h23
        try have hyh23 := ins_ne h23
        refine Gt rfl rfl <| V rfl (y_mv rfl) <| Gt rfl rfl <| V rfl (y_nc rfl) <| Gt rfl rfl <| V rfl (y_fa rfl fo78_4) <| Gt rfl rfl <| V rfl (y_ldi rfl (hc 11 _ rfl) tc23) <| Gt rfl rfl <| V rfl (y_lens Try.underlying23 rfl) ?_
        refine Gt rfl rfl <| V rfl (y_eq rfl rfl) <| Gt rfl rfl <| V rfl (y_pick (b := false) rfl rfl) <| tl_end ?_
        exact tx_loop rfl (back (rw := []) (sl := [(81, _)]) 0 0 7 rfl rfl rfl ⟨rfl, trivial⟩ trivial rfl rfl)
       refine V rfl (y_pick (b := true) rfl rfl) <| tl_end ?_
       exact tx_loop rfl (back (rw := []) (sl := [(82, _)]) 0 0 8 rfl rfl rfl ⟨rfl, trivial⟩ trivial rfl rfl)
      ·
       try have hxh22 := cond_ext h22
       try have hyh22 := cond_ne h22
       try have hxh22 := ins_ext h22
       try have hyh22 := ins_ne h22
       refine Gf rfl rfl rfl rfl <| Gf rfl rfl rfl rfl <| Gf rfl rfl rfl rfl <| Gf rfl rfl rfl rfl <| Gf rfl rfl rfl rfl <| Gf rfl rfl rfl rfl <| Gu rfl rfl rfl <| Gu rfl rfl rfl <| Gu rfl rfl rfl <| Gu rfl rfl rfl ?_
       refine Gu rfl rfl rfl <| Gu rfl rfl rfl <| Gf rfl rfl rfl rfl <| V rfl (y_pick (b := false) rfl rfl) <| tl_end ?_
       exact tx_loop rfl (back (rw := []) (sl := [(82, _)]) 0 0 14 rfl rfl rfl ⟨rfl, trivial⟩ trivial rfl rfl)
      refine V rfl (y_as rfl) <| go rfl <| t_ret ?_
      refine tx_end rfl (ret (res1 rfl (rv_t rfl)) fun hI => ⟨?_, rfl⟩)
      try simp only [hlen] at *
      try simp only [hle2] at *
      try simp only [ins_zero]
      grind [rightS]
     ·
      try have hxh20 := cond_ext h20
      try have hyh20 := cond_ne h20
      try have hxh20 := ins_ext h20
      try have hyh20 := ins_ne h20
      refine skipgo rfl <| sr <| V rfl (y_as rfl) <| go rfl <| t_ret ?_
      refine tx_end rfl (ret (res1 rfl (rv_t rfl)) fun hI => ⟨?_, rfl⟩)
      try simp only [hlen] at *
      try simp only [hle2] at *
      try simp only [ins_zero]
      grind [rightS]

theorem c_syntax_Right_1 {I : Imm} (s : Stmt) (post g : Bool) (c : Int) (p : Addr) (Ab : Option Addr) (cb : Nat) (Ae : Option Addr) (ce : Nat) (bn bg bp : Nat) (hc : CellsI I p (s.cells Ab cb Ae ce)) (hop : 0 ≤ s.ins.op) (hcop : 0 ≤ s.cond.ins.op) (hsz : s.size ≤ 1000000) (hcc : 0 ≤ c ∧ c ≤ 100000000) : ∀ L, TL.Fn Try.prog 67 [.pointer (some p), .pointer (some ⟨bn, 0, none⟩), .pointer (some ⟨bg, 0, none⟩), .pointer (some ⟨bp, 0, none⟩)] I (blkL [(bn, 3, [.int .i64 c]), (bg, 4, [.bool g]), (bp, 4, [.bool post])] ++ L) fun v _ L' => ∃ Cl, L' = blkL (reB [(bn, 3, [.int .i64 c]), (bg, 4, [.bool g]), (bp, 4, [.bool post])] Cl) ++ L ∧ sameLen [(bn, 3, [.int .i64 c]), (bg, 4, [.bool g]), (bp, 4, [.bool post])] Cl ∧ (v = .tuple #[] ∧ Cl = [[.int .i64 (c + 1)], [.bool (g && rightS s post)], [.bool post]]) := by
 intro L
 refine fn_enter Try.func67 rfl rfl rfl <| own 0 rfl rfl rfl <| own 1 rfl rfl rfl <| own 2 rfl rfl rfl ?_
 show T _ _ _ _ _ _ _
 refine sr <| V rfl (y_ld (i := 0) rfl rfl rfl tc3) <| V rfl (y_add rfl rfl (by omega)) ?_
 refine Ef (e_st 0 rfl rfl rfl rfl rfl tc3 ?_)
 refine go rfl <| t_region <| V rfl (y_ld (i := 1) rfl rfl rfl tc4) <| V rfl (y_mv rfl) ?_
 refine' Jn 8 12 4 rfl (fun h1 => ?_) (fun h1 => ?_) _ rfl ?_
 rotate_left 2
 ·
  refine Gt rfl rfl <| V rfl (y_mv rfl) <| Gt rfl rfl <| V rfl (y_ld (i := 2) rfl rfl rfl tc4) <| Gt rfl rfl ?_
  refine Ef (e_call rfl en68 rfl (c_syntax_right s _ _ _ _ _ _ hc hop hcop hsz) ?_)
  refine V rfl (y_pick (b := true) rfl rfl) <| tl_end ?_
  exact tx_loop rfl (back (rw := []) (sl := [(12, _)]) 0 0 4 rfl rfl rfl ⟨rfl, trivial⟩ trivial rfl rfl)
 ·
  refine Gf rfl rfl rfl rfl <| Gf rfl rfl rfl rfl <| Gf rfl rfl rfl rfl <| V rfl (y_pick (b := false) rfl rfl) <| tl_end ?_
  exact tx_loop rfl (back (rw := []) (sl := [(12, _)]) 0 0 4 rfl rfl rfl ⟨rfl, trivial⟩ trivial rfl rfl)
 refine Ef (e_st 1 rfl rfl rfl rfl rfl tc4 ?_)
 refine tl_end ?_
 refine tx_end rfl (retm (.inr rfl) [0, 1, 2] (res0 rfl ) rfl rfl fun hI => ⟨[_, _, _], rfl, ⟨rfl, ⟨rfl, ⟨rfl, trivial⟩⟩⟩, ?_, ?_⟩)
 · rfl
 · grind

theorem c_syntax_walk {I : Imm} (post : Bool) (bn bg bp : Nat)  : ∀ (n : Nat) (l : List Stmt) (A : Option Addr) (cap : Nat) (c : Int) (g : Bool) (hl : SRep I l A) (hok : OkS l) (hsz : sizeL l ≤ 1000000) (hc0 : 0 ≤ c) (hc1 : c + sizeL l ≤ 10000000) (hn : n ≤ 1000000), ∀ L, TL.Fn Try.prog 66 [.slice A l.length cap, .int .i64 (n : Int), .func (.func 67) #[] #[.pointer (some ⟨bn, 0, none⟩), .pointer (some ⟨bg, 0, none⟩), .pointer (some ⟨bp, 0, none⟩)]] I (blkL [(bn, 3, [.int .i64 c]), (bg, 4, [.bool g]), (bp, 4, [.bool post])] ++ L) fun v _ L' => ∃ Cl, L' = blkL (reB [(bn, 3, [.int .i64 c]), (bg, 4, [.bool g]), (bp, 4, [.bool post])] Cl) ++ L ∧ sameLen [(bn, 3, [.int .i64 c]), (bg, 4, [.bool g]), (bp, 4, [.bool post])] Cl ∧ (v = .bool (deepOK n l) ∧ Cl = [[.int .i64 (c + (visit n l).length)], [.bool (g && (visit n l).all (fun s => rightS s post))], [.bool post]]) := by
 intro n
 induction n using Nat.strongRecOn with
 | _ n ih =>
  intro l A cap c g hl hok hsz hc0 hc1 hn L
  have hll := length_sizeL l
  refine fn_enter Try.func66 rfl rfl rfl <| own 0 rfl rfl rfl <| own 1 rfl rfl rfl <| own 2 rfl rfl rfl ?_
  show T _ _ _ _ _ _ _
  refine sr <| V rfl (y_as rfl) <| go rfl <| t_seq <| sr <| V rfl (y_mv rfl) <| V rfl (y_lens Try.underlying23 rfl) <| V rfl (y_gt rfl rfl) <| V rfl (y_mv rfl) ?_
  refine' Jn 12 15 3 rfl (fun h1 => ?_) (fun h1 => ?_) _ rfl ?_
  rotate_left 2
  ·
   refine Gt rfl rfl <| V rfl (y_mv rfl) <| Gt rfl rfl <| V rfl (y_lt rfl rfl) <| V rfl (y_pick (b := true) rfl rfl) <| tl_end ?_
   exact tx_loop rfl (back (rw := []) (sl := [(15, _)]) 0 0 3 rfl rfl rfl ⟨rfl, trivial⟩ trivial rfl rfl)
  ·
   refine Gf rfl rfl rfl rfl <| Gf rfl rfl rfl rfl <| V rfl (y_pick (b := false) rfl rfl) <| tl_end ?_
   exact tx_loop rfl (back (rw := []) (sl := [(15, _)]) 0 0 3 rfl rfl rfl ⟨rfl, trivial⟩ trivial rfl rfl)
  refine go rfl ?_
  refine If rfl (fun h2 => ?_) (fun h2 => ?_)
  ·
   refine sr <| V rfl (y_as rfl) <| go rfl <| t_ret ?_
   refine tx_end rfl (retm (.inl rfl) [0, 1, 2] (res1 rfl (rv_t rfl)) rfl rfl fun hI => ⟨[_, _, _], rfl, ⟨rfl, ⟨rfl, ⟨rfl, trivial⟩⟩⟩, ?_, ?_⟩)
   · first | (rw [deepOK_zero (by omega) (by omega)]) | (rw [deepOK_eq hv, List.take_of_length_le (by omega)])
   · first | (rw [visit_zero (by omega)]; simp; done) | (rw [visit_eq hv, List.take_of_length_le (by omega)])
  ·
   refine skipgo rfl <| sr <| V rfl (y_as rfl) <| go rfl <| t_seq <| sr <| V rfl (y_mv rfl) <| V rfl (y_lens Try.underlying23 rfl) <| V rfl (y_mv rfl) <| go rfl ?_
   refine t_block ?_
   refine t_loopG (α := Nat) (fun (k : Nat) => I) (fun (k : Nat) => [⟨0, 0, 1, [.int .i64 (c + ((l.take k).flatMap (fun s => s :: (visit (n - 1) s.body ++ visit (n - 1) s.els))).length)]⟩, ⟨1, 0, 1, [.bool (g && ((l.take k).flatMap (fun s => s :: (visit (n - 1) s.body ++ visit (n - 1) s.els))).all (fun s => rightS s post))]⟩, ⟨2, 0, 1, [.bool post]⟩]) (fun (k : Nat) => [(7, .bool ((l.take k).all (fun s => deepOK (n - 1) s.body && deepOK (n - 1) s.els))), (18, .int .i64 (k : Int))]) (fun (k : Nat) => k ≤ l.length) (fun (k : Nat) => l.length - k) 0 ?_ ?_ ?_ ?_ ?_
   · omega
   · rfl
   · exact ⟨rfl, rfl, trivial⟩
   · exact ⟨⟨rfl, by show some _ = some _; simp, trivial⟩, ⟨rfl, by show some _ = some _; simp, trivial⟩, ⟨rfl, rfl, trivial⟩, trivial⟩
   intro k hinv
   have hv : l = [] ∨ 1 ≤ n := by
     rcases h2 with h | h
     · exact .inl (List.eq_nil_of_length_eq_zero (by omega))
     · exact .inr (by omega)
   refine sr <| V rfl (y_lt rfl rfl) <| go rfl <| t_seq ?_
   refine If rfl (fun h3 => ?_) (fun h3 => ?_)
   ·
    refine skipgo rfl <| t_seq <| t_block <| sr <| V rfl (y_mv rfl) <| V rfl (y_as rfl) <| go rfl <| sr <| V rfl (y_mv rfl) <| V rfl (y_mv rfl) ?_
    refine V rfl (y_mv rfl) ?_
    obtain ⟨p, Ab, cb, Ae, ce, rfl, hc, hb, he⟩ := hl.at k (by omega)
    obtain ⟨hkd, hop, hcop, hob, hoe⟩ := hok.at k (by omega)
    have hst := sizeL_take l k (by omega)
    have hse := (l[k]).size_eq
    have hvl := visit_take l (n - 1) k
    have hv1 := visit_le (n - 1) (l[k]).body
    have hv2 := visit_le (n - 1) (l[k]).els
    refine V rfl (y_ix rfl rfl ix23 (by omega) (by omega)) ?_
    refine Ef (e_callkv [0, 1, 2] rfl rfl en67 rfl rfl rfl (fun L => by exact c_syntax_Right_1 l[k] post (g && ((l.take k).flatMap (fun s => s :: (visit (n - 1) s.body ++ visit (n - 1) s.els))).all (fun s => rightS s post)) (c + ((l.take k).flatMap (fun s => s :: (visit (n - 1) s.body ++ visit (n - 1) s.els))).length) _ Ab cb Ae ce bn bg bp hc hop hcop (by omega) (by omega) L) ?_)
    rintro _ _ ⟨rfl, rfl⟩
    refine go rfl <| sr <| V rfl (y_mv rfl) <| V rfl (y_mv rfl) <| V rfl (y_ix rfl rfl ix23 (by omega) (by omega)) <| V rfl (y_fa rfl fo78_3) <| V rfl (y_ldi rfl (hc 10 _ rfl) tc23) <| V rfl (y_mv rfl) <| V rfl (y_sub rfl rfl (by omega)) <| Re 32 (.int .i64 ((n - 1 : Nat) : Int)) rfl (by congr 1; omega) ?_
    refine V rfl (y_mv rfl) ?_
    refine Ef (e_callk [0, 1, 2] rfl en66 rfl rfl rfl (fun L => by exact ih (n - 1) (by omega) (l[k]).body Ab cb ((c + ((l.take k).flatMap (fun s => s :: (visit (n - 1) s.body ++ visit (n - 1) s.els))).length) + 1) ((g && ((l.take k).flatMap (fun s => s :: (visit (n - 1) s.body ++ visit (n - 1) s.els))).all (fun s => rightS s post)) && rightS l[k] post) hb hob (by omega) (by omega) (by omega) (by omega) L) ?_)
    rintro _ _ ⟨rfl, rfl⟩
    refine V rfl (y_mv rfl) ?_
    refine' Jn 35 37 2 rfl (fun h4 => ?_) (fun h4 => ?_) _ rfl ?_
    rotate_left 2
    ·
     refine Gt rfl rfl <| V rfl (y_mv rfl) <| V rfl (y_pick (b := true) rfl rfl) <| tl_end ?_
     exact tx_loop rfl (back (rw := []) (sl := [(37, _)]) 0 0 2 rfl rfl rfl ⟨rfl, trivial⟩ trivial rfl rfl)
    ·
     refine Gf rfl rfl rfl rfl <| V rfl (y_pick (b := false) rfl rfl) <| tl_end ?_
     exact tx_loop rfl (back (rw := []) (sl := [(37, _)]) 0 0 2 rfl rfl rfl ⟨rfl, trivial⟩ trivial rfl rfl)
    refine V rfl (y_as rfl) <| go rfl <| t_region <| V rfl (y_mv rfl) <| V rfl (y_mv rfl) <| V rfl (y_ix rfl rfl ix23 (by omega) (by omega)) <| V rfl (y_fa rfl fo78_4) <| V rfl (y_ldi rfl (hc 11 _ rfl) tc23) <| V rfl (y_mv rfl) <| V rfl (y_sub rfl rfl (by omega)) ?_
    refine Re 44 (.int .i64 ((n - 1 : Nat) : Int)) rfl (by congr 1; omega) <| V rfl (y_mv rfl) ?_
    refine Ef (e_callk [0, 1, 2] rfl en66 rfl rfl rfl (fun L => by exact ih (n - 1) (by omega) (l[k]).els Ae ce (((c + ((l.take k).flatMap (fun s => s :: (visit (n - 1) s.body ++ visit (n - 1) s.els))).length) + 1) + (visit (n - 1) (l[k]).body).length) (((g && ((l.take k).flatMap (fun s => s :: (visit (n - 1) s.body ++ visit (n - 1) s.els))).all (fun s => rightS s post)) && rightS l[k] post) && (visit (n - 1) (l[k]).body).all (fun s => rightS s post)) he hoe (by omega) (by omega) (by omega) (by omega) L) ?_)
    rintro _ _ ⟨rfl, rfl⟩
    refine V rfl (y_mv rfl) ?_
    refine' Jn 47 49 2 rfl (fun h5 => ?_) (fun h5 => ?_) _ rfl ?_
    rotate_left 2
    ·
     refine Gt rfl rfl <| V rfl (y_mv rfl) <| V rfl (y_pick (b := true) rfl rfl) <| tl_end ?_
     exact tx_loop rfl (back (rw := []) (sl := [(49, _)]) 0 0 2 rfl rfl rfl ⟨rfl, trivial⟩ trivial rfl rfl)
    ·
     refine Gf rfl rfl rfl rfl <| V rfl (y_pick (b := false) rfl rfl) <| tl_end ?_
     exact tx_loop rfl (back (rw := []) (sl := [(49, _)]) 0 0 2 rfl rfl rfl ⟨rfl, trivial⟩ trivial rfl rfl)
    refine V rfl (y_as rfl) <| go rfl <| t_region <| V rfl (y_add rfl rfl (by omega)) <| V rfl (y_mv rfl) <| tl_end ?_
    refine tx_loop rfl (again (k + 1) 0 9 37 ?_ ?_ rfl rfl rfl rfl ?_ ?_ rfl rfl rfl)
    · omega
    · omega
    · exact ⟨by show some (Value.bool _) = some (Value.bool _); rw [all_take l _ k (by omega)]; clear ih; grind, rfl, trivial⟩
    · exact ⟨⟨rfl, by show some (Value.int _ _) = some (Value.int _ _); rw [flatMap_take l _ k (by omega)]; clear ih; congr 2; simp; omega, trivial⟩, ⟨rfl, by show some (Value.bool _) = some (Value.bool _); rw [flatMap_take l _ k (by omega)]; clear ih; congr 2; simp [Bool.and_assoc], trivial⟩, ⟨rfl, rfl, trivial⟩, trivial⟩
   ·
    refine exitgo rfl <| sr <| V rfl (y_mv rfl) <| V rfl (y_as rfl) <| go rfl <| t_ret ?_
    refine tx_end rfl (retm (.inl rfl) [0, 1, 2] (res1 rfl (rv_t rfl)) rfl rfl fun hI => ⟨[_, _, _], rfl, ⟨rfl, ⟨rfl, ⟨rfl, trivial⟩⟩⟩, ?_, ?_⟩)
    · first | (rw [deepOK_zero (by omega) (by omega)]) | (rw [deepOK_eq hv, List.take_of_length_le (by omega)])
    · first | (rw [visit_zero (by omega)]; simp; done) | (rw [visit_eq hv, List.take_of_length_le (by omega)])

end Go.Proofs.Ytngdkgddeobiiaa
