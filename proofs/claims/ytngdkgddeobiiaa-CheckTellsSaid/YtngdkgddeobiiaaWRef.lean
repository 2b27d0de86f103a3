/- Walks, printed by my gen.py: ref19_Depth, ref19_count, ref19_Count, ref19_each, ref19_Right, ref19_Config, ref21_Check. -/
import Derived.Test.YtngdkgddeobiiaaFacts
import Derived.Test.YtngdkgddeobiiaaPRef
import Derived.Test.YtngdkgddeobiiaaWConf
namespace Go.Proofs.Ytngdkgddeobiiaa
open Go Go.TL Go.RowKit
set_option maxRecDepth 100000


theorem c_ref19_Depth {I : Imm}   : ∀ (n : Nat) (l : List Stmt) (A : Option Addr) (cap : Nat) (hl : SRep I l A) (hsz : sizeL l ≤ 1000000) (hn : n ≤ 1000000), PAt Try.prog I 89 [.slice A l.length cap, .int .i64 (n : Int)] (.int .i64 (depth n l)) := by
 intro n
 induction n using Nat.strongRecOn with
 | _ n ih =>
  intro l A cap hl hsz hn
  have hll := length_sizeL l
  refine pat_of fun L => fn_enter Try.func89 rfl rfl rfl ?_
  refine sr <| V rfl (y_as rfl) <| go rfl <| t_seq <| sr <| V rfl (y_mv rfl) <| V rfl (y_lens Try.underlying23 rfl) <| V rfl (y_eq rfl rfl) <| go rfl ?_
  refine If rfl (fun h1 => ?_) (fun h1 => ?_)
  ·
   refine sr <| V rfl (y_as rfl) <| go rfl <| t_ret ?_
   refine tx_end rfl (ret (res1 rfl (rv_t rfl)) fun hI => ⟨?_, rfl⟩)
   first | rw [depth_nil (by omega)] | rw [depth_zero (by omega) (by omega)] | rw [depth_step (by omega) (by omega)]
  ·
   refine skipgo rfl <| t_seq <| sr <| V rfl (y_mv rfl) <| V rfl (y_lt rfl rfl) <| go rfl ?_
   refine If rfl (fun h2 => ?_) (fun h2 => ?_)
   ·
    refine sr <| V rfl (y_as rfl) <| go rfl <| t_ret ?_
    refine tx_end rfl (ret (res1 rfl (rv_t rfl)) fun hI => ⟨?_, rfl⟩)
    first | rw [depth_nil (by omega)] | rw [depth_zero (by omega) (by omega)] | rw [depth_step (by omega) (by omega)]
   ·
    refine skipgo rfl <| sr <| V rfl (y_as rfl) <| go rfl <| t_seq <| sr <| V rfl (y_as rfl) <| go rfl <| t_block ?_
    refine t_loopG (α := Nat) (fun (k : Nat) => I) (fun (k : Nat) => []) (fun (k : Nat) => [(5, .int .i64 (dfold (n - 1) (l.take k))), (6, .int .i64 (k : Int))]) (fun (k : Nat) => k ≤ l.length) (fun (k : Nat) => l.length - k) 0 ?_ ?_ ?_ ?_ ?_
    · omega
    · rfl
    · exact ⟨rfl, rfl, trivial⟩
    · exact trivial
    intro k hinv
    refine t_seq <| sr <| V rfl (y_mv rfl) <| V rfl (y_mv rfl) <| V rfl (y_lens Try.underlying23 rfl) <| V rfl (y_lt rfl rfl) <| go rfl ?_
    refine If rfl (fun h3 => ?_) (fun h3 => ?_)
    ·
     refine skipgo rfl <| t_seq <| t_block <| t_quiet rfl (by kernel_rfl) <| W rfl (y_mv rfl) <| W rfl (y_mv rfl) <| W rfl (y_mv rfl) ?_
     obtain ⟨p, Ab, cb, Ae, ce, rfl, hc, hb, he⟩ := hl.at k (by omega)
     have hst := sizeL_take l k (by omega)
     have hse := (l[k]).size_eq
     refine W rfl (y_ix rfl rfl ix23 (by omega) (by omega)) <| W rfl (y_fa rfl fo78_3) <| W rfl (y_ldi rfl (hc 10 _ rfl) tc23) <| W rfl (y_mv rfl) <| W rfl (y_sub rfl rfl (by omega)) <| Req 25 (.int .i64 ((n - 1 : Nat) : Int)) rfl (by congr 1; omega) <| tq_call rfl en89 rfl (ih (n - 1) (by omega) (l[k]).body _ _ hb (by omega) (by omega)) <| W rfl (y_mv rfl) <| W rfl (y_mv rfl) <| W rfl (y_ix rfl rfl ix23 (by omega) (by omega)) ?_
     refine W rfl (y_fa rfl fo78_4) <| W rfl (y_ldi rfl (hc 11 _ rfl) tc23) <| W rfl (y_mv rfl) <| W rfl (y_sub rfl rfl (by omega)) <| Req 33 (.int .i64 ((n - 1 : Nat) : Int)) rfl (by congr 1; omega) <| tq_call rfl en89 rfl (ih (n - 1) (by omega) (l[k]).els _ _ he (by omega) (by omega)) <| W rfl (y_max3 rfl rfl rfl) <| W rfl (y_as rfl) <| goq rfl <| t_region ?_
     refine V rfl (y_mv rfl) <| V rfl (y_add rfl rfl (by omega)) <| V rfl (y_as rfl) <| tl_end ?_
     refine tx_loop rfl (again (k + 1) 0 0 29 ?_ ?_ rfl rfl rfl rfl ?_ ?_ rfl rfl rfl)
     · omega
     · omega
     · exact ⟨by show some (Value.int _ _) = some (Value.int _ _); rw [dfold_take _ l k (by omega)], rfl, trivial⟩
     · exact trivial
    ·
     refine exitgo rfl <| sr <| V rfl (y_mv rfl) ?_
     have hdb := dfold_bd (n - 1) l
     rw [List.take_of_length_le (by omega)]
     refine V rfl (y_add rfl rfl (by omega)) <| V rfl (y_as rfl) <| go rfl <| t_ret ?_
     refine tx_end rfl (ret (res1 rfl (rv_t rfl)) fun hI => ⟨?_, rfl⟩)
     first | rw [depth_nil (by omega)] | rw [depth_zero (by omega) (by omega)] | rw [depth_step (by omega) (by omega)]

theorem c_ref19_count {I : Imm}   : ∀ (n : Nat) (l : List Stmt) (A : Option Addr) (cap : Nat) (hl : SRep I l A) (hsz : sizeL l ≤ 1000000) (hn : n ≤ 1000000), PAt Try.prog I 113 [.slice A l.length cap, .int .i64 (n : Int)] (.int .i64 ((visit n l).length : Int)) := by
 intro n
 induction n using Nat.strongRecOn with
 | _ n ih =>
  intro l A cap hl hsz hn
  have hll := length_sizeL l
  refine pat_of fun L => fn_enter Try.func113 rfl rfl rfl ?_
  refine sr <| V rfl (y_as rfl) <| go rfl <| t_seq <| sr <| V rfl (y_mv rfl) <| V rfl (y_lt rfl rfl) <| go rfl ?_
  refine If rfl (fun h1 => ?_) (fun h1 => ?_)
  ·
   refine sr <| V rfl (y_as rfl) <| go rfl <| t_ret ?_
   refine tx_end rfl (ret (res1 rfl (rv_t rfl)) fun hI => ⟨?_, rfl⟩)
   first | (rw [visit_zero (by omega)]; rfl; done) | (rw [visit_eq (by omega)]; simp; done) | (rw [visit_eq (.inr (by omega)), List.take_of_length_le (by omega)]; congr 1; omega)
  ·
   refine skipgo rfl <| sr <| V rfl (y_mv rfl) <| V rfl (y_lens Try.underlying23 rfl) <| V rfl (y_as rfl) <| go rfl <| t_seq <| sr <| V rfl (y_as rfl) <| go rfl ?_
   refine t_block ?_
   refine t_loopG (α := Nat) (fun (k : Nat) => I) (fun (k : Nat) => []) (fun (k : Nat) => [(5, .int .i64 ((l.length : Int) - k + (((l.take k).flatMap (fun s => s :: (visit (n - 1) s.body ++ visit (n - 1) s.els))).length : Int))), (6, .int .i64 (k : Int))]) (fun (k : Nat) => k ≤ l.length) (fun (k : Nat) => l.length - k) 0 ?_ ?_ ?_ ?_ ?_
   · omega
   · rfl
   · exact ⟨by show some (Value.int _ _) = some (Value.int _ _); simp, rfl, trivial⟩
   · exact trivial
   intro k hinv
   have hvl0 := visit_take l (n - 1) k
   have hst0 := visit_le 1 l
   refine t_seq <| sr <| V rfl (y_mv rfl) <| V rfl (y_mv rfl) <| V rfl (y_lens Try.underlying23 rfl) <| V rfl (y_lt rfl rfl) <| go rfl ?_
   refine If rfl (fun h2 => ?_) (fun h2 => ?_)
   ·
    refine skipgo rfl <| t_seq <| t_block <| t_quiet rfl (by kernel_rfl) <| W rfl (y_mv rfl) <| W rfl (y_mv rfl) <| W rfl (y_mv rfl) ?_
    obtain ⟨p, Ab, cb, Ae, ce, rfl, hc, hb, he⟩ := hl.at k (by omega)
    have hst := sizeL_take l k (by omega)
    have hse := (l[k]).size_eq
    have hvl := visit_take l (n - 1) k
    have hv1 := visit_le (n - 1) (l[k]).body
    have hv2 := visit_le (n - 1) (l[k]).els
    refine W rfl (y_ix rfl rfl ix23 (by omega) (by omega)) <| W rfl (y_fa rfl fo78_3) <| W rfl (y_ldi rfl (hc 10 _ rfl) tc23) <| W rfl (y_mv rfl) <| W rfl (y_sub rfl rfl (by omega)) <| Req 24 (.int .i64 ((n - 1 : Nat) : Int)) rfl (by congr 1; omega) <| tq_call rfl en113 rfl (ih (n - 1) (by omega) (l[k]).body _ _ hb (by omega) (by omega)) <| W rfl (y_add rfl rfl (by omega)) <| W rfl (y_mv rfl) <| W rfl (y_mv rfl) ?_
    refine W rfl (y_ix rfl rfl ix23 (by omega) (by omega)) <| W rfl (y_fa rfl fo78_4) <| W rfl (y_ldi rfl (hc 11 _ rfl) tc23) <| W rfl (y_mv rfl) <| W rfl (y_sub rfl rfl (by omega)) <| Req 33 (.int .i64 ((n - 1 : Nat) : Int)) rfl (by congr 1; omega) <| tq_call rfl en113 rfl (ih (n - 1) (by omega) (l[k]).els _ _ he (by omega) (by omega)) <| W rfl (y_add rfl rfl (by omega)) <| W rfl (y_as rfl) <| goq rfl ?_
    refine t_region <| V rfl (y_mv rfl) <| V rfl (y_add rfl rfl (by omega)) <| V rfl (y_as rfl) <| tl_end ?_
    refine tx_loop rfl (again (k + 1) 0 0 30 ?_ ?_ rfl rfl rfl rfl ?_ ?_ rfl rfl rfl)
    · omega
    · omega
    · exact ⟨by show some (Value.int _ _) = some (Value.int _ _); rw [flatMap_take l _ k (by omega)]; congr 2; simp; omega, rfl, trivial⟩
    · exact trivial
   ·
    refine exitgo rfl <| sr <| V rfl (y_mv rfl) <| V rfl (y_as rfl) <| go rfl <| t_ret ?_
    refine tx_end rfl (ret (res1 rfl (rv_t rfl)) fun hI => ⟨?_, rfl⟩)
    first | (rw [visit_zero (by omega)]; rfl; done) | (rw [visit_eq (by omega)]; simp; done) | (rw [visit_eq (.inr (by omega)), List.take_of_length_le (by omega)]; congr 1; omega)

theorem c_ref19_Count {I : Imm} (l : List Stmt) (A : Option Addr) (cap : Nat) (hl : SRep I l A) (hsz : sizeL l ≤ 1000000) : PAt Try.prog I 90 [.slice A l.length cap] (.int .i64 ((visit 20 l).length : Int)) := by
 refine pat_of fun L => fn_enter Try.func90 rfl rfl rfl ?_
 refine sr <| V rfl (y_as rfl) <| go rfl <| sr <| V rfl (y_mv rfl) ?_
 refine Ef (e_call rfl en113 rfl (c_ref19_count 20 l _ _ hl hsz (by omega)) ?_)
 refine V rfl (y_as rfl) <| go rfl <| t_ret ?_
 refine tx_end rfl (ret (res1 rfl (rv_t rfl)) fun hI => ⟨?_, rfl⟩)
 rfl

theorem c_ref19_each {I : Imm} (post : Bool)  : ∀ (n : Nat) (l : List Stmt) (A : Option Addr) (cap : Nat) (hl : SRep I l A) (hok : OkS l) (hsz : sizeL l ≤ 1000000) (hd : deepOK n l = true), PAt Try.prog I 91 [.slice A l.length cap, .bool post] (.bool ((visit n l).all (fun s => rightS s post))) := by
 intro n
 induction n using Nat.strongRecOn with
 | _ n ih =>
  intro l A cap hl hok hsz hd
  have hll := length_sizeL l
  refine pat_of fun L => fn_enter Try.func91 rfl rfl rfl ?_
  refine sr <| V rfl (y_as rfl) <| go rfl <| sr <| V rfl (y_build (vs := [_, _, _, _]) rfl bp74 rfl) ?_
  refine Ef (e_alloc 0 rfl Try.zeroValue74 rfl rfl rfl rfl fun b0 => ?_)
  refine Ef (e_sta 0 rfl rfl rfl rfl rfl rfl ta74 ?_)
  refine go rfl <| t_seq <| sr <| V rfl (y_as rfl) <| go rfl <| t_block ?_
  refine t_loopG (α := Nat) (fun (k : Nat) => I) (fun (k : Nat) => []) (fun (k : Nat) => [(6, .int .i64 (k : Int))]) (fun (k : Nat) => k ≤ l.length ∧ (l.take k).all (fun s => rightS s post && ((visit (n - 1) s.body).all (fun s => rightS s post) && (visit (n - 1) s.els).all (fun s => rightS s post))) = true) (fun (k : Nat) => l.length - k) 0 ?_ ?_ ?_ ?_ ?_
  · exact ⟨by omega, rfl⟩
  · rfl
  · exact ⟨rfl, trivial⟩
  · exact trivial
  intro k hinv
  obtain ⟨hk, hall⟩ := hinv
  refine t_seq <| sr <| V rfl (y_mv rfl) <| V rfl (y_mv rfl) <| V rfl (y_lens Try.underlying23 rfl) <| V rfl (y_lt rfl rfl) <| go rfl ?_
  refine If rfl (fun h1 => ?_) (fun h1 => ?_)
  ·
   try have hxh1 := cond_ext h1
   try have hyh1 := cond_ne h1
   try have hxh1 := ins_ext h1
   try have hyh1 := ins_ne h1
   refine skipgo rfl <| t_seq <| t_block <| sr <| V rfl (y_mv rfl) <| V rfl (y_mv rfl) ?_
   obtain ⟨p, Ab, cb, Ae, ce, rfl, hc, hb, he⟩ := hl.at k (by omega)
   have hst := sizeL_take l k (by omega)
   have hse := (l[k]).size_eq
   obtain ⟨hkd, hop, hcop, hob, hoe⟩ := hok.at k (by omega)
   obtain ⟨hn1, hdb, hde⟩ := deepOK_at hd k (by omega)
   have hv1 := visit_all (n := n) (fun s => rightS s post) (deepOK_or hd)
   have hlb : ((l[k]).body.length : Int) = 0 ↔ (l[k]).body.length = 0 := by omega
   have hle : ((l[k]).els.length : Int) = 0 ↔ (l[k]).els.length = 0 := by omega
   refine V rfl (y_ix rfl rfl ix23 (by omega) (by omega)) <| V rfl (y_ldia rfl ta78 rfl hc) ?_
   refine Ef (e_alloc 1 rfl Try.zeroValue78 rfl rfl rfl rfl fun b1 => ?_)
   refine Ef (e_sta 1 rfl rfl rfl rfl rfl rfl ta78 ?_)
   refine go rfl <| sr <| V rfl (y_as rfl) <| go rfl <| t_seq <| sr <| V rfl (y_fal rfl fo78_0 rfl) <| V rfl (y_ld (i := 1) rfl rfl rfl tc71) <| go rfl <| t_block ?_
   refine sr <| V rfl (y_eq rfl rfl) <| V rfl (y_as rfl) <| go rfl ?_
   refine' JIf1 [8] rfl (fun h2 => ?_) (fun h2 => ?_) ?_ ?_
   rotate_left 2
   ·
    try have hxh2 := cond_ext h2
    try have hyh2 := cond_ne h2
    try have hxh2 := ins_ext h2
    try have hyh2 := ins_ne h2
    refine t_region <| V rfl (y_fal rfl fo78_1 rfl) <| V rfl (y_lda (i := 1) rfl rfl ta74 rfl) <| V rfl (y_mv rfl) ?_
    refine Ef (e_call rfl en114 rfl (c_ref19_plain _ _) ?_)
    refine V rfl (y_mv rfl) ?_
    refine' Jn 28 33 5 rfl (fun h3 => ?_) (fun h3 => ?_) _ rfl ?_
    rotate_left 2
    ·
     try have hxh3 := cond_ext h3
     try have hyh3 := cond_ne h3
     try have hxh3 := ins_ext h3
     try have hyh3 := ins_ne h3
     refine Gt rfl rfl <| V rfl (y_fal rfl fo78_2 rfl) <| Gt rfl rfl <| V rfl (y_lda (i := 1) rfl rfl ta76 rfl) <| Gt rfl rfl <| V rfl (y_build (vs := [_, _, _, _, _]) rfl bp76 rfl) <| Gt rfl rfl <| V rfl (y_eqlst rfl rfl Try.eqGuardType76 (se76 _ _ _ _ _ _ _ _ _ _)) <| V rfl (y_pick (b := true) rfl rfl) <| tl_end ?_
     exact tx_loop rfl (back (rw := []) (sl := [(33, _)]) 0 0 5 rfl rfl rfl ⟨rfl, trivial⟩ trivial rfl rfl)
    ·
     try have hxh3 := cond_ext h3
     try have hyh3 := cond_ne h3
     try have hxh3 := ins_ext h3
     try have hyh3 := ins_ne h3
     refine Gf rfl rfl rfl rfl <| Gf rfl rfl rfl rfl <| Gf rfl rfl rfl rfl <| Gf rfl rfl rfl rfl <| V rfl (y_pick (b := false) rfl rfl) <| tl_end ?_
     exact tx_loop rfl (back (rw := []) (sl := [(33, _)]) 0 0 5 rfl rfl rfl ⟨rfl, trivial⟩ trivial rfl rfl)
    refine V rfl (y_mv rfl) ?_
    refine' Jn 34 39 5 rfl (fun h4 => ?_) (fun h4 => ?_) _ rfl ?_
    rotate_left 2
    ·
     try have hxh4 := cond_ext h4
     try have hyh4 := cond_ne h4
     try have hxh4 := ins_ext h4
     try have hyh4 := ins_ne h4
     refine Gt rfl rfl <| V rfl (y_fal rfl fo78_3 rfl) <| Gt rfl rfl <| V rfl (y_ld (i := 1) rfl rfl rfl tc23) <| Gt rfl rfl <| V rfl (y_lens Try.underlying23 rfl) <| Gt rfl rfl <| V rfl (y_eq rfl rfl) <| V rfl (y_pick (b := true) rfl rfl) <| tl_end ?_
     exact tx_loop rfl (back (rw := []) (sl := [(39, _)]) 0 0 5 rfl rfl rfl ⟨rfl, trivial⟩ trivial rfl rfl)
    ·
     try have hxh4 := cond_ext h4
     try have hyh4 := cond_ne h4
     try have hxh4 := ins_ext h4
     try have hyh4 := ins_ne h4
     refine Gf rfl rfl rfl rfl <| Gf rfl rfl rfl rfl <| Gf rfl rfl rfl rfl <| Gf rfl rfl rfl rfl <| V rfl (y_pick (b := false) rfl rfl) <| tl_end ?_
     exact tx_loop rfl (back (rw := []) (sl := [(39, _)]) 0 0 5 rfl rfl rfl ⟨rfl, trivial⟩ trivial rfl rfl)
    refine V rfl (y_mv rfl) ?_
    refine' Jn 40 45 5 rfl (fun h5 => ?_) (fun h5 => ?_) _ rfl ?_
    rotate_left 2
    ·
     try have hxh5 := cond_ext h5
     try have hyh5 := cond_ne h5
     try have hxh5 := ins_ext h5
     try have hyh5 := ins_ne h5
     refine Gt rfl rfl <| V rfl (y_fal rfl fo78_4 rfl) <| Gt rfl rfl <| V rfl (y_ld (i := 1) rfl rfl rfl tc23) <| Gt rfl rfl <| V rfl (y_lens Try.underlying23 rfl) <| Gt rfl rfl <| V rfl (y_eq rfl rfl) <| V rfl (y_pick (b := true) rfl rfl) <| tl_end ?_
     exact tx_loop rfl (back (rw := []) (sl := [(45, _)]) 0 0 5 rfl rfl rfl ⟨rfl, trivial⟩ trivial rfl rfl)
    ·
     try have hxh5 := cond_ext h5
     try have hyh5 := cond_ne h5
     try have hxh5 := ins_ext h5
     try have hyh5 := ins_ne h5
     refine Gf rfl rfl rfl rfl <| Gf rfl rfl rfl rfl <| Gf rfl rfl rfl rfl <| Gf rfl rfl rfl rfl <| V rfl (y_pick (b := false) rfl rfl) <| tl_end ?_
     exact tx_loop rfl (back (rw := []) (sl := [(45, _)]) 0 0 5 rfl rfl rfl ⟨rfl, trivial⟩ trivial rfl rfl)
    refine V rfl (y_as rfl) <| tl_end ?_
    exact tx_loop rfl (back (rw := []) (sl := [(8, _)]) 0 0 11 rfl rfl rfl ⟨rfl, trivial⟩ trivial rfl rfl)
   ·
    try have hxh2 := cond_ext h2
    try have hyh2 := cond_ne h2
    try have hxh2 := ins_ext h2
    try have hyh2 := ins_ne h2
    refine sr <| V rfl (y_eq rfl rfl) <| V rfl (y_as rfl) <| go rfl ?_
    refine' JIf1 [8] rfl (fun h6 => ?_) (fun h6 => ?_) ?_ ?_
    rotate_left 2
    ·
     try have hxh6 := cond_ext h6
     try have hyh6 := cond_ne h6
     try have hxh6 := ins_ext h6
     try have hyh6 := ins_ne h6
     refine t_region <| V rfl (y_fal rfl fo78_1 rfl) <| V rfl (y_lda (i := 1) rfl rfl ta74 rfl) <| V rfl (y_lda (i := 0) rfl rfl ta74 rfl) <| V rfl (y_eqlst rfl rfl Try.eqGuardType74 (se74 _ _ _ _ _ _ _ _)) <| V rfl (y_mv rfl) ?_
     refine' Jn 52 56 4 rfl (fun h7 => ?_) (fun h7 => ?_) _ rfl ?_
     rotate_left 2
     ·
      try have hxh7 := cond_ext h7
      try have hyh7 := cond_ne h7
      try have hxh7 := ins_ext h7
      try have hyh7 := ins_ne h7
      refine Gt rfl rfl <| V rfl (y_fal rfl fo78_2 rfl) <| Gt rfl rfl <| V rfl (y_lda (i := 1) rfl rfl ta76 rfl) <| Gt rfl rfl ?_
      refine Ef (e_call rfl en115 rfl (c_ref19_condition _) ?_)
      refine V rfl (y_pick (b := true) rfl rfl) <| tl_end ?_
      exact tx_loop rfl (back (rw := []) (sl := [(56, _)]) 0 0 4 rfl rfl rfl ⟨rfl, trivial⟩ trivial rfl rfl)
     ·
      try have hxh7 := cond_ext h7
      try have hyh7 := cond_ne h7
      try have hxh7 := ins_ext h7
      try have hyh7 := ins_ne h7
      refine Gf rfl rfl rfl rfl <| Gf rfl rfl rfl rfl <| Gf rfl rfl rfl rfl <| V rfl (y_pick (b := false) rfl rfl) <| tl_end ?_
      exact tx_loop rfl (back (rw := []) (sl := [(56, _)]) 0 0 4 rfl rfl rfl ⟨rfl, trivial⟩ trivial rfl rfl)
     refine V rfl (y_as rfl) <| tl_end ?_
     exact tx_loop rfl (back (rw := []) (sl := [(8, _)]) 0 0 7 rfl rfl rfl ⟨rfl, trivial⟩ trivial rfl rfl)
    ·
     try have hxh6 := cond_ext h6
     try have hyh6 := cond_ne h6
     try have hxh6 := ins_ext h6
     try have hyh6 := ins_ne h6
     refine sr <| V rfl (y_eq rfl rfl) <| V rfl (y_as rfl) <| go rfl ?_
     refine' JIf1 [8] rfl (fun h8 => ?_) (fun h8 => ?_) ?_ ?_
     rotate_left 2
     ·
      try have hxh8 := cond_ext h8
      try have hyh8 := cond_ne h8
      try have hxh8 := ins_ext h8
      try have hyh8 := ins_ne h8
      refine t_region <| V rfl (y_fal rfl fo78_1 rfl) <| V rfl (y_lda (i := 1) rfl rfl ta74 rfl) <| V rfl (y_lda (i := 0) rfl rfl ta74 rfl) <| V rfl (y_eqlst rfl rfl Try.eqGuardType74 (se74 _ _ _ _ _ _ _ _)) <| V rfl (y_mv rfl) ?_
      refine' Jn 63 67 4 rfl (fun h9 => ?_) (fun h9 => ?_) _ rfl ?_
      rotate_left 2
      ·
       try have hxh9 := cond_ext h9
       try have hyh9 := cond_ne h9
       try have hxh9 := ins_ext h9
       try have hyh9 := ins_ne h9
       refine Gt rfl rfl <| V rfl (y_fal rfl fo78_2 rfl) <| Gt rfl rfl <| V rfl (y_lda (i := 1) rfl rfl ta76 rfl) <| Gt rfl rfl ?_
       refine Ef (e_call rfl en115 rfl (c_ref19_condition _) ?_)
       refine V rfl (y_pick (b := true) rfl rfl) <| tl_end ?_
       exact tx_loop rfl (back (rw := []) (sl := [(67, _)]) 0 0 4 rfl rfl rfl ⟨rfl, trivial⟩ trivial rfl rfl)
      ·
       try have hxh9 := cond_ext h9
       try have hyh9 := cond_ne h9
       try have hxh9 := ins_ext h9
       try have hyh9 := ins_ne h9
       refine Gf rfl rfl rfl rfl <| Gf rfl rfl rfl rfl <| Gf rfl rfl rfl rfl <| V rfl (y_pick (b := false) rfl rfl) <| tl_end ?_
       exact tx_loop rfl (back (rw := []) (sl := [(67, _)]) 0 0 4 rfl rfl rfl ⟨rfl, trivial⟩ trivial rfl rfl)
      refine V rfl (y_mv rfl) ?_
      refine' Jn 68 73 5 rfl (fun h10 => ?_) (fun h10 => ?_) _ rfl ?_
      rotate_left 2
      ·
       try have hxh10 := cond_ext h10
       try have hyh10 := cond_ne h10
       try have hxh10 := ins_ext h10
       try have hyh10 := ins_ne h10
       refine Gt rfl rfl <| V rfl (y_fal rfl fo78_4 rfl) <| Gt rfl rfl <| V rfl (y_ld (i := 1) rfl rfl rfl tc23) <| Gt rfl rfl <| V rfl (y_lens Try.underlying23 rfl) <| Gt rfl rfl <| V rfl (y_eq rfl rfl) <| V rfl (y_pick (b := true) rfl rfl) <| tl_end ?_
       exact tx_loop rfl (back (rw := []) (sl := [(73, _)]) 0 0 5 rfl rfl rfl ⟨rfl, trivial⟩ trivial rfl rfl)
      ·
       try have hxh10 := cond_ext h10
       try have hyh10 := cond_ne h10
       try have hxh10 := ins_ext h10
       try have hyh10 := ins_ne h10
       refine Gf rfl rfl rfl rfl <| Gf rfl rfl rfl rfl <| Gf rfl rfl rfl rfl <| Gf rfl rfl rfl rfl <| V rfl (y_pick (b := false) rfl rfl) <| tl_end ?_
       exact tx_loop rfl (back (rw := []) (sl := [(73, _)]) 0 0 5 rfl rfl rfl ⟨rfl, trivial⟩ trivial rfl rfl)
      refine V rfl (y_as rfl) <| tl_end ?_
      exact tx_loop rfl (back (rw := []) (sl := [(8, _)]) 0 0 9 rfl rfl rfl ⟨rfl, trivial⟩ trivial rfl rfl)
     ·
      try have hxh8 := cond_ext h8
      try have hyh8 := cond_ne h8
      try have hxh8 := ins_ext h8
      try have hyh8 := ins_ne h8
      refine sr <| V rfl (y_eq rfl rfl) <| V rfl (y_as rfl) <| go rfl ?_
      refine' JIf1 [8] rfl (fun h11 => ?_) (fun h11 => ?_) ?_ ?_
      rotate_left 2
      ·
       try have hxh11 := cond_ext h11
       try have hyh11 := cond_ne h11
       try have hxh11 := ins_ext h11
       try have hyh11 := ins_ne h11
       refine t_region <| V rfl (y_fal rfl fo78_1 rfl) <| V rfl (y_lda (i := 1) rfl rfl ta74 rfl) <| V rfl (y_lda (i := 0) rfl rfl ta74 rfl) <| V rfl (y_eqlst rfl rfl Try.eqGuardType74 (se74 _ _ _ _ _ _ _ _)) <| V rfl (y_mv rfl) ?_
       refine' Jn 80 85 5 rfl (fun h12 => ?_) (fun h12 => ?_) _ rfl ?_
       rotate_left 2
       ·
        try have hxh12 := cond_ext h12
        try have hyh12 := cond_ne h12
        try have hxh12 := ins_ext h12
        try have hyh12 := ins_ne h12
        refine Gt rfl rfl <| V rfl (y_fal rfl fo78_2 rfl) <| Gt rfl rfl <| V rfl (y_lda (i := 1) rfl rfl ta76 rfl) <| Gt rfl rfl <| V rfl (y_build (vs := [_, _, _, _, _]) rfl bp76 rfl) <| Gt rfl rfl <| V rfl (y_eqlst rfl rfl Try.eqGuardType76 (se76 _ _ _ _ _ _ _ _ _ _)) <| V rfl (y_pick (b := true) rfl rfl) <| tl_end ?_
        exact tx_loop rfl (back (rw := []) (sl := [(85, _)]) 0 0 5 rfl rfl rfl ⟨rfl, trivial⟩ trivial rfl rfl)
       ·
        try have hxh12 := cond_ext h12
        try have hyh12 := cond_ne h12
        try have hxh12 := ins_ext h12
        try have hyh12 := ins_ne h12
        refine Gf rfl rfl rfl rfl <| Gf rfl rfl rfl rfl <| Gf rfl rfl rfl rfl <| Gf rfl rfl rfl rfl <| V rfl (y_pick (b := false) rfl rfl) <| tl_end ?_
        exact tx_loop rfl (back (rw := []) (sl := [(85, _)]) 0 0 5 rfl rfl rfl ⟨rfl, trivial⟩ trivial rfl rfl)
       refine V rfl (y_mv rfl) ?_
       refine' Jn 86 91 5 rfl (fun h13 => ?_) (fun h13 => ?_) _ rfl ?_
       rotate_left 2
       ·
        try have hxh13 := cond_ext h13
        try have hyh13 := cond_ne h13
        try have hxh13 := ins_ext h13
        try have hyh13 := ins_ne h13
        refine Gt rfl rfl <| V rfl (y_fal rfl fo78_3 rfl) <| Gt rfl rfl <| V rfl (y_ld (i := 1) rfl rfl rfl tc23) <| Gt rfl rfl <| V rfl (y_lens Try.underlying23 rfl) <| Gt rfl rfl <| V rfl (y_eq rfl rfl) <| V rfl (y_pick (b := true) rfl rfl) <| tl_end ?_
        exact tx_loop rfl (back (rw := []) (sl := [(91, _)]) 0 0 5 rfl rfl rfl ⟨rfl, trivial⟩ trivial rfl rfl)
       ·
        try have hxh13 := cond_ext h13
        try have hyh13 := cond_ne h13
        try have hxh13 := ins_ext h13
        try have hyh13 := ins_ne h13
        refine Gf rfl rfl rfl rfl <| Gf rfl rfl rfl rfl <| Gf rfl rfl rfl rfl <| Gf rfl rfl rfl rfl <| V rfl (y_pick (b := false) rfl rfl) <| tl_end ?_
        exact tx_loop rfl (back (rw := []) (sl := [(91, _)]) 0 0 5 rfl rfl rfl ⟨rfl, trivial⟩ trivial rfl rfl)
       refine V rfl (y_mv rfl) ?_
       refine' Jn 92 97 5 rfl (fun h14 => ?_) (fun h14 => ?_) _ rfl ?_
       rotate_left 2
       ·
        try have hxh14 := cond_ext h14
        try have hyh14 := cond_ne h14
        try have hxh14 := ins_ext h14
        try have hyh14 := ins_ne h14
        refine Gt rfl rfl <| V rfl (y_fal rfl fo78_4 rfl) <| Gt rfl rfl <| V rfl (y_ld (i := 1) rfl rfl rfl tc23) <| Gt rfl rfl <| V rfl (y_lens Try.underlying23 rfl) <| Gt rfl rfl <| V rfl (y_eq rfl rfl) <| V rfl (y_pick (b := true) rfl rfl) <| tl_end ?_
        exact tx_loop rfl (back (rw := []) (sl := [(97, _)]) 0 0 5 rfl rfl rfl ⟨rfl, trivial⟩ trivial rfl rfl)
       ·
        try have hxh14 := cond_ext h14
        try have hyh14 := cond_ne h14
        try have hxh14 := ins_ext h14
        try have hyh14 := ins_ne h14
        refine Gf rfl rfl rfl rfl <| Gf rfl rfl rfl rfl <| Gf rfl rfl rfl rfl <| Gf rfl rfl rfl rfl <| V rfl (y_pick (b := false) rfl rfl) <| tl_end ?_
        exact tx_loop rfl (back (rw := []) (sl := [(97, _)]) 0 0 5 rfl rfl rfl ⟨rfl, trivial⟩ trivial rfl rfl)
       refine V rfl (y_as rfl) <| tl_end ?_
       exact tx_loop rfl (back (rw := []) (sl := [(8, _)]) 0 0 11 rfl rfl rfl ⟨rfl, trivial⟩ trivial rfl rfl)
      ·
       try have hxh11 := cond_ext h11
       try have hyh11 := cond_ne h11
       try have hxh11 := ins_ext h11
       try have hyh11 := ins_ne h11
       refine t_skip ?_
       exact tx_loop rfl (back (rw := []) (sl := [(8, _)]) 0 0 0 rfl rfl rfl ⟨rfl, trivial⟩ trivial rfl rfl)
      · rfl
      refine ?_
      exact tx_loop rfl (back (rw := []) (sl := [(8, _)]) 0 0 3 rfl rfl rfl ⟨rfl, trivial⟩ trivial rfl rfl)
     · rfl
     refine ?_
     exact tx_loop rfl (back (rw := []) (sl := [(8, _)]) 0 0 3 rfl rfl rfl ⟨rfl, trivial⟩ trivial rfl rfl)
    · rfl
    refine ?_
    exact tx_loop rfl (back (rw := []) (sl := [(8, _)]) 0 0 3 rfl rfl rfl ⟨rfl, trivial⟩ trivial rfl rfl)
   · rfl
   refine Re 8 (.bool (rightS l[k] post)) rfl (by show Value.bool _ = Value.bool _; congr 1; simp only [ins_dec, cond_dec, hlb, hle]; exact ref_ok _ _) ?_
   show TX _ _ _ _ _ _ _
   refine tx_go rfl <| sr <| V rfl (y_mv rfl) <| V rfl (y_not rfl) <| V rfl (y_mv rfl) ?_
   refine' Jn 100 106 6 rfl (fun h15 => ?_) (fun h15 => ?_) _ rfl ?_
   rotate_left 2
   ·
    try have hxh15 := cond_ext h15
    try have hyh15 := cond_ne h15
    try have hxh15 := ins_ext h15
    try have hyh15 := ins_ne h15
    refine Gf rfl rfl rfl rfl <| Gf rfl rfl rfl rfl <| Gf rfl rfl rfl rfl <| Gf rfl rfl rfl rfl <| Gf rfl rfl rfl rfl <| V rfl (y_pick (b := true) rfl rfl) <| tl_end ?_
    exact tx_loop rfl (back (rw := []) (sl := [(106, _)]) 0 0 6 rfl rfl rfl ⟨rfl, trivial⟩ trivial rfl rfl)
   ·
    try have hxh15 := cond_ext h15
    try have hyh15 := cond_ne h15
    try have hxh15 := ins_ext h15
    try have hyh15 := ins_ne h15
    refine Gt rfl rfl <| V rfl (y_fal rfl fo78_3 rfl) <| Gt rfl rfl <| V rfl (y_ld (i := 1) rfl rfl rfl tc23) <| Gt rfl rfl <| V rfl (y_mv rfl) <| Gt rfl rfl ?_
    refine Ef (e_call rfl en91 rfl (ih (n - 1) (by omega) (l[k]).body _ _ hb hob (by omega) hdb) ?_)
    refine Gt rfl rfl <| V rfl (y_not rfl) <| V rfl (y_pick (b := false) rfl rfl) <| tl_end ?_
    exact tx_loop rfl (back (rw := []) (sl := [(106, _)]) 0 0 6 rfl rfl rfl ⟨rfl, trivial⟩ trivial rfl rfl)
   refine V rfl (y_mv rfl) ?_
   refine' Jn 107 113 6 rfl (fun h16 => ?_) (fun h16 => ?_) _ rfl ?_
   rotate_left 2
   ·
    try have hxh16 := cond_ext h16
    try have hyh16 := cond_ne h16
    try have hxh16 := ins_ext h16
    try have hyh16 := ins_ne h16
    refine Gf rfl rfl rfl rfl <| Gf rfl rfl rfl rfl <| Gf rfl rfl rfl rfl <| Gf rfl rfl rfl rfl <| Gf rfl rfl rfl rfl <| V rfl (y_pick (b := true) rfl rfl) <| tl_end ?_
    exact tx_loop rfl (back (rw := []) (sl := [(113, _)]) 0 0 6 rfl rfl rfl ⟨rfl, trivial⟩ trivial rfl rfl)
   ·
    try have hxh16 := cond_ext h16
    try have hyh16 := cond_ne h16
    try have hxh16 := ins_ext h16
    try have hyh16 := ins_ne h16
    refine Gt rfl rfl <| V rfl (y_fal rfl fo78_4 rfl) <| Gt rfl rfl <| V rfl (y_ld (i := 1) rfl rfl rfl tc23) <| Gt rfl rfl <| V rfl (y_mv rfl) <| Gt rfl rfl ?_
    refine Ef (e_call rfl en91 rfl (ih (n - 1) (by omega) (l[k]).els _ _ he hoe (by omega) hde) ?_)
    refine Gt rfl rfl <| V rfl (y_not rfl) <| V rfl (y_pick (b := false) rfl rfl) <| tl_end ?_
    exact tx_loop rfl (back (rw := []) (sl := [(113, _)]) 0 0 6 rfl rfl rfl ⟨rfl, trivial⟩ trivial rfl rfl)
   refine go rfl ?_
   refine If rfl (fun h17 => ?_) (fun h17 => ?_)
   ·
    try have hxh17 := cond_ext h17
    try have hyh17 := cond_ne h17
    try have hxh17 := ins_ext h17
    try have hyh17 := ins_ne h17
    refine sr <| V rfl (y_as rfl) <| go rfl <| t_ret ?_
    refine tx_end rfl (ret (res1 rfl (rv_t rfl)) fun hI => ⟨?_, rfl⟩)
    first | (rw [visit_all (fun s => rightS s post) (deepOK_or hd)]; rw [List.take_of_length_le (by omega)] at hall; rw [hall]; done) | (clear ih; rw [hv1]; symm; congr 1; rw [List.all_eq_false]; exact ⟨l[k], List.getElem_mem _, by clear hall hv1 hst; grind⟩) | (clear ih; grind [rightS])
   ·
    try have hxh17 := cond_ext h17
    try have hyh17 := cond_ne h17
    try have hxh17 := ins_ext h17
    try have hyh17 := ins_ne h17
    refine skipgo rfl <| t_region <| V rfl (y_mv rfl) <| V rfl (y_add rfl rfl (by omega)) <| V rfl (y_as rfl) <| tl_end ?_
    refine tx_loop rfl (again (k + 1) 1 2 27 ?_ ?_ rfl rfl rfl rfl ?_ ?_ rfl rfl rfl)
    · omega
    · exact ⟨by omega, by rw [all_take l _ k (by omega), hall]; simp_all⟩
    · exact ⟨rfl, trivial⟩
    · exact trivial
  ·
   try have hxh1 := cond_ext h1
   try have hyh1 := cond_ne h1
   try have hxh1 := ins_ext h1
   try have hyh1 := ins_ne h1
   refine exitgo rfl <| sr <| V rfl (y_as rfl) <| go rfl <| t_ret ?_
   refine tx_end rfl (ret (res1 rfl (rv_t rfl)) fun hI => ⟨?_, rfl⟩)
   first | (rw [visit_all (fun s => rightS s post) (deepOK_or hd)]; rw [List.take_of_length_le (by omega)] at hall; rw [hall]; done) | (clear ih; rw [hv1]; symm; congr 1; rw [List.all_eq_false]; exact ⟨l[k], List.getElem_mem _, by clear hall hv1 hst; grind⟩) | (clear ih; grind [rightS])

theorem c_ref19_Right {I : Imm} (l : List Stmt) (post : Bool) (A : Option Addr) (cap : Nat) (hl : SRep I l A) (hok : OkS l) (hsz : sizeL l ≤ 1000000) : PAt Try.prog I 54 [.slice A l.length cap, .bool post] (.bool (rightL l post)) := by
 have hdd := depth_deep 20 l
 refine pat_of fun L => fn_enter Try.func54 rfl rfl rfl ?_
 refine sr <| V rfl (y_as rfl) <| go rfl <| sr <| V rfl (y_mv rfl) ?_
 refine Ef (e_call rfl en89 rfl (c_ref19_Depth 21 l _ _ hl hsz (by omega)) ?_)
 refine V rfl (y_le rfl rfl) <| V rfl (y_mv rfl) ?_
 refine' Jn 8 12 4 rfl (fun h1 => ?_) (fun h1 => ?_) _ rfl ?_
 rotate_left 2
 ·
  try have hdh1 := hdd.1 h1
  refine Gt rfl rfl <| V rfl (y_mv rfl) <| Gt rfl rfl ?_
  refine Ef (e_call rfl en90 rfl (c_ref19_Count _ _ _ hl hsz) ?_)
  refine Gt rfl rfl <| V rfl (y_le rfl rfl) <| V rfl (y_pick (b := true) rfl rfl) <| tl_end ?_
  exact tx_loop rfl (back (rw := []) (sl := [(12, _)]) 0 0 4 rfl rfl rfl ⟨rfl, trivial⟩ trivial rfl rfl)
 ·
  try have hdh1 := hdd.1 h1
  refine Gf rfl rfl rfl rfl <| Gf rfl rfl rfl rfl <| Gf rfl rfl rfl rfl <| V rfl (y_pick (b := false) rfl rfl) <| tl_end ?_
  exact tx_loop rfl (back (rw := []) (sl := [(12, _)]) 0 0 4 rfl rfl rfl ⟨rfl, trivial⟩ trivial rfl rfl)
 refine V rfl (y_mv rfl) ?_
 refine' Jn 13 17 4 rfl (fun h2 => ?_) (fun h2 => ?_) _ rfl ?_
 rotate_left 2
 ·
  try have hdh2 := hdd.1 h2
  refine Gt rfl rfl <| V rfl (y_mv rfl) <| Gt rfl rfl <| V rfl (y_mv rfl) <| Gt rfl rfl ?_
  refine Ef (e_call rfl en91 rfl (c_ref19_each post 20 l _ _ hl hok hsz (hdd.1 (by simp_all))) ?_)
  refine V rfl (y_pick (b := true) rfl rfl) <| tl_end ?_
  exact tx_loop rfl (back (rw := []) (sl := [(17, _)]) 0 0 4 rfl rfl rfl ⟨rfl, trivial⟩ trivial rfl rfl)
 ·
  try have hdh2 := hdd.1 h2
  refine Gf rfl rfl rfl rfl <| Gf rfl rfl rfl rfl <| Gf rfl rfl rfl rfl <| V rfl (y_pick (b := false) rfl rfl) <| tl_end ?_
  exact tx_loop rfl (back (rw := []) (sl := [(17, _)]) 0 0 4 rfl rfl rfl ⟨rfl, trivial⟩ trivial rfl rfl)
 refine V rfl (y_as rfl) <| go rfl <| t_ret ?_
 refine tx_end rfl (ret (res1 rfl (rv_t rfl)) fun hI => ⟨?_, rfl⟩)
 first | (simp only [rightL]; grind) | grind [rightL]

theorem c_ref19_Config {I : Imm} (c : Conf) (Ap Aq Ar : Option Addr) (cp cq cr : Nat) (hc : c.Ok I Ap Aq Ar) : PAt Try.prog I 31 [.agg #[.int .i64 c.size, .int .i64 c.cells, .int .i64 c.sa, .int .i64 c.sb, .slice Ap c.parts.length cp, .slice Aq c.pre.length cq, .slice Ar c.post.length cr, .bool c.flag]] (.bool (rightSyn c)) := by
 refine pat_of fun L => fn_enter Try.func31 rfl rfl rfl ?_
 refine sr ?_
 refine Ef (e_box 0 rfl rfl rfl rfl rfl rfl fun b0 => ?_)
 refine V rfl (y_as rfl) <| go rfl <| sr <| V rfl (y_fal rfl fo25_5 rfl) <| V rfl (y_ld (i := 0) rfl rfl rfl tc23) ?_
 refine Ef (e_call rfl en54 rfl (c_ref19_Right _ _ _ _ hc.pre hc.okq hc.szq) ?_)
 refine V rfl (y_mv rfl) ?_
 refine' Jn 6 10 4 rfl (fun h1 => ?_) (fun h1 => ?_) _ rfl ?_
 rotate_left 2
 ·
  refine Gt rfl rfl <| V rfl (y_fal rfl fo25_6 rfl) <| Gt rfl rfl <| V rfl (y_ld (i := 0) rfl rfl rfl tc23) <| Gt rfl rfl ?_
  refine Ef (e_call rfl en54 rfl (c_ref19_Right _ _ _ _ hc.post hc.okr hc.szr) ?_)
  refine V rfl (y_pick (b := true) rfl rfl) <| tl_end ?_
  exact tx_loop rfl (back (rw := []) (sl := [(10, _)]) 0 0 4 rfl rfl rfl ⟨rfl, trivial⟩ trivial rfl rfl)
 ·
  refine Gf rfl rfl rfl rfl <| Gf rfl rfl rfl rfl <| Gf rfl rfl rfl rfl <| V rfl (y_pick (b := false) rfl rfl) <| tl_end ?_
  exact tx_loop rfl (back (rw := []) (sl := [(10, _)]) 0 0 4 rfl rfl rfl ⟨rfl, trivial⟩ trivial rfl rfl)
 refine V rfl (y_mv rfl) ?_
 refine' Jn 11 30 19 rfl (fun h2 => ?_) (fun h2 => ?_) _ rfl ?_
 rotate_left 2
 ·
  refine Gt rfl rfl <| V rfl (y_fal rfl fo25_7 rfl) <| Gt rfl rfl <| V rfl (y_ld (i := 0) rfl rfl rfl tc4) <| Gt rfl rfl <| V rfl (y_mv rfl) ?_
  refine' Jn 14 29 15 rfl (fun h3 => ?_) (fun h3 => ?_) _ rfl ?_
  rotate_left 2
  ·
   refine Gf rfl rfl rfl rfl <| Gf rfl rfl rfl rfl <| Gf rfl rfl rfl rfl <| Gf rfl rfl rfl rfl <| Gf rfl rfl rfl rfl <| Gu rfl rfl rfl <| Gu rfl rfl rfl <| Gu rfl rfl rfl <| Gf rfl rfl rfl rfl <| Gf rfl rfl rfl rfl ?_
   refine Gu rfl rfl rfl <| Gu rfl rfl rfl <| Gu rfl rfl rfl <| Gf rfl rfl rfl rfl <| Gt rfl rfl <| V rfl (y_pick (b := true) rfl rfl) <| tl_end ?_
   exact tx_loop rfl (back (rw := []) (sl := [(29, _)]) 0 0 15 rfl rfl rfl ⟨rfl, trivial⟩ trivial rfl rfl)
  ·
   refine Gt rfl rfl <| V rfl (y_fal rfl fo25_6 rfl) <| Gt rfl rfl <| V rfl (y_ld (i := 0) rfl rfl rfl tc23) <| Gt rfl rfl <| V rfl (y_lens Try.underlying23 rfl) <| Gt rfl rfl <| V rfl (y_eq rfl rfl) <| Gt rfl rfl <| V rfl (y_mv rfl) ?_
   refine' Jn 19 23 4 rfl (fun h4 => ?_) (fun h4 => ?_) _ rfl ?_
   rotate_left 2
   ·
    refine Gt rfl rfl <| V rfl (y_fal rfl fo25_2 rfl) <| Gt rfl rfl <| V rfl (y_ld (i := 0) rfl rfl rfl tc3) <| Gt rfl rfl <| V rfl (y_eq rfl rfl) <| Gt rfl rfl <| V rfl (y_pick (b := true) rfl rfl) <| tl_end ?_
    exact tx_loop rfl (back (rw := []) (sl := [(23, _)]) 0 0 4 rfl rfl rfl ⟨rfl, trivial⟩ trivial rfl rfl)
   ·
    refine Gf rfl rfl rfl rfl <| Gf rfl rfl rfl rfl <| Gf rfl rfl rfl rfl <| Gt rfl rfl <| V rfl (y_pick (b := false) rfl rfl) <| tl_end ?_
    exact tx_loop rfl (back (rw := []) (sl := [(23, _)]) 0 0 4 rfl rfl rfl ⟨rfl, trivial⟩ trivial rfl rfl)
   refine Gt rfl rfl <| V rfl (y_mv rfl) ?_
   refine' Jn 24 28 4 rfl (fun h5 => ?_) (fun h5 => ?_) _ rfl ?_
   rotate_left 2
   ·
    refine Gt rfl rfl <| V rfl (y_fal rfl fo25_3 rfl) <| Gt rfl rfl <| V rfl (y_ld (i := 0) rfl rfl rfl tc3) <| Gt rfl rfl <| V rfl (y_eq rfl rfl) <| Gt rfl rfl <| V rfl (y_pick (b := true) rfl rfl) <| tl_end ?_
    exact tx_loop rfl (back (rw := []) (sl := [(28, _)]) 0 0 4 rfl rfl rfl ⟨rfl, trivial⟩ trivial rfl rfl)
   ·
    refine Gf rfl rfl rfl rfl <| Gf rfl rfl rfl rfl <| Gf rfl rfl rfl rfl <| Gt rfl rfl <| V rfl (y_pick (b := false) rfl rfl) <| tl_end ?_
    exact tx_loop rfl (back (rw := []) (sl := [(28, _)]) 0 0 4 rfl rfl rfl ⟨rfl, trivial⟩ trivial rfl rfl)
   refine Gt rfl rfl <| V rfl (y_pick (b := false) rfl rfl) <| tl_end ?_
   exact tx_loop rfl (back (rw := []) (sl := [(29, _)]) 0 0 9 rfl rfl rfl ⟨rfl, trivial⟩ trivial rfl rfl)
  refine V rfl (y_pick (b := true) rfl rfl) <| tl_end ?_
  exact tx_loop rfl (back (rw := []) (sl := [(30, _)]) 0 0 5 rfl rfl rfl ⟨rfl, trivial⟩ trivial rfl rfl)
 ·
  refine Gf rfl rfl rfl rfl <| Gf rfl rfl rfl rfl <| Gf rfl rfl rfl rfl <| Gu rfl rfl rfl <| Gu rfl rfl rfl <| Gu rfl rfl rfl <| Gu rfl rfl rfl <| Gu rfl rfl rfl <| Gu rfl rfl rfl <| Gu rfl rfl rfl ?_
  refine Gu rfl rfl rfl <| Gu rfl rfl rfl <| Gu rfl rfl rfl <| Gu rfl rfl rfl <| Gu rfl rfl rfl <| Gu rfl rfl rfl <| Gu rfl rfl rfl <| Gf rfl rfl rfl rfl <| V rfl (y_pick (b := false) rfl rfl) <| tl_end ?_
  exact tx_loop rfl (back (rw := []) (sl := [(30, _)]) 0 0 19 rfl rfl rfl ⟨rfl, trivial⟩ trivial rfl rfl)
 refine V rfl (y_as rfl) <| go rfl <| t_ret ?_
 refine tx_end rfl (ret (res1 rfl (rv_t rfl)) fun hI => ⟨?_, rfl⟩)
 grind [rightSyn]

theorem c_ref21_Check {I : Imm} (c : Conf) (Ap Aq Ar : Option Addr) (cp cq cr : Nat) (hc : c.Ok I Ap Aq Ar) : PAt Try.prog I 11 [.agg #[.int .i64 c.size, .int .i64 c.cells, .int .i64 c.sa, .int .i64 c.sb, .slice Ap c.parts.length cp, .slice Aq c.pre.length cq, .slice Ar c.post.length cr, .bool c.flag]] (.int .i64 (checkE c)) := by
 refine pat_of fun L => fn_enter Try.func11 rfl rfl rfl ?_
 refine sr ?_
 refine Ef (e_box 0 rfl rfl rfl rfl rfl rfl fun b0 => ?_)
 refine V rfl (y_as rfl) <| go rfl <| t_seq <| sr <| V rfl (y_lda (i := 0) rfl rfl ta25 rfl) ?_
 refine Ef (e_call rfl en31 rfl (c_ref19_Config _ _ _ _ _ _ _ hc) ?_)
 refine V rfl (y_not rfl) <| go rfl ?_
 refine If rfl (fun h1 => ?_) (fun h1 => ?_)
 ·
  refine sr <| V rfl (y_as rfl) <| go rfl <| t_ret ?_
  refine tx_end rfl (ret (res1 rfl (rv_t rfl)) fun hI => ⟨?_, rfl⟩)
  first | grind [checkE, inM] | (have hk : k = c.size.toNat := (by omega); subst hk; grind [checkE, inM])
 ·
  refine skipgo rfl <| t_seq <| sr <| V rfl (y_fal rfl fo25_0 rfl) <| V rfl (y_ld (i := 0) rfl rfl rfl tc3) <| V rfl (y_lt rfl rfl) <| V rfl (y_mv rfl) ?_
  refine' Jn 12 16 4 rfl (fun h2 => ?_) (fun h2 => ?_) _ rfl ?_
  rotate_left 2
  ·
   refine Gf rfl rfl rfl rfl <| Gf rfl rfl rfl rfl <| Gf rfl rfl rfl rfl <| V rfl (y_pick (b := true) rfl rfl) <| tl_end ?_
   exact tx_loop rfl (back (rw := []) (sl := [(16, _)]) 0 0 4 rfl rfl rfl ⟨rfl, trivial⟩ trivial rfl rfl)
  ·
   refine Gt rfl rfl <| V rfl (y_fal rfl fo25_0 rfl) <| Gt rfl rfl <| V rfl (y_ld (i := 0) rfl rfl rfl tc3) <| Gt rfl rfl <| V rfl (y_gt rfl rfl) <| V rfl (y_pick (b := false) rfl rfl) <| tl_end ?_
   exact tx_loop rfl (back (rw := []) (sl := [(16, _)]) 0 0 4 rfl rfl rfl ⟨rfl, trivial⟩ trivial rfl rfl)
  refine V rfl (y_mv rfl) ?_
  refine' Jn 17 21 4 rfl (fun h3 => ?_) (fun h3 => ?_) _ rfl ?_
  rotate_left 2
  ·
   refine Gf rfl rfl rfl rfl <| Gf rfl rfl rfl rfl <| Gf rfl rfl rfl rfl <| V rfl (y_pick (b := true) rfl rfl) <| tl_end ?_
   exact tx_loop rfl (back (rw := []) (sl := [(21, _)]) 0 0 4 rfl rfl rfl ⟨rfl, trivial⟩ trivial rfl rfl)
  ·
   refine Gt rfl rfl <| V rfl (y_fal rfl fo25_2 rfl) <| Gt rfl rfl <| V rfl (y_ld (i := 0) rfl rfl rfl tc3) <| Gt rfl rfl <| V rfl (y_lt rfl rfl) <| V rfl (y_pick (b := false) rfl rfl) <| tl_end ?_
   exact tx_loop rfl (back (rw := []) (sl := [(21, _)]) 0 0 4 rfl rfl rfl ⟨rfl, trivial⟩ trivial rfl rfl)
  refine V rfl (y_mv rfl) ?_
  refine' Jn 22 26 4 rfl (fun h4 => ?_) (fun h4 => ?_) _ rfl ?_
  rotate_left 2
  ·
   refine Gf rfl rfl rfl rfl <| Gf rfl rfl rfl rfl <| Gf rfl rfl rfl rfl <| V rfl (y_pick (b := true) rfl rfl) <| tl_end ?_
   exact tx_loop rfl (back (rw := []) (sl := [(26, _)]) 0 0 4 rfl rfl rfl ⟨rfl, trivial⟩ trivial rfl rfl)
  ·
   refine Gt rfl rfl <| V rfl (y_fal rfl fo25_2 rfl) <| Gt rfl rfl <| V rfl (y_ld (i := 0) rfl rfl rfl tc3) <| Gt rfl rfl <| V rfl (y_gt rfl rfl) <| V rfl (y_pick (b := false) rfl rfl) <| tl_end ?_
   exact tx_loop rfl (back (rw := []) (sl := [(26, _)]) 0 0 4 rfl rfl rfl ⟨rfl, trivial⟩ trivial rfl rfl)
  refine V rfl (y_mv rfl) ?_
  refine' Jn 27 31 4 rfl (fun h5 => ?_) (fun h5 => ?_) _ rfl ?_
  rotate_left 2
  ·
   refine Gf rfl rfl rfl rfl <| Gf rfl rfl rfl rfl <| Gf rfl rfl rfl rfl <| V rfl (y_pick (b := true) rfl rfl) <| tl_end ?_
   exact tx_loop rfl (back (rw := []) (sl := [(31, _)]) 0 0 4 rfl rfl rfl ⟨rfl, trivial⟩ trivial rfl rfl)
  ·
   refine Gt rfl rfl <| V rfl (y_fal rfl fo25_1 rfl) <| Gt rfl rfl <| V rfl (y_ld (i := 0) rfl rfl rfl tc3) <| Gt rfl rfl <| V rfl (y_lt rfl rfl) <| V rfl (y_pick (b := false) rfl rfl) <| tl_end ?_
   exact tx_loop rfl (back (rw := []) (sl := [(31, _)]) 0 0 4 rfl rfl rfl ⟨rfl, trivial⟩ trivial rfl rfl)
  refine V rfl (y_mv rfl) ?_
  refine' Jn 32 36 4 rfl (fun h6 => ?_) (fun h6 => ?_) _ rfl ?_
  rotate_left 2
  ·
   refine Gf rfl rfl rfl rfl <| Gf rfl rfl rfl rfl <| Gf rfl rfl rfl rfl <| V rfl (y_pick (b := true) rfl rfl) <| tl_end ?_
   exact tx_loop rfl (back (rw := []) (sl := [(36, _)]) 0 0 4 rfl rfl rfl ⟨rfl, trivial⟩ trivial rfl rfl)
  ·
   refine Gt rfl rfl <| V rfl (y_fal rfl fo25_1 rfl) <| Gt rfl rfl <| V rfl (y_ld (i := 0) rfl rfl rfl tc3) <| Gt rfl rfl <| V rfl (y_gt rfl rfl) <| V rfl (y_pick (b := false) rfl rfl) <| tl_end ?_
   exact tx_loop rfl (back (rw := []) (sl := [(36, _)]) 0 0 4 rfl rfl rfl ⟨rfl, trivial⟩ trivial rfl rfl)
  refine V rfl (y_mv rfl) ?_
  refine' Jn 37 41 4 rfl (fun h7 => ?_) (fun h7 => ?_) _ rfl ?_
  rotate_left 2
  ·
   refine Gf rfl rfl rfl rfl <| Gf rfl rfl rfl rfl <| Gf rfl rfl rfl rfl <| V rfl (y_pick (b := true) rfl rfl) <| tl_end ?_
   exact tx_loop rfl (back (rw := []) (sl := [(41, _)]) 0 0 4 rfl rfl rfl ⟨rfl, trivial⟩ trivial rfl rfl)
  ·
   refine Gt rfl rfl <| V rfl (y_fal rfl fo25_3 rfl) <| Gt rfl rfl <| V rfl (y_ld (i := 0) rfl rfl rfl tc3) <| Gt rfl rfl <| V rfl (y_lt rfl rfl) <| V rfl (y_pick (b := false) rfl rfl) <| tl_end ?_
   exact tx_loop rfl (back (rw := []) (sl := [(41, _)]) 0 0 4 rfl rfl rfl ⟨rfl, trivial⟩ trivial rfl rfl)
  refine V rfl (y_mv rfl) ?_
  refine' Jn 42 46 4 rfl (fun h8 => ?_) (fun h8 => ?_) _ rfl ?_
  rotate_left 2
  ·
   refine Gf rfl rfl rfl rfl <| Gf rfl rfl rfl rfl <| Gf rfl rfl rfl rfl <| V rfl (y_pick (b := true) rfl rfl) <| tl_end ?_
   exact tx_loop rfl (back (rw := []) (sl := [(46, _)]) 0 0 4 rfl rfl rfl ⟨rfl, trivial⟩ trivial rfl rfl)
  ·
   refine Gt rfl rfl <| V rfl (y_fal rfl fo25_3 rfl) <| Gt rfl rfl <| V rfl (y_ld (i := 0) rfl rfl rfl tc3) <| Gt rfl rfl <| V rfl (y_gt rfl rfl) <| V rfl (y_pick (b := false) rfl rfl) <| tl_end ?_
   exact tx_loop rfl (back (rw := []) (sl := [(46, _)]) 0 0 4 rfl rfl rfl ⟨rfl, trivial⟩ trivial rfl rfl)
  refine go rfl ?_
  refine If rfl (fun h9 => ?_) (fun h9 => ?_)
  ·
   refine sr <| V rfl (y_as rfl) <| go rfl <| t_ret ?_
   refine tx_end rfl (ret (res1 rfl (rv_t rfl)) fun hI => ⟨?_, rfl⟩)
   first | grind [checkE, inM] | (have hk : k = c.size.toNat := (by omega); subst hk; grind [checkE, inM])
  ·
   refine skipgo rfl <| sr <| V rfl (y_fal rfl fo25_4 rfl) <| V rfl (y_ld (i := 0) rfl rfl rfl tc22) ?_
   refine Ef (e_call rfl en32 rfl (c_ref11_Right _ _ _ hc.parts) ?_)
   refine V rfl (y_as rfl) <| go rfl <| t_seq <| sr <| V rfl (y_mv rfl) <| V rfl (y_ne rfl rfl) <| go rfl ?_
   refine If rfl (fun h10 => ?_) (fun h10 => ?_)
   ·
    refine sr <| V rfl (y_mv rfl) <| V rfl (y_as rfl) <| go rfl <| t_ret ?_
    refine tx_end rfl (ret (res1 rfl (rv_t rfl)) fun hI => ⟨?_, rfl⟩)
    first | grind [checkE, inM] | (have hk : k = c.size.toNat := (by omega); subst hk; grind [checkE, inM])
   ·
    refine skipgo rfl <| sr <| V rfl (y_as rfl) <| go rfl <| t_seq <| sr <| V rfl (y_as rfl) <| go rfl <| t_block ?_
    refine t_loopG (α := Nat) (fun (k : Nat) => I) (fun (k : Nat) => []) (fun (k : Nat) => [(4, .int .i64 (pow2 k)), (5, .int .i64 (k : Int))]) (fun (k : Nat) => k ≤ c.size.toNat) (fun (k : Nat) => c.size.toNat - k) 0 ?_ ?_ ?_ ?_ ?_
    · omega
    · rfl
    · exact ⟨rfl, rfl, trivial⟩
    · exact trivial
    intro k hinv
    have hpk := pow2_le (m := k) (n := 8) (by omega)
    have hp8 : pow2 8 = 256 := by decide
    have hpp := pow2_pos k
    refine t_seq <| sr <| V rfl (y_mv rfl) <| V rfl (y_fal rfl fo25_0 rfl) <| V rfl (y_ld (i := 0) rfl rfl rfl tc3) <| V rfl (y_lt rfl rfl) <| go rfl ?_
    refine If rfl (fun h11 => ?_) (fun h11 => ?_)
    ·
     refine skipgo rfl <| t_seq <| t_block <| t_region <| V rfl (y_mv rfl) <| V rfl (y_mul rfl rfl (by omega)) <| V rfl (y_as rfl) <| go rfl <| t_region <| V rfl (y_mv rfl) ?_
     refine V rfl (y_add rfl rfl (by omega)) <| V rfl (y_as rfl) <| tl_end ?_
     refine tx_loop rfl (again (k + 1) 0 0 11 ?_ ?_ rfl rfl rfl rfl ?_ ?_ rfl rfl rfl)
     · omega
     · omega
     · exact ⟨rfl, rfl, trivial⟩
     · exact trivial
    ·
     refine exitgo rfl <| t_seq <| sr <| V rfl (y_fal rfl fo25_4 rfl) <| V rfl (y_ld (i := 0) rfl rfl rfl tc22) <| V rfl (y_lens Try.underlying22 rfl) <| V rfl (y_mv rfl) <| V rfl (y_gt rfl rfl) <| go rfl ?_
     refine If rfl (fun h12 => ?_) (fun h12 => ?_)
     ·
      refine sr <| V rfl (y_as rfl) <| go rfl <| t_ret ?_
      refine tx_end rfl (ret (res1 rfl (rv_t rfl)) fun hI => ⟨?_, rfl⟩)
      first | grind [checkE, inM] | (have hk : k = c.size.toNat := (by omega); subst hk; grind [checkE, inM])
     ·
      refine skipgo rfl <| sr <| V rfl (y_as rfl) <| go rfl <| t_ret ?_
      refine tx_end rfl (ret (res1 rfl (rv_t rfl)) fun hI => ⟨?_, rfl⟩)
      first | grind [checkE, inM] | (have hk : k = c.size.toNat := (by omega); subst hk; grind [checkE, inM])

end Go.Proofs.Ytngdkgddeobiiaa
