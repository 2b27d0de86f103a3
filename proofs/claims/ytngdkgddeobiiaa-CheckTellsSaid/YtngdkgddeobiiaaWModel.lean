/- Walks, printed by my gen.py: model_Right. -/
import Derived.Test.YtngdkgddeobiiaaFacts
import Derived.Test.YtngdkgddeobiiaaPRef
import Derived.Test.YtngdkgddeobiiaaWConf
namespace Go.Proofs.Ytngdkgddeobiiaa
open Go Go.TL Go.RowKit
set_option maxRecDepth 100000


theorem c_model_Right {I : Imm} (size cells sa sb : Int) (l : List Part) (na nb : Nat) (Ap Aa An : Option Addr) (cp ca cb : Nat) (hl : SlI I 7 Ap (l.map Part.cells)) (hk : ∀ p ∈ l, 0 ≤ p.kind) (hn : l.length ≤ 1000000 ∧ na ≤ 1000000 ∧ nb ≤ 1000000) : PAt Try.prog I 14 [.agg #[.int .i64 size, .int .i64 cells, .int .i64 sa, .int .i64 sb, .slice Ap l.length cp, .slice Aa na ca, .slice An nb cb]] (.int .i64 (modelE size cells sa sb l na nb)) := by
 refine pat_of fun L => fn_enter Try.func14 rfl rfl rfl ?_
 refine sr ?_
 refine Ef (e_box 0 rfl rfl rfl rfl rfl rfl fun b0 => ?_)
 refine V rfl (y_as rfl) <| go rfl <| t_seq <| sr <| V rfl (y_fal rfl fo35_0 rfl) <| V rfl (y_ld (i := 0) rfl rfl rfl tc3) <| V rfl (y_build (vs := [_, _]) rfl bp65 rfl) <| V rfl (y_fal rfl fo35_2 rfl) <| V rfl (y_ld (i := 0) rfl rfl rfl tc3) <| V rfl (y_build (vs := [_, _]) rfl bp65 rfl) ?_
 refine V rfl (y_fal rfl fo35_1 rfl) <| V rfl (y_ld (i := 0) rfl rfl rfl tc3) <| V rfl (y_build (vs := [_, _]) rfl bp65 rfl) <| V rfl (y_fal rfl fo35_3 rfl) <| V rfl (y_ld (i := 0) rfl rfl rfl tc3) <| V rfl (y_build (vs := [_, _]) rfl bp65 rfl) <| V rfl (y_fal rfl fo35_5 rfl) <| V rfl (y_ld (i := 0) rfl rfl rfl tc32) <| V rfl (y_lens Try.underlying32 rfl) <| V rfl (y_build (vs := [_, _]) rfl bp65 rfl) ?_
 refine V rfl (y_fal rfl fo35_6 rfl) <| V rfl (y_ld (i := 0) rfl rfl rfl tc32) <| V rfl (y_lens Try.underlying32 rfl) <| V rfl (y_build (vs := [_, _]) rfl bp65 rfl) <| V rfl (y_build (vs := [_, _, _, _, _, _, _, _, _, _, _, _]) rfl bp70 rfl) <| V rfl (y_mv rfl) <| go rfl <| t_block ?_
 refine t_loopG (α := Nat) (fun (k : Nat) => I) (fun (k : Nat) => []) (fun (k : Nat) => [(26, .int .i64 (k : Int))]) (fun (k : Nat) => k ≤ 6 ∧ ∀ j < k, inM (mlim size cells sa sb na nb j).1 (mlim size cells sa sb na nb j).2 = true) (fun (k : Nat) => 6 - k) 0 ?_ ?_ ?_ ?_ ?_
 · exact ⟨by omega, fun j hj => absurd hj (by omega)⟩
 · rfl
 · exact ⟨rfl, trivial⟩
 · exact trivial
 intro k hinv
 obtain ⟨hk6, hall⟩ := hinv
 have hlim := mlim_all size cells sa sb na nb
 refine sr <| V rfl (y_lt rfl rfl) <| go rfl <| t_seq ?_
 refine If rfl (fun h1 => ?_) (fun h1 => ?_)
 ·
  refine skipgo rfl <| t_seq <| t_block <| sr <| V rfl (y_iva (vs := [.int .i64 ((mlim size cells sa sb na nb k).1), .int .i64 ((mlim size cells sa sb na nb k).2)]) rfl rfl Try.underlying70 ta65 (by omega) (by omega) (by rcases (by omega : k = 0 ∨ k = 1 ∨ k = 2 ∨ k = 3 ∨ k = 4 ∨ k = 5) with rfl | rfl | rfl | rfl | rfl | rfl <;> rfl)) ?_
  refine Ef (e_alloc 1 rfl Try.zeroValue65 rfl rfl rfl rfl fun b1 => ?_)
  refine Ef (e_sta 1 rfl rfl rfl rfl rfl rfl ta65 ?_)
  refine go rfl <| sr <| V rfl (y_ial rfl ia65_0 rfl) <| V rfl (y_ld (i := 1) rfl rfl rfl tc3) <| V rfl (y_lt rfl rfl) <| V rfl (y_mv rfl) ?_
  refine Spl 32 rfl (fun h2 => ?_) (fun h2 => ?_)
  ·
   refine Gf rfl rfl rfl rfl <| Gf rfl rfl rfl rfl <| Gf rfl rfl rfl rfl <| Gf rfl rfl rfl rfl <| Gf rfl rfl rfl rfl <| V rfl (y_pick (b := true) rfl rfl) <| go rfl <| t_ift rfl <| sr <| V rfl (y_as rfl) ?_
   refine go rfl <| t_ret ?_
   refine tx_end rfl (ret (res1 rfl (rv_t rfl)) fun hI => ⟨?_, rfl⟩)
   first | (refine (congrArg (Value.int .i64) (modelE_lim (parts := l) k (by omega) (by simp only [inM]; grind))).symm; done) | (have h0 := hlim (fun j hj => hall j (by omega)); simp only [modelE, h0]; grind)
  ·
   refine Gt rfl rfl <| V rfl (y_ial rfl ia65_0 rfl) <| Gt rfl rfl <| V rfl (y_ld (i := 1) rfl rfl rfl tc3) <| Gt rfl rfl <| V rfl (y_ial rfl ia65_1 rfl) <| Gt rfl rfl <| V rfl (y_ld (i := 1) rfl rfl rfl tc3) <| Gt rfl rfl <| V rfl (y_gt rfl rfl) ?_
   refine V rfl (y_pick (b := false) rfl rfl) <| go rfl ?_
   refine If rfl (fun h3 => ?_) (fun h3 => ?_)
   ·
    refine sr <| V rfl (y_as rfl) <| go rfl <| t_ret ?_
    refine tx_end rfl (ret (res1 rfl (rv_t rfl)) fun hI => ⟨?_, rfl⟩)
    first | (refine (congrArg (Value.int .i64) (modelE_lim (parts := l) k (by omega) (by simp only [inM]; grind))).symm; done) | (have h0 := hlim (fun j hj => hall j (by omega)); simp only [modelE, h0]; grind)
   ·
    refine skipgo rfl <| t_region ?_
    refine V rfl (y_add rfl rfl (by first | omega | (have h0 := hlim (fun j hj => hall j (by omega)); simp [inM] at h0; omega))) ?_
    refine V rfl (y_mv rfl) <| tl_end ?_
    refine tx_loop rfl (again (k + 1) 1 2 18 ?_ ?_ rfl rfl rfl rfl ?_ ?_ rfl rfl rfl)
    · omega
    · exact ⟨by omega, fun j hj => by rcases Nat.lt_or_eq_of_le (Nat.le_of_lt_succ hj) with h | rfl <;> first | exact hall j h | (simp only [inM]; grind)⟩
    · exact ⟨rfl, trivial⟩
    · exact trivial
 ·
  refine exitgo rfl <| t_seq <| t_seq <| t_quiet rfl (by kernel_rfl) <| W rfl (y_fal rfl fo35_6 rfl) <| W rfl (y_ld (i := 0) rfl rfl rfl tc32) <| W rfl (y_lens Try.underlying32 rfl) <| W rfl (y_eq rfl rfl) <| W rfl (y_mv rfl) ?_
  refine Splq 44 rfl (fun h4 => ?_) (fun h4 => ?_)
  ·
   refine Gtq rfl rfl <| W rfl (y_fal rfl fo35_2 rfl) <| Gtq rfl rfl <| W rfl (y_ld (i := 0) rfl rfl rfl tc3) <| Gtq rfl rfl <| W rfl (y_fal rfl fo35_3 rfl) <| Gtq rfl rfl <| W rfl (y_ld (i := 0) rfl rfl rfl tc3) <| Gtq rfl rfl ?_
   refine W rfl (y_add rfl rfl (by first | omega | (have h0 := hlim (fun j hj => hall j (by omega)); simp [inM] at h0; omega))) ?_
   refine Gtq rfl rfl <| W rfl (y_gt rfl rfl) <| W rfl (y_pick (b := true) rfl rfl) <| W rfl (y_mv rfl) ?_
   refine Splq 52 rfl (fun h5 => ?_) (fun h5 => ?_)
   ·
    refine Gfq rfl rfl rfl rfl <| Gfq rfl rfl rfl rfl <| Gfq rfl rfl rfl rfl <| Gfq rfl rfl rfl rfl <| Gfq rfl rfl rfl rfl <| Gfq rfl rfl rfl rfl <| Gfq rfl rfl rfl rfl <| W rfl (y_pick (b := true) rfl rfl) <| goq rfl <| t_ift rfl ?_
    refine sr <| V rfl (y_as rfl) <| go rfl <| t_ret ?_
    refine tx_end rfl (ret (res1 rfl (rv_t rfl)) fun hI => ⟨?_, rfl⟩)
    first | (refine (congrArg (Value.int .i64) (modelE_lim (parts := l) k (by omega) (by simp only [inM]; grind))).symm; done) | (have h0 := hlim (fun j hj => hall j (by omega)); simp only [modelE, h0]; grind)
   ·
    refine Gtq rfl rfl <| W rfl (y_fal rfl fo35_4 rfl) <| Gtq rfl rfl <| W rfl (y_ld (i := 0) rfl rfl rfl tc22) <| Gtq rfl rfl <| W rfl (y_lens Try.underlying22 rfl) <| Gtq rfl rfl <| W rfl (y_fal rfl fo35_0 rfl) <| Gtq rfl rfl <| W rfl (y_ld (i := 0) rfl rfl rfl tc3) ?_
    refine Gtq rfl rfl ?_
    refine W rfl (y_shl rfl rfl (by have h0 := hlim (fun j hj => hall j (by omega)); simp [inM] at h0; omega) (by have h0 := hlim (fun j hj => hall j (by omega)); simp [inM] at h0; omega) (pow2_two _) (by have h0 := hlim (fun j hj => hall j (by omega)); simp [inM] at h0; have hq := pow_le (n := size) (by omega); omega)) ?_
    refine Gtq rfl rfl <| W rfl (y_gt rfl rfl) <| W rfl (y_pick (b := false) rfl rfl) <| goq rfl ?_
    refine If rfl (fun h6 => ?_) (fun h6 => ?_)
    ·
     refine sr <| V rfl (y_as rfl) <| go rfl <| t_ret ?_
     refine tx_end rfl (ret (res1 rfl (rv_t rfl)) fun hI => ⟨?_, rfl⟩)
     first | (refine (congrArg (Value.int .i64) (modelE_lim (parts := l) k (by omega) (by simp only [inM]; grind))).symm; done) | (have h0 := hlim (fun j hj => hall j (by omega)); simp only [modelE, h0]; grind)
    ·
     refine skipgo rfl <| sr <| V rfl (y_fal rfl fo35_4 rfl) <| V rfl (y_ld (i := 0) rfl rfl rfl tc22) ?_
     refine Ef (e_call rfl en30 rfl (c_parts_Right _ _ _ hl hk) ?_)
     refine V rfl (y_as rfl) <| go rfl <| t_ret ?_
     refine tx_end rfl (ret (res1 rfl (rv_t rfl)) fun hI => ⟨?_, rfl⟩)
     first | (refine (congrArg (Value.int .i64) (modelE_lim (parts := l) k (by omega) (by simp only [inM]; grind))).symm; done) | (have h0 := hlim (fun j hj => hall j (by omega)); simp only [modelE, h0]; grind)
  ·
   refine Gfq rfl rfl rfl rfl <| Gfq rfl rfl rfl rfl <| Gfq rfl rfl rfl rfl <| Gfq rfl rfl rfl rfl <| Gfq rfl rfl rfl rfl <| Gfq rfl rfl rfl rfl <| W rfl (y_pick (b := false) rfl rfl) <| W rfl (y_mv rfl) <| Gtq rfl rfl <| W rfl (y_fal rfl fo35_4 rfl) ?_
   refine Gtq rfl rfl <| W rfl (y_ld (i := 0) rfl rfl rfl tc22) <| Gtq rfl rfl <| W rfl (y_lens Try.underlying22 rfl) <| Gtq rfl rfl <| W rfl (y_fal rfl fo35_0 rfl) <| Gtq rfl rfl <| W rfl (y_ld (i := 0) rfl rfl rfl tc3) <| Gtq rfl rfl ?_
   refine W rfl (y_shl rfl rfl (by have h0 := hlim (fun j hj => hall j (by omega)); simp [inM] at h0; omega) (by have h0 := hlim (fun j hj => hall j (by omega)); simp [inM] at h0; omega) (pow2_two _) (by have h0 := hlim (fun j hj => hall j (by omega)); simp [inM] at h0; have hq := pow_le (n := size) (by omega); omega)) ?_
   refine Gtq rfl rfl <| W rfl (y_gt rfl rfl) <| W rfl (y_pick (b := false) rfl rfl) <| goq rfl ?_
   refine If rfl (fun h7 => ?_) (fun h7 => ?_)
   ·
    refine sr <| V rfl (y_as rfl) <| go rfl <| t_ret ?_
    refine tx_end rfl (ret (res1 rfl (rv_t rfl)) fun hI => ⟨?_, rfl⟩)
    first | (refine (congrArg (Value.int .i64) (modelE_lim (parts := l) k (by omega) (by simp only [inM]; grind))).symm; done) | (have h0 := hlim (fun j hj => hall j (by omega)); simp only [modelE, h0]; grind)
   ·
    refine skipgo rfl <| sr <| V rfl (y_fal rfl fo35_4 rfl) <| V rfl (y_ld (i := 0) rfl rfl rfl tc22) ?_
    refine Ef (e_call rfl en30 rfl (c_parts_Right _ _ _ hl hk) ?_)
    refine V rfl (y_as rfl) <| go rfl <| t_ret ?_
    refine tx_end rfl (ret (res1 rfl (rv_t rfl)) fun hI => ⟨?_, rfl⟩)
    first | (refine (congrArg (Value.int .i64) (modelE_lim (parts := l) k (by omega) (by simp only [inM]; grind))).symm; done) | (have h0 := hlim (fun j hj => hall j (by omega)); simp only [modelE, h0]; grind)

end Go.Proofs.Ytngdkgddeobiiaa
