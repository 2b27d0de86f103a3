/- Walks, printed by my gen.py: kit_CopyParts, kit_CopyStmts, kit_CopyConfig, law21_CheckTells. -/
import Derived.Test.YtngdkgddeobiiaaFacts
import Derived.Test.YtngdkgddeobiiaaPCopy
import Derived.Test.YtngdkgddeobiiaaWSame
import Derived.Test.YtngdkgddeobiiaaWRef
import Derived.Test.YtngdkgddeobiiaaWKit
import Derived.Test.YtngdkgddeobiiaaAwakeLaw21
import Derived.Test.YtngdkgddeobiiaaWLaw21m
namespace Go.Proofs.Ytngdkgddeobiiaa
open Go Go.TL Go.RowKit
set_option maxRecDepth 100000


theorem c_kit_CopyParts {I : Imm} (l : List Part) (A : Option Addr) (cap : Nat) (hl : SlI I 7 A (l.map Part.cells)) (hn : l.length ≤ 1000000) : ∀ L, TL.Fn Try.prog 26 [.slice A l.length cap] I L fun v I' L' => L' = L ∧ ∃ B cb, v = .slice B l.length cb ∧ SlI I' 7 B (l.map Part.cells) := by
 intro L
 refine fn_enter Try.func26 rfl rfl rfl ?_
 show T _ _ _ _ _ _ _
 refine sr <| V rfl (y_as rfl) <| go rfl <| sr <| V rfl (y_as rfl) <| go rfl <| t_seq <| sr <| V rfl (y_as rfl) <| go rfl ?_
 refine t_block ?_
 refine t_loopF (α := Nat × Option (Nat × Obj) × Value) (fun (x : Nat × Option (Nat × Obj) × Value) => match x with | ⟨k, R, v⟩ => R.toList ++ L) (fun (x : Nat × Option (Nat × Obj) × Value) => match x with | ⟨k, R, v⟩ => I) (fun (x : Nat × Option (Nat × Obj) × Value) => match x with | ⟨k, R, v⟩ => []) (fun (x : Nat × Option (Nat × Obj) × Value) => match x with | ⟨k, R, v⟩ => [(3, v), (4, .int .i64 (k : Int))]) (fun (x : Nat × Option (Nat × Obj) × Value) => match x with | ⟨k, R, v⟩ => k ≤ l.length ∧ okR 83 7 R v k ((l.take k).map Part.cells).flatten) (fun (x : Nat × Option (Nat × Obj) × Value) => match x with | ⟨k, R, v⟩ => l.length - k) (0, none, .slice none 0 0) ?_ ?_ ?_ ?_ ?_ ?_
 · exact ⟨by omega, by simpa using okR_nil⟩
 · rfl
 · rfl
 · exact ⟨rfl, rfl, trivial⟩
 · exact trivial
 intro x hinv
 obtain ⟨k, R, v⟩ := x
 obtain ⟨hk, hok⟩ := hinv
 dsimp only
 refine t_seq <| sr <| V rfl (y_mv rfl) <| V rfl (y_mv rfl) <| V rfl (y_lens Try.underlying22 rfl) <| V rfl (y_lt rfl rfl) <| go rfl ?_
 refine If rfl (fun h1 => ?_) (fun h1 => ?_)
 ·
  refine skipgo rfl <| t_seq <| t_block <| t_region <| V rfl (y_mv rfl) <| V rfl (y_mv rfl) <| V rfl (y_mv rfl) ?_
  obtain ⟨p, rfl, hc⟩ := hl.at k (by omega)
  refine V rfl (y_ix rfl rfl ix22 (by omega) (by omega)) <| V rfl (y_ldia rfl ta83 rfl hc) ?_
  refine Ef (e_bslice 0 rfl rfl (bs22 rfl rfl) rfl rfl rfl fun b0 => ?_)
  refine Ef (e_app rfl ap22 rfl rfl (hok) rfl (news_own (i := 0) rfl rfl) (by exact List.all_eq_true.1 rfl) (by omega) (by omega) ?_)
  intro v' R' hok'
  refine V rfl (y_as rfl) <| go rfl <| t_region <| V rfl (y_mv rfl) <| V rfl (y_add rfl rfl (by omega)) <| V rfl (y_as rfl) <| tl_end ?_
  refine tx_loop rfl (againF (k + 1, R', v') 1 1 16 ?_ ?_ rfl rfl rfl rfl rfl ?_ ?_ rfl rfl rfl)
  · omega
  · exact ⟨by omega, by rw [take_cells l k (by omega)]; exact hok'⟩
  · exact ⟨rfl, rfl, trivial⟩
  · exact trivial
 ·
  refine exitgo rfl <| sr <| V rfl (y_mv rfl) <| V rfl (y_as rfl) <| go rfl <| t_ret ?_
  refine tx_end rfl (reti (.inl rfl) R (res1 rfl (rv_t rfl)) fun hI hJ => ⟨rfl, ?_⟩)
  obtain rfl : k = l.length := by omega
  rw [List.take_length] at hok
  exact okR_parts hok

theorem c_kit_CopyStmts   : ∀ (n : Nat) (I : Imm) (l : List Stmt) (A : Option Addr) (cap : Nat) (hl : SRep I l A) (hn : sizeL l ≤ n) (hs : n ≤ 1000000), ∀ L, TL.Fn Try.prog 27 [.slice A l.length cap] I L fun v I' L' => L' = L ∧ ∃ B cb, v = .slice B l.length cb ∧ SRep I' l B := by
 intro n
 induction n using Nat.strongRecOn with
 | _ n ih =>
  intro I l A cap hl hn hs L
  have hll := length_sizeL l
  refine fn_enter Try.func27 rfl rfl rfl ?_
  show T _ _ _ _ _ _ _
  refine sr <| V rfl (y_as rfl) <| go rfl <| sr <| V rfl (y_as rfl) <| go rfl <| t_seq <| sr <| V rfl (y_as rfl) <| go rfl ?_
  refine t_block ?_
  refine t_loopF (α := Nat × Imm × Option (Nat × Obj) × Value × List (List Value)) (fun (x : Nat × Imm × Option (Nat × Obj) × Value × List (List Value)) => match x with | ⟨k, K, R, v, ys⟩ => R.toList ++ L) (fun (x : Nat × Imm × Option (Nat × Obj) × Value × List (List Value)) => match x with | ⟨k, K, R, v, ys⟩ => K) (fun (x : Nat × Imm × Option (Nat × Obj) × Value × List (List Value)) => match x with | ⟨k, K, R, v, ys⟩ => []) (fun (x : Nat × Imm × Option (Nat × Obj) × Value × List (List Value)) => match x with | ⟨k, K, R, v, ys⟩ => [(3, v), (4, .int .i64 (k : Int))]) (fun (x : Nat × Imm × Option (Nat × Obj) × Value × List (List Value)) => match x with | ⟨k, K, R, v, ys⟩ => k ≤ l.length ∧ I.Le K ∧ okR 78 13 R v k ys.flatten ∧ CopS K (l.take k) ys) (fun (x : Nat × Imm × Option (Nat × Obj) × Value × List (List Value)) => match x with | ⟨k, K, R, v, ys⟩ => l.length - k) (0, I, none, .slice none 0 0, []) ?_ ?_ ?_ ?_ ?_ ?_
  · exact ⟨by omega, .refl _, okR_nil, by simpa using CopS.nil⟩
  · rfl
  · rfl
  · exact ⟨rfl, rfl, trivial⟩
  · exact trivial
  intro x hinv
  obtain ⟨k, K, R, v, ys⟩ := x
  obtain ⟨hk, hIK, hok, hys⟩ := hinv
  dsimp only
  refine t_seq <| sr <| V rfl (y_mv rfl) <| V rfl (y_mv rfl) <| V rfl (y_lens Try.underlying23 rfl) <| V rfl (y_lt rfl rfl) <| go rfl ?_
  refine If rfl (fun h1 => ?_) (fun h1 => ?_)
  ·
   refine skipgo rfl <| t_seq <| t_block <| sr <| V rfl (y_mv rfl) <| V rfl (y_mv rfl) ?_
   obtain ⟨p, Ab, c1, Ae, c2, rfl, hc, hb, he⟩ := (hl.mono hIK).at k (by omega)
   have hst := sizeL_take l k (by omega)
   have hse := (l[k]).size_eq
   refine V rfl (y_ix rfl rfl ix23 (by omega) (by omega)) <| V rfl (y_ldia rfl ta78 rfl hc) ?_
   refine Ef (e_alloc 0 rfl Try.zeroValue78 rfl rfl rfl rfl fun b0 => ?_)
   refine Ef (e_sta 0 rfl rfl rfl rfl rfl rfl ta78 ?_)
   refine go rfl <| t_seq ?_
   refine t_held [0] rfl 10 rfl _ rfl (by kernel_rfl) fun hle hns => ?_
   refine Tk 0 np rfl rfl hns (by kernel_rfl) (by kernel_rfl) (y_fal rfl fo78_3 rfl) hle _ rfl <| Tk 3 np rfl rfl hns (by kernel_rfl) (by kernel_rfl) (y_fal rfl fo78_4 rfl) hle _ rfl ?_
   refine On2 1 4 (fun _ _ h => sc_of [0] 0 0 (Imm.Le.refl _) rfl rfl rfl h) rfl rfl rfl rfl (by kernel_rfl) _ _ rfl rfl ?_ ?_
   ·
    refine e_v rfl (y_ld (i := 0) rfl rfl rfl tc23) ?_
    refine On2 2 4 (fun _ _ h => sc_of [0] 0 0 (Imm.Le.refl _) rfl rfl rfl h) rfl rfl rfl rfl (by kernel_rfl) _ _ rfl rfl ?_ ?_
    ·
     refine e_calli rfl en27 rfl (fun L => by exact ih (sizeL (l[k]).body) (by omega) _ (l[k]).body _ _ hb (Nat.le_refl _) (by omega) L) ?_
     rintro _ I1 hI1 ⟨B1, cb1, rfl, hB1⟩
     refine On 4 (fun _ _ h => sc_of [0] 0 0 (hI1) rfl rfl rfl h) rfl (by kernel_rfl) _ rfl (e_v rfl (y_ld (i := 0) rfl rfl rfl tc23) ?_)
     refine Tk 6 np rfl rfl hns (by kernel_rfl) (by kernel_rfl) (y_fal rfl fo78_3 rfl) hle _ rfl ?_
     refine On 5 (fun _ _ h => sc_of [0] 0 0 (hI1) rfl rfl rfl h) rfl (by kernel_rfl) _ rfl (e_calli rfl en27 rfl (fun L => by exact ih (sizeL (l[k]).els) (by omega) _ (l[k]).els _ _ (he.mono hI1) (Nat.le_refl _) (by omega) L) ?_)
     rintro _ I2 hI2 ⟨B2, cb2, rfl, hB2⟩
     refine On 7 (fun _ _ h => sc_of [0] 0 0 ((hI1.trans hI2)) rfl rfl rfl h) rfl (by kernel_rfl) _ rfl (e_st 0 rfl rfl rfl rfl rfl tc23 ?_)
     refine Tk 8 np rfl rfl hns (by kernel_rfl) (by kernel_rfl) (y_fal rfl fo78_4 rfl) hle _ rfl ?_
     refine On 9 (fun _ _ h => sc_of [0] 0 1 ((hI1.trans hI2)) rfl rfl rfl h) rfl (by kernel_rfl) _ rfl (e_st 0 rfl rfl rfl rfl rfl tc23 ?_)
     refine th_end (fun _ _ h => sc_of [0] 0 2 ((hI1.trans hI2)) rfl rfl rfl h) (by kernel_rfl) ?_
     show TX _ _ _ _ _ _ _
     refine tx_go rfl <| t_region <| V rfl (y_mv rfl) <| V rfl (y_lda (i := 0) rfl rfl ta78 rfl) ?_
     refine Ef (e_bslice 1 rfl rfl (bs23 rfl rfl) rfl rfl rfl fun b1 => ?_)
     refine Ef (e_app rfl ap23 rfl rfl (hok) rfl (news_own (i := 1) rfl rfl) (by exact List.all_eq_true.1 rfl) (by omega) (by omega) ?_)
     intro v' R' hok'
     refine V rfl (y_as rfl) <| go rfl <| t_region <| V rfl (y_mv rfl) <| V rfl (y_add rfl rfl (by omega)) <| V rfl (y_as rfl) <| tl_end ?_
     refine tx_loop rfl (againF (k + 1, I2, R', v', ys ++ [(l[k]).cells B1 cb1 B2 cb2]) 2 5 26 ?_ ?_ rfl rfl rfl rfl rfl ?_ ?_ rfl rfl rfl)
     · omega
     · exact ⟨by omega, hIK.trans (hI1.trans hI2), okR_snoc hok', by rw [List.take_succ_eq_append_getElem (by omega)]; exact hys.snoc (hI1.trans hI2) (hB1.mono hI2) hB2⟩
     · exact ⟨rfl, rfl, trivial⟩
     · exact trivial
    ·
     refine e_v rfl (y_ld (i := 0) rfl rfl rfl tc23) ?_
     refine On 2 (fun _ _ h => sc_of [0] 0 0 (Imm.Le.refl _) rfl rfl rfl h) rfl (by kernel_rfl) _ rfl (e_calli rfl en27 rfl (fun L => by exact ih (sizeL (l[k]).body) (by omega) _ (l[k]).body _ _ hb (Nat.le_refl _) (by omega) L) ?_)
     rintro _ I1 hI1 ⟨B1, cb1, rfl, hB1⟩
     refine Tk 6 np rfl rfl hns (by kernel_rfl) (by kernel_rfl) (y_fal rfl fo78_3 rfl) hle _ rfl ?_
     refine On 5 (fun _ _ h => sc_of [0] 0 0 (hI1) rfl rfl rfl h) rfl (by kernel_rfl) _ rfl (e_calli rfl en27 rfl (fun L => by exact ih (sizeL (l[k]).els) (by omega) _ (l[k]).els _ _ (he.mono hI1) (Nat.le_refl _) (by omega) L) ?_)
     rintro _ I2 hI2 ⟨B2, cb2, rfl, hB2⟩
     refine On 7 (fun _ _ h => sc_of [0] 0 0 ((hI1.trans hI2)) rfl rfl rfl h) rfl (by kernel_rfl) _ rfl (e_st 0 rfl rfl rfl rfl rfl tc23 ?_)
     refine Tk 8 np rfl rfl hns (by kernel_rfl) (by kernel_rfl) (y_fal rfl fo78_4 rfl) hle _ rfl ?_
     refine On 9 (fun _ _ h => sc_of [0] 0 1 ((hI1.trans hI2)) rfl rfl rfl h) rfl (by kernel_rfl) _ rfl (e_st 0 rfl rfl rfl rfl rfl tc23 ?_)
     refine th_end (fun _ _ h => sc_of [0] 0 2 ((hI1.trans hI2)) rfl rfl rfl h) (by kernel_rfl) ?_
     show TX _ _ _ _ _ _ _
     refine tx_go rfl <| t_region <| V rfl (y_mv rfl) <| V rfl (y_lda (i := 0) rfl rfl ta78 rfl) ?_
     refine Ef (e_bslice 1 rfl rfl (bs23 rfl rfl) rfl rfl rfl fun b1 => ?_)
     refine Ef (e_app rfl ap23 rfl rfl (hok) rfl (news_own (i := 1) rfl rfl) (by exact List.all_eq_true.1 rfl) (by omega) (by omega) ?_)
     intro v' R' hok'
     refine V rfl (y_as rfl) <| go rfl <| t_region <| V rfl (y_mv rfl) <| V rfl (y_add rfl rfl (by omega)) <| V rfl (y_as rfl) <| tl_end ?_
     refine tx_loop rfl (againF (k + 1, I2, R', v', ys ++ [(l[k]).cells B1 cb1 B2 cb2]) 2 5 26 ?_ ?_ rfl rfl rfl rfl rfl ?_ ?_ rfl rfl rfl)
     · omega
     · exact ⟨by omega, hIK.trans (hI1.trans hI2), okR_snoc hok', by rw [List.take_succ_eq_append_getElem (by omega)]; exact hys.snoc (hI1.trans hI2) (hB1.mono hI2) hB2⟩
     · exact ⟨rfl, rfl, trivial⟩
     · exact trivial
   ·
    refine e_v rfl (y_ld (i := 0) rfl rfl rfl tc23) ?_
    refine On 1 (fun _ _ h => sc_of [0] 0 0 (Imm.Le.refl _) rfl rfl rfl h) rfl (by kernel_rfl) _ rfl (e_v rfl (y_ld (i := 0) rfl rfl rfl tc23) ?_)
    refine On 2 (fun _ _ h => sc_of [0] 0 0 (Imm.Le.refl _) rfl rfl rfl h) rfl (by kernel_rfl) _ rfl (e_calli rfl en27 rfl (fun L => by exact ih (sizeL (l[k]).body) (by omega) _ (l[k]).body _ _ hb (Nat.le_refl _) (by omega) L) ?_)
    rintro _ I1 hI1 ⟨B1, cb1, rfl, hB1⟩
    refine Tk 6 np rfl rfl hns (by kernel_rfl) (by kernel_rfl) (y_fal rfl fo78_3 rfl) hle _ rfl ?_
    refine On 5 (fun _ _ h => sc_of [0] 0 0 (hI1) rfl rfl rfl h) rfl (by kernel_rfl) _ rfl (e_calli rfl en27 rfl (fun L => by exact ih (sizeL (l[k]).els) (by omega) _ (l[k]).els _ _ (he.mono hI1) (Nat.le_refl _) (by omega) L) ?_)
    rintro _ I2 hI2 ⟨B2, cb2, rfl, hB2⟩
    refine On 7 (fun _ _ h => sc_of [0] 0 0 ((hI1.trans hI2)) rfl rfl rfl h) rfl (by kernel_rfl) _ rfl (e_st 0 rfl rfl rfl rfl rfl tc23 ?_)
    refine Tk 8 np rfl rfl hns (by kernel_rfl) (by kernel_rfl) (y_fal rfl fo78_4 rfl) hle _ rfl ?_
    refine On 9 (fun _ _ h => sc_of [0] 0 1 ((hI1.trans hI2)) rfl rfl rfl h) rfl (by kernel_rfl) _ rfl (e_st 0 rfl rfl rfl rfl rfl tc23 ?_)
    refine th_end (fun _ _ h => sc_of [0] 0 2 ((hI1.trans hI2)) rfl rfl rfl h) (by kernel_rfl) ?_
    show TX _ _ _ _ _ _ _
    refine tx_go rfl <| t_region <| V rfl (y_mv rfl) <| V rfl (y_lda (i := 0) rfl rfl ta78 rfl) ?_
    refine Ef (e_bslice 1 rfl rfl (bs23 rfl rfl) rfl rfl rfl fun b1 => ?_)
    refine Ef (e_app rfl ap23 rfl rfl (hok) rfl (news_own (i := 1) rfl rfl) (by exact List.all_eq_true.1 rfl) (by omega) (by omega) ?_)
    intro v' R' hok'
    refine V rfl (y_as rfl) <| go rfl <| t_region <| V rfl (y_mv rfl) <| V rfl (y_add rfl rfl (by omega)) <| V rfl (y_as rfl) <| tl_end ?_
    refine tx_loop rfl (againF (k + 1, I2, R', v', ys ++ [(l[k]).cells B1 cb1 B2 cb2]) 2 5 26 ?_ ?_ rfl rfl rfl rfl rfl ?_ ?_ rfl rfl rfl)
    · omega
    · exact ⟨by omega, hIK.trans (hI1.trans hI2), okR_snoc hok', by rw [List.take_succ_eq_append_getElem (by omega)]; exact hys.snoc (hI1.trans hI2) (hB1.mono hI2) hB2⟩
    · exact ⟨rfl, rfl, trivial⟩
    · exact trivial
  ·
   refine exitgo rfl <| sr <| V rfl (y_mv rfl) <| V rfl (y_as rfl) <| go rfl <| t_ret ?_
   refine tx_end rfl (reti (.inl rfl) R (res1 rfl (rv_t rfl)) fun hI hJ => ⟨rfl, ?_⟩)
   obtain rfl : k = l.length := by omega
   rw [List.take_length] at hys
   exact hys.rep hJ hok

theorem c_kit_CopyConfig {I : Imm} (c : Conf) (Ap Aq Ar : Option Addr) (cp cq cr : Nat) (hc : c.Ok I Ap Aq Ar) : ∀ L, TL.Fn Try.prog 9 [.agg #[.int .i64 c.size, .int .i64 c.cells, .int .i64 c.sa, .int .i64 c.sb, .slice Ap c.parts.length cp, .slice Aq c.pre.length cq, .slice Ar c.post.length cr, .bool c.flag]] I L fun v I' L' => L' = L ∧ ∃ Bp dp Bq dq Br dr, v = .agg #[.int .i64 c.size, .int .i64 c.cells, .int .i64 c.sa, .int .i64 c.sb, .slice Bp c.parts.length dp, .slice Bq c.pre.length dq, .slice Br c.post.length dr, .bool c.flag] ∧ c.Ok I' Bp Bq Br := by
 intro L
 refine fn_enter Try.func9 rfl rfl rfl ?_
 show T _ _ _ _ _ _ _
 refine sr ?_
 refine Ef (e_box 0 rfl rfl rfl rfl rfl rfl fun b0 => ?_)
 refine Ef (e_alloc 1 rfl Try.zeroValue25 rfl rfl rfl rfl fun b1 => ?_)
 refine go rfl <| t_seq ?_
 refine t_held [0] rfl 15 rfl _ rfl (by kernel_rfl) fun hle hns => ?_
 refine Tk 0 np rfl rfl hns (by kernel_rfl) (by kernel_rfl) (y_fal rfl fo25_4 rfl) hle _ rfl <| Tk 3 np rfl rfl hns (by kernel_rfl) (by kernel_rfl) (y_fal rfl fo25_5 rfl) hle _ rfl <| Tk 6 np rfl rfl hns (by kernel_rfl) (by kernel_rfl) (y_fal rfl fo25_6 rfl) hle _ rfl ?_
 refine On3 1 4 7 (fun _ _ h => sc_of [0] 0 0 (Imm.Le.refl _) rfl rfl rfl h) (by kernel_rfl) rfl rfl rfl rfl rfl rfl _ _ _ rfl rfl rfl ?_ ?_ ?_
 ·
  refine e_v rfl (y_ld (i := 0) rfl rfl rfl tc22) ?_
  refine On3 2 4 7 (fun _ _ h => sc_of [0] 0 0 (Imm.Le.refl _) rfl rfl rfl h) (by kernel_rfl) rfl rfl rfl rfl rfl rfl _ _ _ rfl rfl rfl ?_ ?_ ?_
  ·
   refine e_calli rfl en26 rfl (fun L => by exact c_kit_CopyParts _ _ _ hc.parts hc.szp L) ?_
   rintro _ I1 hI1 ⟨B1, d1, rfl, hB1⟩
   refine On2 4 7 (fun _ _ h => sc_of [0] 0 0 (hI1) rfl rfl rfl h) rfl rfl rfl rfl (by kernel_rfl) _ _ rfl rfl ?_ ?_
   ·
    refine e_v rfl (y_ld (i := 0) rfl rfl rfl tc23) ?_
    refine On2 5 7 (fun _ _ h => sc_of [0] 0 0 (hI1) rfl rfl rfl h) rfl rfl rfl rfl (by kernel_rfl) _ _ rfl rfl ?_ ?_
    ·
     refine e_calli rfl en27 rfl (fun L => by exact c_kit_CopyStmts (sizeL c.pre) _ c.pre _ _ (hc.pre.mono hI1) (Nat.le_refl _) hc.szq L) ?_
     rintro _ I2 hI2 ⟨B2, d2, rfl, hB2⟩
     refine On 7 (fun _ _ h => sc_of [0] 0 0 ((hI1.trans hI2)) rfl rfl rfl h) rfl (by kernel_rfl) _ rfl (e_v rfl (y_ld (i := 0) rfl rfl rfl tc23) ?_)
     refine Tk 9 np rfl rfl hns (by kernel_rfl) (by kernel_rfl) (y_fal rfl fo25_4 rfl) hle _ rfl ?_
     refine On 8 (fun _ _ h => sc_of [0] 0 0 ((hI1.trans hI2)) rfl rfl rfl h) rfl (by kernel_rfl) _ rfl (e_calli rfl en27 rfl (fun L => by exact c_kit_CopyStmts (sizeL c.post) _ c.post _ _ (hc.post.mono (hI1.trans hI2)) (Nat.le_refl _) hc.szr L) ?_)
     rintro _ I3 hI3 ⟨B3, d3, rfl, hB3⟩
     refine On 10 (fun _ _ h => sc_of [0] 0 0 (((hI1.trans hI2).trans hI3)) rfl rfl rfl h) rfl (by kernel_rfl) _ rfl (e_st 0 rfl rfl rfl rfl rfl tc22 ?_)
     refine Tk 11 np rfl rfl hns (by kernel_rfl) (by kernel_rfl) (y_fal rfl fo25_5 rfl) hle _ rfl ?_
     refine On 12 (fun _ _ h => sc_of [0] 0 1 (((hI1.trans hI2).trans hI3)) rfl rfl rfl h) rfl (by kernel_rfl) _ rfl (e_st 0 rfl rfl rfl rfl rfl tc23 ?_)
     refine Tk 13 np rfl rfl hns (by kernel_rfl) (by kernel_rfl) (y_fal rfl fo25_6 rfl) hle _ rfl ?_
     refine On 14 (fun _ _ h => sc_of [0] 0 2 (((hI1.trans hI2).trans hI3)) rfl rfl rfl h) rfl (by kernel_rfl) _ rfl (e_st 0 rfl rfl rfl rfl rfl tc23 ?_)
     refine th_end (fun _ _ h => sc_of [0] 0 3 (((hI1.trans hI2).trans hI3)) rfl rfl rfl h) (by kernel_rfl) ?_
     show TX _ _ _ _ _ _ _
     refine tx_go rfl <| sr <| V rfl (y_lda (i := 0) rfl rfl ta25 rfl) ?_
     refine Ef (e_sta 1 rfl rfl rfl rfl rfl rfl ta25 ?_)
     refine go rfl <| t_ret ?_
     refine tx_end rfl (reti (F0 := L) (.inl rfl) none (res1 rfl (rv_a (i := 1) rfl rfl ta25 rfl)) fun hI hJ => ⟨rfl, ?_⟩)
     exact ⟨_, _, _, _, _, _, rfl, hc.copy (hB1.mono (hI2.trans hI3)) (hB2.mono hI3) hB3⟩
    ·
     refine e_v rfl (y_ld (i := 0) rfl rfl rfl tc23) <| Tk 9 np rfl rfl hns (by kernel_rfl) (by kernel_rfl) (y_fal rfl fo25_4 rfl) hle _ rfl ?_
     refine On 5 (fun _ _ h => sc_of [0] 0 0 (hI1) rfl rfl rfl h) rfl (by kernel_rfl) _ rfl (e_calli rfl en27 rfl (fun L => by exact c_kit_CopyStmts (sizeL c.pre) _ c.pre _ _ (hc.pre.mono hI1) (Nat.le_refl _) hc.szq L) ?_)
     rintro _ I2 hI2 ⟨B2, d2, rfl, hB2⟩
     refine On 8 (fun _ _ h => sc_of [0] 0 0 ((hI1.trans hI2)) rfl rfl rfl h) rfl (by kernel_rfl) _ rfl (e_calli rfl en27 rfl (fun L => by exact c_kit_CopyStmts (sizeL c.post) _ c.post _ _ (hc.post.mono (hI1.trans hI2)) (Nat.le_refl _) hc.szr L) ?_)
     rintro _ I3 hI3 ⟨B3, d3, rfl, hB3⟩
     refine On 10 (fun _ _ h => sc_of [0] 0 0 (((hI1.trans hI2).trans hI3)) rfl rfl rfl h) rfl (by kernel_rfl) _ rfl (e_st 0 rfl rfl rfl rfl rfl tc22 ?_)
     refine Tk 11 np rfl rfl hns (by kernel_rfl) (by kernel_rfl) (y_fal rfl fo25_5 rfl) hle _ rfl ?_
     refine On 12 (fun _ _ h => sc_of [0] 0 1 (((hI1.trans hI2).trans hI3)) rfl rfl rfl h) rfl (by kernel_rfl) _ rfl (e_st 0 rfl rfl rfl rfl rfl tc23 ?_)
     refine Tk 13 np rfl rfl hns (by kernel_rfl) (by kernel_rfl) (y_fal rfl fo25_6 rfl) hle _ rfl ?_
     refine On 14 (fun _ _ h => sc_of [0] 0 2 (((hI1.trans hI2).trans hI3)) rfl rfl rfl h) rfl (by kernel_rfl) _ rfl (e_st 0 rfl rfl rfl rfl rfl tc23 ?_)
     refine th_end (fun _ _ h => sc_of [0] 0 3 (((hI1.trans hI2).trans hI3)) rfl rfl rfl h) (by kernel_rfl) ?_
     show TX _ _ _ _ _ _ _
     refine tx_go rfl <| sr <| V rfl (y_lda (i := 0) rfl rfl ta25 rfl) ?_
     refine Ef (e_sta 1 rfl rfl rfl rfl rfl rfl ta25 ?_)
     refine go rfl <| t_ret ?_
     refine tx_end rfl (reti (F0 := L) (.inl rfl) none (res1 rfl (rv_a (i := 1) rfl rfl ta25 rfl)) fun hI hJ => ⟨rfl, ?_⟩)
     exact ⟨_, _, _, _, _, _, rfl, hc.copy (hB1.mono (hI2.trans hI3)) (hB2.mono hI3) hB3⟩
   ·
    refine e_v rfl (y_ld (i := 0) rfl rfl rfl tc23) ?_
    refine On 4 (fun _ _ h => sc_of [0] 0 0 (hI1) rfl rfl rfl h) rfl (by kernel_rfl) _ rfl (e_v rfl (y_ld (i := 0) rfl rfl rfl tc23) ?_)
    refine Tk 9 np rfl rfl hns (by kernel_rfl) (by kernel_rfl) (y_fal rfl fo25_4 rfl) hle _ rfl ?_
    refine On 5 (fun _ _ h => sc_of [0] 0 0 (hI1) rfl rfl rfl h) rfl (by kernel_rfl) _ rfl (e_calli rfl en27 rfl (fun L => by exact c_kit_CopyStmts (sizeL c.pre) _ c.pre _ _ (hc.pre.mono hI1) (Nat.le_refl _) hc.szq L) ?_)
    rintro _ I2 hI2 ⟨B2, d2, rfl, hB2⟩
    refine On 8 (fun _ _ h => sc_of [0] 0 0 ((hI1.trans hI2)) rfl rfl rfl h) rfl (by kernel_rfl) _ rfl (e_calli rfl en27 rfl (fun L => by exact c_kit_CopyStmts (sizeL c.post) _ c.post _ _ (hc.post.mono (hI1.trans hI2)) (Nat.le_refl _) hc.szr L) ?_)
    rintro _ I3 hI3 ⟨B3, d3, rfl, hB3⟩
    refine On 10 (fun _ _ h => sc_of [0] 0 0 (((hI1.trans hI2).trans hI3)) rfl rfl rfl h) rfl (by kernel_rfl) _ rfl (e_st 0 rfl rfl rfl rfl rfl tc22 ?_)
    refine Tk 11 np rfl rfl hns (by kernel_rfl) (by kernel_rfl) (y_fal rfl fo25_5 rfl) hle _ rfl ?_
    refine On 12 (fun _ _ h => sc_of [0] 0 1 (((hI1.trans hI2).trans hI3)) rfl rfl rfl h) rfl (by kernel_rfl) _ rfl (e_st 0 rfl rfl rfl rfl rfl tc23 ?_)
    refine Tk 13 np rfl rfl hns (by kernel_rfl) (by kernel_rfl) (y_fal rfl fo25_6 rfl) hle _ rfl ?_
    refine On 14 (fun _ _ h => sc_of [0] 0 2 (((hI1.trans hI2).trans hI3)) rfl rfl rfl h) rfl (by kernel_rfl) _ rfl (e_st 0 rfl rfl rfl rfl rfl tc23 ?_)
    refine th_end (fun _ _ h => sc_of [0] 0 3 (((hI1.trans hI2).trans hI3)) rfl rfl rfl h) (by kernel_rfl) ?_
    show TX _ _ _ _ _ _ _
    refine tx_go rfl <| sr <| V rfl (y_lda (i := 0) rfl rfl ta25 rfl) ?_
    refine Ef (e_sta 1 rfl rfl rfl rfl rfl rfl ta25 ?_)
    refine go rfl <| t_ret ?_
    refine tx_end rfl (reti (F0 := L) (.inl rfl) none (res1 rfl (rv_a (i := 1) rfl rfl ta25 rfl)) fun hI hJ => ⟨rfl, ?_⟩)
    exact ⟨_, _, _, _, _, _, rfl, hc.copy (hB1.mono (hI2.trans hI3)) (hB2.mono hI3) hB3⟩
  ·
   refine e_v rfl (y_ld (i := 0) rfl rfl rfl tc23) ?_
   refine On2 2 7 (fun _ _ h => sc_of [0] 0 0 (Imm.Le.refl _) rfl rfl rfl h) rfl rfl rfl rfl (by kernel_rfl) _ _ rfl rfl ?_ ?_
   ·
    refine e_calli rfl en26 rfl (fun L => by exact c_kit_CopyParts _ _ _ hc.parts hc.szp L) ?_
    rintro _ I1 hI1 ⟨B1, d1, rfl, hB1⟩
    refine On2 5 7 (fun _ _ h => sc_of [0] 0 0 (hI1) rfl rfl rfl h) rfl rfl rfl rfl (by kernel_rfl) _ _ rfl rfl ?_ ?_
    ·
     refine e_calli rfl en27 rfl (fun L => by exact c_kit_CopyStmts (sizeL c.pre) _ c.pre _ _ (hc.pre.mono hI1) (Nat.le_refl _) hc.szq L) ?_
     rintro _ I2 hI2 ⟨B2, d2, rfl, hB2⟩
     refine On 7 (fun _ _ h => sc_of [0] 0 0 ((hI1.trans hI2)) rfl rfl rfl h) rfl (by kernel_rfl) _ rfl (e_v rfl (y_ld (i := 0) rfl rfl rfl tc23) ?_)
     refine Tk 9 np rfl rfl hns (by kernel_rfl) (by kernel_rfl) (y_fal rfl fo25_4 rfl) hle _ rfl ?_
     refine On 8 (fun _ _ h => sc_of [0] 0 0 ((hI1.trans hI2)) rfl rfl rfl h) rfl (by kernel_rfl) _ rfl (e_calli rfl en27 rfl (fun L => by exact c_kit_CopyStmts (sizeL c.post) _ c.post _ _ (hc.post.mono (hI1.trans hI2)) (Nat.le_refl _) hc.szr L) ?_)
     rintro _ I3 hI3 ⟨B3, d3, rfl, hB3⟩
     refine On 10 (fun _ _ h => sc_of [0] 0 0 (((hI1.trans hI2).trans hI3)) rfl rfl rfl h) rfl (by kernel_rfl) _ rfl (e_st 0 rfl rfl rfl rfl rfl tc22 ?_)
     refine Tk 11 np rfl rfl hns (by kernel_rfl) (by kernel_rfl) (y_fal rfl fo25_5 rfl) hle _ rfl ?_
     refine On 12 (fun _ _ h => sc_of [0] 0 1 (((hI1.trans hI2).trans hI3)) rfl rfl rfl h) rfl (by kernel_rfl) _ rfl (e_st 0 rfl rfl rfl rfl rfl tc23 ?_)
     refine Tk 13 np rfl rfl hns (by kernel_rfl) (by kernel_rfl) (y_fal rfl fo25_6 rfl) hle _ rfl ?_
     refine On 14 (fun _ _ h => sc_of [0] 0 2 (((hI1.trans hI2).trans hI3)) rfl rfl rfl h) rfl (by kernel_rfl) _ rfl (e_st 0 rfl rfl rfl rfl rfl tc23 ?_)
     refine th_end (fun _ _ h => sc_of [0] 0 3 (((hI1.trans hI2).trans hI3)) rfl rfl rfl h) (by kernel_rfl) ?_
     show TX _ _ _ _ _ _ _
     refine tx_go rfl <| sr <| V rfl (y_lda (i := 0) rfl rfl ta25 rfl) ?_
     refine Ef (e_sta 1 rfl rfl rfl rfl rfl rfl ta25 ?_)
     refine go rfl <| t_ret ?_
     refine tx_end rfl (reti (F0 := L) (.inl rfl) none (res1 rfl (rv_a (i := 1) rfl rfl ta25 rfl)) fun hI hJ => ⟨rfl, ?_⟩)
     exact ⟨_, _, _, _, _, _, rfl, hc.copy (hB1.mono (hI2.trans hI3)) (hB2.mono hI3) hB3⟩
    ·
     refine e_v rfl (y_ld (i := 0) rfl rfl rfl tc23) <| Tk 9 np rfl rfl hns (by kernel_rfl) (by kernel_rfl) (y_fal rfl fo25_4 rfl) hle _ rfl ?_
     refine On 5 (fun _ _ h => sc_of [0] 0 0 (hI1) rfl rfl rfl h) rfl (by kernel_rfl) _ rfl (e_calli rfl en27 rfl (fun L => by exact c_kit_CopyStmts (sizeL c.pre) _ c.pre _ _ (hc.pre.mono hI1) (Nat.le_refl _) hc.szq L) ?_)
     rintro _ I2 hI2 ⟨B2, d2, rfl, hB2⟩
     refine On 8 (fun _ _ h => sc_of [0] 0 0 ((hI1.trans hI2)) rfl rfl rfl h) rfl (by kernel_rfl) _ rfl (e_calli rfl en27 rfl (fun L => by exact c_kit_CopyStmts (sizeL c.post) _ c.post _ _ (hc.post.mono (hI1.trans hI2)) (Nat.le_refl _) hc.szr L) ?_)
     rintro _ I3 hI3 ⟨B3, d3, rfl, hB3⟩
     refine On 10 (fun _ _ h => sc_of [0] 0 0 (((hI1.trans hI2).trans hI3)) rfl rfl rfl h) rfl (by kernel_rfl) _ rfl (e_st 0 rfl rfl rfl rfl rfl tc22 ?_)
     refine Tk 11 np rfl rfl hns (by kernel_rfl) (by kernel_rfl) (y_fal rfl fo25_5 rfl) hle _ rfl ?_
     refine On 12 (fun _ _ h => sc_of [0] 0 1 (((hI1.trans hI2).trans hI3)) rfl rfl rfl h) rfl (by kernel_rfl) _ rfl (e_st 0 rfl rfl rfl rfl rfl tc23 ?_)
     refine Tk 13 np rfl rfl hns (by kernel_rfl) (by kernel_rfl) (y_fal rfl fo25_6 rfl) hle _ rfl ?_
     refine On 14 (fun _ _ h => sc_of [0] 0 2 (((hI1.trans hI2).trans hI3)) rfl rfl rfl h) rfl (by kernel_rfl) _ rfl (e_st 0 rfl rfl rfl rfl rfl tc23 ?_)
     refine th_end (fun _ _ h => sc_of [0] 0 3 (((hI1.trans hI2).trans hI3)) rfl rfl rfl h) (by kernel_rfl) ?_
     show TX _ _ _ _ _ _ _
     refine tx_go rfl <| sr <| V rfl (y_lda (i := 0) rfl rfl ta25 rfl) ?_
     refine Ef (e_sta 1 rfl rfl rfl rfl rfl rfl ta25 ?_)
     refine go rfl <| t_ret ?_
     refine tx_end rfl (reti (F0 := L) (.inl rfl) none (res1 rfl (rv_a (i := 1) rfl rfl ta25 rfl)) fun hI hJ => ⟨rfl, ?_⟩)
     exact ⟨_, _, _, _, _, _, rfl, hc.copy (hB1.mono (hI2.trans hI3)) (hB2.mono hI3) hB3⟩
   ·
    refine e_v rfl (y_ld (i := 0) rfl rfl rfl tc23) ?_
    refine On 2 (fun _ _ h => sc_of [0] 0 0 (Imm.Le.refl _) rfl rfl rfl h) rfl (by kernel_rfl) _ rfl (e_calli rfl en26 rfl (fun L => by exact c_kit_CopyParts _ _ _ hc.parts hc.szp L) ?_)
    rintro _ I1 hI1 ⟨B1, d1, rfl, hB1⟩
    refine Tk 9 np rfl rfl hns (by kernel_rfl) (by kernel_rfl) (y_fal rfl fo25_4 rfl) hle _ rfl ?_
    refine On 5 (fun _ _ h => sc_of [0] 0 0 (hI1) rfl rfl rfl h) rfl (by kernel_rfl) _ rfl (e_calli rfl en27 rfl (fun L => by exact c_kit_CopyStmts (sizeL c.pre) _ c.pre _ _ (hc.pre.mono hI1) (Nat.le_refl _) hc.szq L) ?_)
    rintro _ I2 hI2 ⟨B2, d2, rfl, hB2⟩
    refine On 8 (fun _ _ h => sc_of [0] 0 0 ((hI1.trans hI2)) rfl rfl rfl h) rfl (by kernel_rfl) _ rfl (e_calli rfl en27 rfl (fun L => by exact c_kit_CopyStmts (sizeL c.post) _ c.post _ _ (hc.post.mono (hI1.trans hI2)) (Nat.le_refl _) hc.szr L) ?_)
    rintro _ I3 hI3 ⟨B3, d3, rfl, hB3⟩
    refine On 10 (fun _ _ h => sc_of [0] 0 0 (((hI1.trans hI2).trans hI3)) rfl rfl rfl h) rfl (by kernel_rfl) _ rfl (e_st 0 rfl rfl rfl rfl rfl tc22 ?_)
    refine Tk 11 np rfl rfl hns (by kernel_rfl) (by kernel_rfl) (y_fal rfl fo25_5 rfl) hle _ rfl ?_
    refine On 12 (fun _ _ h => sc_of [0] 0 1 (((hI1.trans hI2).trans hI3)) rfl rfl rfl h) rfl (by kernel_rfl) _ rfl (e_st 0 rfl rfl rfl rfl rfl tc23 ?_)
    refine Tk 13 np rfl rfl hns (by kernel_rfl) (by kernel_rfl) (y_fal rfl fo25_6 rfl) hle _ rfl ?_
    refine On 14 (fun _ _ h => sc_of [0] 0 2 (((hI1.trans hI2).trans hI3)) rfl rfl rfl h) rfl (by kernel_rfl) _ rfl (e_st 0 rfl rfl rfl rfl rfl tc23 ?_)
    refine th_end (fun _ _ h => sc_of [0] 0 3 (((hI1.trans hI2).trans hI3)) rfl rfl rfl h) (by kernel_rfl) ?_
    show TX _ _ _ _ _ _ _
    refine tx_go rfl <| sr <| V rfl (y_lda (i := 0) rfl rfl ta25 rfl) ?_
    refine Ef (e_sta 1 rfl rfl rfl rfl rfl rfl ta25 ?_)
    refine go rfl <| t_ret ?_
    refine tx_end rfl (reti (F0 := L) (.inl rfl) none (res1 rfl (rv_a (i := 1) rfl rfl ta25 rfl)) fun hI hJ => ⟨rfl, ?_⟩)
    exact ⟨_, _, _, _, _, _, rfl, hc.copy (hB1.mono (hI2.trans hI3)) (hB2.mono hI3) hB3⟩
  ·
   refine e_v rfl (y_ld (i := 0) rfl rfl rfl tc23) ?_
   refine On2 2 4 (fun _ _ h => sc_of [0] 0 0 (Imm.Le.refl _) rfl rfl rfl h) rfl rfl rfl rfl (by kernel_rfl) _ _ rfl rfl ?_ ?_
   ·
    refine e_calli rfl en26 rfl (fun L => by exact c_kit_CopyParts _ _ _ hc.parts hc.szp L) ?_
    rintro _ I1 hI1 ⟨B1, d1, rfl, hB1⟩
    refine On 4 (fun _ _ h => sc_of [0] 0 0 (hI1) rfl rfl rfl h) rfl (by kernel_rfl) _ rfl (e_v rfl (y_ld (i := 0) rfl rfl rfl tc23) ?_)
    refine Tk 9 np rfl rfl hns (by kernel_rfl) (by kernel_rfl) (y_fal rfl fo25_4 rfl) hle _ rfl ?_
    refine On 5 (fun _ _ h => sc_of [0] 0 0 (hI1) rfl rfl rfl h) rfl (by kernel_rfl) _ rfl (e_calli rfl en27 rfl (fun L => by exact c_kit_CopyStmts (sizeL c.pre) _ c.pre _ _ (hc.pre.mono hI1) (Nat.le_refl _) hc.szq L) ?_)
    rintro _ I2 hI2 ⟨B2, d2, rfl, hB2⟩
    refine On 8 (fun _ _ h => sc_of [0] 0 0 ((hI1.trans hI2)) rfl rfl rfl h) rfl (by kernel_rfl) _ rfl (e_calli rfl en27 rfl (fun L => by exact c_kit_CopyStmts (sizeL c.post) _ c.post _ _ (hc.post.mono (hI1.trans hI2)) (Nat.le_refl _) hc.szr L) ?_)
    rintro _ I3 hI3 ⟨B3, d3, rfl, hB3⟩
    refine On 10 (fun _ _ h => sc_of [0] 0 0 (((hI1.trans hI2).trans hI3)) rfl rfl rfl h) rfl (by kernel_rfl) _ rfl (e_st 0 rfl rfl rfl rfl rfl tc22 ?_)
    refine Tk 11 np rfl rfl hns (by kernel_rfl) (by kernel_rfl) (y_fal rfl fo25_5 rfl) hle _ rfl ?_
    refine On 12 (fun _ _ h => sc_of [0] 0 1 (((hI1.trans hI2).trans hI3)) rfl rfl rfl h) rfl (by kernel_rfl) _ rfl (e_st 0 rfl rfl rfl rfl rfl tc23 ?_)
    refine Tk 13 np rfl rfl hns (by kernel_rfl) (by kernel_rfl) (y_fal rfl fo25_6 rfl) hle _ rfl ?_
    refine On 14 (fun _ _ h => sc_of [0] 0 2 (((hI1.trans hI2).trans hI3)) rfl rfl rfl h) rfl (by kernel_rfl) _ rfl (e_st 0 rfl rfl rfl rfl rfl tc23 ?_)
    refine th_end (fun _ _ h => sc_of [0] 0 3 (((hI1.trans hI2).trans hI3)) rfl rfl rfl h) (by kernel_rfl) ?_
    show TX _ _ _ _ _ _ _
    refine tx_go rfl <| sr <| V rfl (y_lda (i := 0) rfl rfl ta25 rfl) ?_
    refine Ef (e_sta 1 rfl rfl rfl rfl rfl rfl ta25 ?_)
    refine go rfl <| t_ret ?_
    refine tx_end rfl (reti (F0 := L) (.inl rfl) none (res1 rfl (rv_a (i := 1) rfl rfl ta25 rfl)) fun hI hJ => ⟨rfl, ?_⟩)
    exact ⟨_, _, _, _, _, _, rfl, hc.copy (hB1.mono (hI2.trans hI3)) (hB2.mono hI3) hB3⟩
   ·
    refine e_v rfl (y_ld (i := 0) rfl rfl rfl tc23) ?_
    refine On 2 (fun _ _ h => sc_of [0] 0 0 (Imm.Le.refl _) rfl rfl rfl h) rfl (by kernel_rfl) _ rfl (e_calli rfl en26 rfl (fun L => by exact c_kit_CopyParts _ _ _ hc.parts hc.szp L) ?_)
    rintro _ I1 hI1 ⟨B1, d1, rfl, hB1⟩
    refine Tk 9 np rfl rfl hns (by kernel_rfl) (by kernel_rfl) (y_fal rfl fo25_4 rfl) hle _ rfl ?_
    refine On 5 (fun _ _ h => sc_of [0] 0 0 (hI1) rfl rfl rfl h) rfl (by kernel_rfl) _ rfl (e_calli rfl en27 rfl (fun L => by exact c_kit_CopyStmts (sizeL c.pre) _ c.pre _ _ (hc.pre.mono hI1) (Nat.le_refl _) hc.szq L) ?_)
    rintro _ I2 hI2 ⟨B2, d2, rfl, hB2⟩
    refine On 8 (fun _ _ h => sc_of [0] 0 0 ((hI1.trans hI2)) rfl rfl rfl h) rfl (by kernel_rfl) _ rfl (e_calli rfl en27 rfl (fun L => by exact c_kit_CopyStmts (sizeL c.post) _ c.post _ _ (hc.post.mono (hI1.trans hI2)) (Nat.le_refl _) hc.szr L) ?_)
    rintro _ I3 hI3 ⟨B3, d3, rfl, hB3⟩
    refine On 10 (fun _ _ h => sc_of [0] 0 0 (((hI1.trans hI2).trans hI3)) rfl rfl rfl h) rfl (by kernel_rfl) _ rfl (e_st 0 rfl rfl rfl rfl rfl tc22 ?_)
    refine Tk 11 np rfl rfl hns (by kernel_rfl) (by kernel_rfl) (y_fal rfl fo25_5 rfl) hle _ rfl ?_
    refine On 12 (fun _ _ h => sc_of [0] 0 1 (((hI1.trans hI2).trans hI3)) rfl rfl rfl h) rfl (by kernel_rfl) _ rfl (e_st 0 rfl rfl rfl rfl rfl tc23 ?_)
    refine Tk 13 np rfl rfl hns (by kernel_rfl) (by kernel_rfl) (y_fal rfl fo25_6 rfl) hle _ rfl ?_
    refine On 14 (fun _ _ h => sc_of [0] 0 2 (((hI1.trans hI2).trans hI3)) rfl rfl rfl h) rfl (by kernel_rfl) _ rfl (e_st 0 rfl rfl rfl rfl rfl tc23 ?_)
    refine th_end (fun _ _ h => sc_of [0] 0 3 (((hI1.trans hI2).trans hI3)) rfl rfl rfl h) (by kernel_rfl) ?_
    show TX _ _ _ _ _ _ _
    refine tx_go rfl <| sr <| V rfl (y_lda (i := 0) rfl rfl ta25 rfl) ?_
    refine Ef (e_sta 1 rfl rfl rfl rfl rfl rfl ta25 ?_)
    refine go rfl <| t_ret ?_
    refine tx_end rfl (reti (F0 := L) (.inl rfl) none (res1 rfl (rv_a (i := 1) rfl rfl ta25 rfl)) fun hI hJ => ⟨rfl, ?_⟩)
    exact ⟨_, _, _, _, _, _, rfl, hc.copy (hB1.mono (hI2.trans hI3)) (hB2.mono hI3) hB3⟩
 ·
  refine e_v rfl (y_ld (i := 0) rfl rfl rfl tc23) ?_
  refine On2 1 7 (fun _ _ h => sc_of [0] 0 0 (Imm.Le.refl _) rfl rfl rfl h) rfl rfl rfl rfl (by kernel_rfl) _ _ rfl rfl ?_ ?_
  ·
   refine e_v rfl (y_ld (i := 0) rfl rfl rfl tc22) ?_
   refine On2 2 7 (fun _ _ h => sc_of [0] 0 0 (Imm.Le.refl _) rfl rfl rfl h) rfl rfl rfl rfl (by kernel_rfl) _ _ rfl rfl ?_ ?_
   ·
    refine e_calli rfl en26 rfl (fun L => by exact c_kit_CopyParts _ _ _ hc.parts hc.szp L) ?_
    rintro _ I1 hI1 ⟨B1, d1, rfl, hB1⟩
    refine On2 5 7 (fun _ _ h => sc_of [0] 0 0 (hI1) rfl rfl rfl h) rfl rfl rfl rfl (by kernel_rfl) _ _ rfl rfl ?_ ?_
    ·
     refine e_calli rfl en27 rfl (fun L => by exact c_kit_CopyStmts (sizeL c.pre) _ c.pre _ _ (hc.pre.mono hI1) (Nat.le_refl _) hc.szq L) ?_
     rintro _ I2 hI2 ⟨B2, d2, rfl, hB2⟩
     refine On 7 (fun _ _ h => sc_of [0] 0 0 ((hI1.trans hI2)) rfl rfl rfl h) rfl (by kernel_rfl) _ rfl (e_v rfl (y_ld (i := 0) rfl rfl rfl tc23) ?_)
     refine Tk 9 np rfl rfl hns (by kernel_rfl) (by kernel_rfl) (y_fal rfl fo25_4 rfl) hle _ rfl ?_
     refine On 8 (fun _ _ h => sc_of [0] 0 0 ((hI1.trans hI2)) rfl rfl rfl h) rfl (by kernel_rfl) _ rfl (e_calli rfl en27 rfl (fun L => by exact c_kit_CopyStmts (sizeL c.post) _ c.post _ _ (hc.post.mono (hI1.trans hI2)) (Nat.le_refl _) hc.szr L) ?_)
     rintro _ I3 hI3 ⟨B3, d3, rfl, hB3⟩
     refine On 10 (fun _ _ h => sc_of [0] 0 0 (((hI1.trans hI2).trans hI3)) rfl rfl rfl h) rfl (by kernel_rfl) _ rfl (e_st 0 rfl rfl rfl rfl rfl tc22 ?_)
     refine Tk 11 np rfl rfl hns (by kernel_rfl) (by kernel_rfl) (y_fal rfl fo25_5 rfl) hle _ rfl ?_
     refine On 12 (fun _ _ h => sc_of [0] 0 1 (((hI1.trans hI2).trans hI3)) rfl rfl rfl h) rfl (by kernel_rfl) _ rfl (e_st 0 rfl rfl rfl rfl rfl tc23 ?_)
     refine Tk 13 np rfl rfl hns (by kernel_rfl) (by kernel_rfl) (y_fal rfl fo25_6 rfl) hle _ rfl ?_
     refine On 14 (fun _ _ h => sc_of [0] 0 2 (((hI1.trans hI2).trans hI3)) rfl rfl rfl h) rfl (by kernel_rfl) _ rfl (e_st 0 rfl rfl rfl rfl rfl tc23 ?_)
     refine th_end (fun _ _ h => sc_of [0] 0 3 (((hI1.trans hI2).trans hI3)) rfl rfl rfl h) (by kernel_rfl) ?_
     show TX _ _ _ _ _ _ _
     refine tx_go rfl <| sr <| V rfl (y_lda (i := 0) rfl rfl ta25 rfl) ?_
     refine Ef (e_sta 1 rfl rfl rfl rfl rfl rfl ta25 ?_)
     refine go rfl <| t_ret ?_
     refine tx_end rfl (reti (F0 := L) (.inl rfl) none (res1 rfl (rv_a (i := 1) rfl rfl ta25 rfl)) fun hI hJ => ⟨rfl, ?_⟩)
     exact ⟨_, _, _, _, _, _, rfl, hc.copy (hB1.mono (hI2.trans hI3)) (hB2.mono hI3) hB3⟩
    ·
     refine e_v rfl (y_ld (i := 0) rfl rfl rfl tc23) <| Tk 9 np rfl rfl hns (by kernel_rfl) (by kernel_rfl) (y_fal rfl fo25_4 rfl) hle _ rfl ?_
     refine On 5 (fun _ _ h => sc_of [0] 0 0 (hI1) rfl rfl rfl h) rfl (by kernel_rfl) _ rfl (e_calli rfl en27 rfl (fun L => by exact c_kit_CopyStmts (sizeL c.pre) _ c.pre _ _ (hc.pre.mono hI1) (Nat.le_refl _) hc.szq L) ?_)
     rintro _ I2 hI2 ⟨B2, d2, rfl, hB2⟩
     refine On 8 (fun _ _ h => sc_of [0] 0 0 ((hI1.trans hI2)) rfl rfl rfl h) rfl (by kernel_rfl) _ rfl (e_calli rfl en27 rfl (fun L => by exact c_kit_CopyStmts (sizeL c.post) _ c.post _ _ (hc.post.mono (hI1.trans hI2)) (Nat.le_refl _) hc.szr L) ?_)
     rintro _ I3 hI3 ⟨B3, d3, rfl, hB3⟩
     refine On 10 (fun _ _ h => sc_of [0] 0 0 (((hI1.trans hI2).trans hI3)) rfl rfl rfl h) rfl (by kernel_rfl) _ rfl (e_st 0 rfl rfl rfl rfl rfl tc22 ?_)
     refine Tk 11 np rfl rfl hns (by kernel_rfl) (by kernel_rfl) (y_fal rfl fo25_5 rfl) hle _ rfl ?_
     refine On 12 (fun _ _ h => sc_of [0] 0 1 (((hI1.trans hI2).trans hI3)) rfl rfl rfl h) rfl (by kernel_rfl) _ rfl (e_st 0 rfl rfl rfl rfl rfl tc23 ?_)
     refine Tk 13 np rfl rfl hns (by kernel_rfl) (by kernel_rfl) (y_fal rfl fo25_6 rfl) hle _ rfl ?_
     refine On 14 (fun _ _ h => sc_of [0] 0 2 (((hI1.trans hI2).trans hI3)) rfl rfl rfl h) rfl (by kernel_rfl) _ rfl (e_st 0 rfl rfl rfl rfl rfl tc23 ?_)
     refine th_end (fun _ _ h => sc_of [0] 0 3 (((hI1.trans hI2).trans hI3)) rfl rfl rfl h) (by kernel_rfl) ?_
     show TX _ _ _ _ _ _ _
     refine tx_go rfl <| sr <| V rfl (y_lda (i := 0) rfl rfl ta25 rfl) ?_
     refine Ef (e_sta 1 rfl rfl rfl rfl rfl rfl ta25 ?_)
     refine go rfl <| t_ret ?_
     refine tx_end rfl (reti (F0 := L) (.inl rfl) none (res1 rfl (rv_a (i := 1) rfl rfl ta25 rfl)) fun hI hJ => ⟨rfl, ?_⟩)
     exact ⟨_, _, _, _, _, _, rfl, hc.copy (hB1.mono (hI2.trans hI3)) (hB2.mono hI3) hB3⟩
   ·
    refine e_v rfl (y_ld (i := 0) rfl rfl rfl tc23) ?_
    refine On 2 (fun _ _ h => sc_of [0] 0 0 (Imm.Le.refl _) rfl rfl rfl h) rfl (by kernel_rfl) _ rfl (e_calli rfl en26 rfl (fun L => by exact c_kit_CopyParts _ _ _ hc.parts hc.szp L) ?_)
    rintro _ I1 hI1 ⟨B1, d1, rfl, hB1⟩
    refine Tk 9 np rfl rfl hns (by kernel_rfl) (by kernel_rfl) (y_fal rfl fo25_4 rfl) hle _ rfl ?_
    refine On 5 (fun _ _ h => sc_of [0] 0 0 (hI1) rfl rfl rfl h) rfl (by kernel_rfl) _ rfl (e_calli rfl en27 rfl (fun L => by exact c_kit_CopyStmts (sizeL c.pre) _ c.pre _ _ (hc.pre.mono hI1) (Nat.le_refl _) hc.szq L) ?_)
    rintro _ I2 hI2 ⟨B2, d2, rfl, hB2⟩
    refine On 8 (fun _ _ h => sc_of [0] 0 0 ((hI1.trans hI2)) rfl rfl rfl h) rfl (by kernel_rfl) _ rfl (e_calli rfl en27 rfl (fun L => by exact c_kit_CopyStmts (sizeL c.post) _ c.post _ _ (hc.post.mono (hI1.trans hI2)) (Nat.le_refl _) hc.szr L) ?_)
    rintro _ I3 hI3 ⟨B3, d3, rfl, hB3⟩
    refine On 10 (fun _ _ h => sc_of [0] 0 0 (((hI1.trans hI2).trans hI3)) rfl rfl rfl h) rfl (by kernel_rfl) _ rfl (e_st 0 rfl rfl rfl rfl rfl tc22 ?_)
    refine Tk 11 np rfl rfl hns (by kernel_rfl) (by kernel_rfl) (y_fal rfl fo25_5 rfl) hle _ rfl ?_
    refine On 12 (fun _ _ h => sc_of [0] 0 1 (((hI1.trans hI2).trans hI3)) rfl rfl rfl h) rfl (by kernel_rfl) _ rfl (e_st 0 rfl rfl rfl rfl rfl tc23 ?_)
    refine Tk 13 np rfl rfl hns (by kernel_rfl) (by kernel_rfl) (y_fal rfl fo25_6 rfl) hle _ rfl ?_
    refine On 14 (fun _ _ h => sc_of [0] 0 2 (((hI1.trans hI2).trans hI3)) rfl rfl rfl h) rfl (by kernel_rfl) _ rfl (e_st 0 rfl rfl rfl rfl rfl tc23 ?_)
    refine th_end (fun _ _ h => sc_of [0] 0 3 (((hI1.trans hI2).trans hI3)) rfl rfl rfl h) (by kernel_rfl) ?_
    show TX _ _ _ _ _ _ _
    refine tx_go rfl <| sr <| V rfl (y_lda (i := 0) rfl rfl ta25 rfl) ?_
    refine Ef (e_sta 1 rfl rfl rfl rfl rfl rfl ta25 ?_)
    refine go rfl <| t_ret ?_
    refine tx_end rfl (reti (F0 := L) (.inl rfl) none (res1 rfl (rv_a (i := 1) rfl rfl ta25 rfl)) fun hI hJ => ⟨rfl, ?_⟩)
    exact ⟨_, _, _, _, _, _, rfl, hc.copy (hB1.mono (hI2.trans hI3)) (hB2.mono hI3) hB3⟩
  ·
   refine e_v rfl (y_ld (i := 0) rfl rfl rfl tc23) ?_
   refine On 1 (fun _ _ h => sc_of [0] 0 0 (Imm.Le.refl _) rfl rfl rfl h) rfl (by kernel_rfl) _ rfl (e_v rfl (y_ld (i := 0) rfl rfl rfl tc22) ?_)
   refine On 2 (fun _ _ h => sc_of [0] 0 0 (Imm.Le.refl _) rfl rfl rfl h) rfl (by kernel_rfl) _ rfl (e_calli rfl en26 rfl (fun L => by exact c_kit_CopyParts _ _ _ hc.parts hc.szp L) ?_)
   rintro _ I1 hI1 ⟨B1, d1, rfl, hB1⟩
   refine Tk 9 np rfl rfl hns (by kernel_rfl) (by kernel_rfl) (y_fal rfl fo25_4 rfl) hle _ rfl ?_
   refine On 5 (fun _ _ h => sc_of [0] 0 0 (hI1) rfl rfl rfl h) rfl (by kernel_rfl) _ rfl (e_calli rfl en27 rfl (fun L => by exact c_kit_CopyStmts (sizeL c.pre) _ c.pre _ _ (hc.pre.mono hI1) (Nat.le_refl _) hc.szq L) ?_)
   rintro _ I2 hI2 ⟨B2, d2, rfl, hB2⟩
   refine On 8 (fun _ _ h => sc_of [0] 0 0 ((hI1.trans hI2)) rfl rfl rfl h) rfl (by kernel_rfl) _ rfl (e_calli rfl en27 rfl (fun L => by exact c_kit_CopyStmts (sizeL c.post) _ c.post _ _ (hc.post.mono (hI1.trans hI2)) (Nat.le_refl _) hc.szr L) ?_)
   rintro _ I3 hI3 ⟨B3, d3, rfl, hB3⟩
   refine On 10 (fun _ _ h => sc_of [0] 0 0 (((hI1.trans hI2).trans hI3)) rfl rfl rfl h) rfl (by kernel_rfl) _ rfl (e_st 0 rfl rfl rfl rfl rfl tc22 ?_)
   refine Tk 11 np rfl rfl hns (by kernel_rfl) (by kernel_rfl) (y_fal rfl fo25_5 rfl) hle _ rfl ?_
   refine On 12 (fun _ _ h => sc_of [0] 0 1 (((hI1.trans hI2).trans hI3)) rfl rfl rfl h) rfl (by kernel_rfl) _ rfl (e_st 0 rfl rfl rfl rfl rfl tc23 ?_)
   refine Tk 13 np rfl rfl hns (by kernel_rfl) (by kernel_rfl) (y_fal rfl fo25_6 rfl) hle _ rfl ?_
   refine On 14 (fun _ _ h => sc_of [0] 0 2 (((hI1.trans hI2).trans hI3)) rfl rfl rfl h) rfl (by kernel_rfl) _ rfl (e_st 0 rfl rfl rfl rfl rfl tc23 ?_)
   refine th_end (fun _ _ h => sc_of [0] 0 3 (((hI1.trans hI2).trans hI3)) rfl rfl rfl h) (by kernel_rfl) ?_
   show TX _ _ _ _ _ _ _
   refine tx_go rfl <| sr <| V rfl (y_lda (i := 0) rfl rfl ta25 rfl) ?_
   refine Ef (e_sta 1 rfl rfl rfl rfl rfl rfl ta25 ?_)
   refine go rfl <| t_ret ?_
   refine tx_end rfl (reti (F0 := L) (.inl rfl) none (res1 rfl (rv_a (i := 1) rfl rfl ta25 rfl)) fun hI hJ => ⟨rfl, ?_⟩)
   exact ⟨_, _, _, _, _, _, rfl, hc.copy (hB1.mono (hI2.trans hI3)) (hB2.mono hI3) hB3⟩
 ·
  refine e_v rfl (y_ld (i := 0) rfl rfl rfl tc23) ?_
  refine On2 1 4 (fun _ _ h => sc_of [0] 0 0 (Imm.Le.refl _) rfl rfl rfl h) rfl rfl rfl rfl (by kernel_rfl) _ _ rfl rfl ?_ ?_
  ·
   refine e_v rfl (y_ld (i := 0) rfl rfl rfl tc22) ?_
   refine On2 2 4 (fun _ _ h => sc_of [0] 0 0 (Imm.Le.refl _) rfl rfl rfl h) rfl rfl rfl rfl (by kernel_rfl) _ _ rfl rfl ?_ ?_
   ·
    refine e_calli rfl en26 rfl (fun L => by exact c_kit_CopyParts _ _ _ hc.parts hc.szp L) ?_
    rintro _ I1 hI1 ⟨B1, d1, rfl, hB1⟩
    refine On 4 (fun _ _ h => sc_of [0] 0 0 (hI1) rfl rfl rfl h) rfl (by kernel_rfl) _ rfl (e_v rfl (y_ld (i := 0) rfl rfl rfl tc23) ?_)
    refine Tk 9 np rfl rfl hns (by kernel_rfl) (by kernel_rfl) (y_fal rfl fo25_4 rfl) hle _ rfl ?_
    refine On 5 (fun _ _ h => sc_of [0] 0 0 (hI1) rfl rfl rfl h) rfl (by kernel_rfl) _ rfl (e_calli rfl en27 rfl (fun L => by exact c_kit_CopyStmts (sizeL c.pre) _ c.pre _ _ (hc.pre.mono hI1) (Nat.le_refl _) hc.szq L) ?_)
    rintro _ I2 hI2 ⟨B2, d2, rfl, hB2⟩
    refine On 8 (fun _ _ h => sc_of [0] 0 0 ((hI1.trans hI2)) rfl rfl rfl h) rfl (by kernel_rfl) _ rfl (e_calli rfl en27 rfl (fun L => by exact c_kit_CopyStmts (sizeL c.post) _ c.post _ _ (hc.post.mono (hI1.trans hI2)) (Nat.le_refl _) hc.szr L) ?_)
    rintro _ I3 hI3 ⟨B3, d3, rfl, hB3⟩
    refine On 10 (fun _ _ h => sc_of [0] 0 0 (((hI1.trans hI2).trans hI3)) rfl rfl rfl h) rfl (by kernel_rfl) _ rfl (e_st 0 rfl rfl rfl rfl rfl tc22 ?_)
    refine Tk 11 np rfl rfl hns (by kernel_rfl) (by kernel_rfl) (y_fal rfl fo25_5 rfl) hle _ rfl ?_
    refine On 12 (fun _ _ h => sc_of [0] 0 1 (((hI1.trans hI2).trans hI3)) rfl rfl rfl h) rfl (by kernel_rfl) _ rfl (e_st 0 rfl rfl rfl rfl rfl tc23 ?_)
    refine Tk 13 np rfl rfl hns (by kernel_rfl) (by kernel_rfl) (y_fal rfl fo25_6 rfl) hle _ rfl ?_
    refine On 14 (fun _ _ h => sc_of [0] 0 2 (((hI1.trans hI2).trans hI3)) rfl rfl rfl h) rfl (by kernel_rfl) _ rfl (e_st 0 rfl rfl rfl rfl rfl tc23 ?_)
    refine th_end (fun _ _ h => sc_of [0] 0 3 (((hI1.trans hI2).trans hI3)) rfl rfl rfl h) (by kernel_rfl) ?_
    show TX _ _ _ _ _ _ _
    refine tx_go rfl <| sr <| V rfl (y_lda (i := 0) rfl rfl ta25 rfl) ?_
    refine Ef (e_sta 1 rfl rfl rfl rfl rfl rfl ta25 ?_)
    refine go rfl <| t_ret ?_
    refine tx_end rfl (reti (F0 := L) (.inl rfl) none (res1 rfl (rv_a (i := 1) rfl rfl ta25 rfl)) fun hI hJ => ⟨rfl, ?_⟩)
    exact ⟨_, _, _, _, _, _, rfl, hc.copy (hB1.mono (hI2.trans hI3)) (hB2.mono hI3) hB3⟩
   ·
    refine e_v rfl (y_ld (i := 0) rfl rfl rfl tc23) ?_
    refine On 2 (fun _ _ h => sc_of [0] 0 0 (Imm.Le.refl _) rfl rfl rfl h) rfl (by kernel_rfl) _ rfl (e_calli rfl en26 rfl (fun L => by exact c_kit_CopyParts _ _ _ hc.parts hc.szp L) ?_)
    rintro _ I1 hI1 ⟨B1, d1, rfl, hB1⟩
    refine Tk 9 np rfl rfl hns (by kernel_rfl) (by kernel_rfl) (y_fal rfl fo25_4 rfl) hle _ rfl ?_
    refine On 5 (fun _ _ h => sc_of [0] 0 0 (hI1) rfl rfl rfl h) rfl (by kernel_rfl) _ rfl (e_calli rfl en27 rfl (fun L => by exact c_kit_CopyStmts (sizeL c.pre) _ c.pre _ _ (hc.pre.mono hI1) (Nat.le_refl _) hc.szq L) ?_)
    rintro _ I2 hI2 ⟨B2, d2, rfl, hB2⟩
    refine On 8 (fun _ _ h => sc_of [0] 0 0 ((hI1.trans hI2)) rfl rfl rfl h) rfl (by kernel_rfl) _ rfl (e_calli rfl en27 rfl (fun L => by exact c_kit_CopyStmts (sizeL c.post) _ c.post _ _ (hc.post.mono (hI1.trans hI2)) (Nat.le_refl _) hc.szr L) ?_)
    rintro _ I3 hI3 ⟨B3, d3, rfl, hB3⟩
    refine On 10 (fun _ _ h => sc_of [0] 0 0 (((hI1.trans hI2).trans hI3)) rfl rfl rfl h) rfl (by kernel_rfl) _ rfl (e_st 0 rfl rfl rfl rfl rfl tc22 ?_)
    refine Tk 11 np rfl rfl hns (by kernel_rfl) (by kernel_rfl) (y_fal rfl fo25_5 rfl) hle _ rfl ?_
    refine On 12 (fun _ _ h => sc_of [0] 0 1 (((hI1.trans hI2).trans hI3)) rfl rfl rfl h) rfl (by kernel_rfl) _ rfl (e_st 0 rfl rfl rfl rfl rfl tc23 ?_)
    refine Tk 13 np rfl rfl hns (by kernel_rfl) (by kernel_rfl) (y_fal rfl fo25_6 rfl) hle _ rfl ?_
    refine On 14 (fun _ _ h => sc_of [0] 0 2 (((hI1.trans hI2).trans hI3)) rfl rfl rfl h) rfl (by kernel_rfl) _ rfl (e_st 0 rfl rfl rfl rfl rfl tc23 ?_)
    refine th_end (fun _ _ h => sc_of [0] 0 3 (((hI1.trans hI2).trans hI3)) rfl rfl rfl h) (by kernel_rfl) ?_
    show TX _ _ _ _ _ _ _
    refine tx_go rfl <| sr <| V rfl (y_lda (i := 0) rfl rfl ta25 rfl) ?_
    refine Ef (e_sta 1 rfl rfl rfl rfl rfl rfl ta25 ?_)
    refine go rfl <| t_ret ?_
    refine tx_end rfl (reti (F0 := L) (.inl rfl) none (res1 rfl (rv_a (i := 1) rfl rfl ta25 rfl)) fun hI hJ => ⟨rfl, ?_⟩)
    exact ⟨_, _, _, _, _, _, rfl, hc.copy (hB1.mono (hI2.trans hI3)) (hB2.mono hI3) hB3⟩
  ·
   refine e_v rfl (y_ld (i := 0) rfl rfl rfl tc23) ?_
   refine On 1 (fun _ _ h => sc_of [0] 0 0 (Imm.Le.refl _) rfl rfl rfl h) rfl (by kernel_rfl) _ rfl (e_v rfl (y_ld (i := 0) rfl rfl rfl tc22) ?_)
   refine On 2 (fun _ _ h => sc_of [0] 0 0 (Imm.Le.refl _) rfl rfl rfl h) rfl (by kernel_rfl) _ rfl (e_calli rfl en26 rfl (fun L => by exact c_kit_CopyParts _ _ _ hc.parts hc.szp L) ?_)
   rintro _ I1 hI1 ⟨B1, d1, rfl, hB1⟩
   refine Tk 9 np rfl rfl hns (by kernel_rfl) (by kernel_rfl) (y_fal rfl fo25_4 rfl) hle _ rfl ?_
   refine On 5 (fun _ _ h => sc_of [0] 0 0 (hI1) rfl rfl rfl h) rfl (by kernel_rfl) _ rfl (e_calli rfl en27 rfl (fun L => by exact c_kit_CopyStmts (sizeL c.pre) _ c.pre _ _ (hc.pre.mono hI1) (Nat.le_refl _) hc.szq L) ?_)
   rintro _ I2 hI2 ⟨B2, d2, rfl, hB2⟩
   refine On 8 (fun _ _ h => sc_of [0] 0 0 ((hI1.trans hI2)) rfl rfl rfl h) rfl (by kernel_rfl) _ rfl (e_calli rfl en27 rfl (fun L => by exact c_kit_CopyStmts (sizeL c.post) _ c.post _ _ (hc.post.mono (hI1.trans hI2)) (Nat.le_refl _) hc.szr L) ?_)
   rintro _ I3 hI3 ⟨B3, d3, rfl, hB3⟩
   refine On 10 (fun _ _ h => sc_of [0] 0 0 (((hI1.trans hI2).trans hI3)) rfl rfl rfl h) rfl (by kernel_rfl) _ rfl (e_st 0 rfl rfl rfl rfl rfl tc22 ?_)
   refine Tk 11 np rfl rfl hns (by kernel_rfl) (by kernel_rfl) (y_fal rfl fo25_5 rfl) hle _ rfl ?_
   refine On 12 (fun _ _ h => sc_of [0] 0 1 (((hI1.trans hI2).trans hI3)) rfl rfl rfl h) rfl (by kernel_rfl) _ rfl (e_st 0 rfl rfl rfl rfl rfl tc23 ?_)
   refine Tk 13 np rfl rfl hns (by kernel_rfl) (by kernel_rfl) (y_fal rfl fo25_6 rfl) hle _ rfl ?_
   refine On 14 (fun _ _ h => sc_of [0] 0 2 (((hI1.trans hI2).trans hI3)) rfl rfl rfl h) rfl (by kernel_rfl) _ rfl (e_st 0 rfl rfl rfl rfl rfl tc23 ?_)
   refine th_end (fun _ _ h => sc_of [0] 0 3 (((hI1.trans hI2).trans hI3)) rfl rfl rfl h) (by kernel_rfl) ?_
   show TX _ _ _ _ _ _ _
   refine tx_go rfl <| sr <| V rfl (y_lda (i := 0) rfl rfl ta25 rfl) ?_
   refine Ef (e_sta 1 rfl rfl rfl rfl rfl rfl ta25 ?_)
   refine go rfl <| t_ret ?_
   refine tx_end rfl (reti (F0 := L) (.inl rfl) none (res1 rfl (rv_a (i := 1) rfl rfl ta25 rfl)) fun hI hJ => ⟨rfl, ?_⟩)
   exact ⟨_, _, _, _, _, _, rfl, hc.copy (hB1.mono (hI2.trans hI3)) (hB2.mono hI3) hB3⟩

theorem c_law21_CheckTells {I : Imm} (c : Conf) (Ap Aq Ar : Option Addr) (cp cq cr : Nat) (hin : c.In I Ap Aq Ar) : PAt Try.prog I 3 [.agg #[.int .i64 c.size, .int .i64 c.cells, .int .i64 c.sa, .int .i64 c.sb, .slice Ap c.parts.length cp, .slice Aq c.pre.length cq, .slice Ar c.post.length cr, .bool c.flag]] (.bool true) := by
 refine pat_of fun L => fn_enter Try.func3 rfl rfl rfl ?_
 refine sr ?_
 refine Ef (e_box 0 rfl rfl rfl rfl rfl rfl fun b0 => ?_)
 refine V rfl (y_as rfl) <| go rfl <| t_seq <| sr <| V rfl (y_lda (i := 0) rfl rfl ta25 rfl) ?_
 refine Ef (e_call rfl en7 rfl (c_law21_great _ _ _ _ _ _ _ hin) ?_)
 refine go rfl ?_
 refine If rfl (fun h1 => ?_) (fun h1 => ?_)
 ·
  refine sr ?_
  refine Ef (e_call rfl en8 rfl c_law21_awake ?_)
  refine V rfl (y_as rfl) <| go rfl <| t_ret ?_
  refine tx_end rfl (ret (res1 rfl (rv_t rfl)) fun hI => ⟨?_, rfl⟩)
  first | rfl | (exfalso; simp_all; done)
 ·
  refine skipgo rfl <| sr <| V rfl (y_lda (i := 0) rfl rfl ta25 rfl) ?_
  have hok := hin.ok (by simp_all)
  refine Ef (e_calli rfl en9 rfl (fun L => by exact c_kit_CopyConfig _ _ _ _ _ _ _ hok L) ?_)
  rintro _ I1 hI1 ⟨Bp, dp, Bq, dq, Br, dr, rfl, hcc⟩
  refine Ef (e_alloc 1 rfl Try.zeroValue25 rfl rfl rfl rfl fun b1 => ?_)
  refine Ef (e_sta 1 rfl rfl rfl rfl rfl rfl ta25 ?_)
  refine go rfl <| t_seq <| t_quiet rfl (by kernel_rfl) <| W rfl (y_lda (i := 1) rfl rfl ta25 rfl) <| tq_call rfl en10 rfl (c_check_Check _ _ _ _ _ _ _ hcc) <| W rfl (y_lda (i := 0) rfl rfl ta25 rfl) <| tq_call rfl en11 rfl (c_ref21_Check _ _ _ _ _ _ _ (hok.mono hI1)) <| W rfl (y_eq rfl rfl) <| W rfl (y_mv rfl) ?_
  refine Splq 14 rfl (fun h2 => ?_) (fun h2 => ?_)
  ·
   refine Gtq rfl rfl <| W rfl (y_lda (i := 1) rfl rfl ta25 rfl) <| Gtq rfl rfl <| W rfl (y_lda (i := 0) rfl rfl ta25 rfl) <| Gtq rfl rfl <| tq_call rfl en12 rfl (c_kit_SameConfig _ _ _ _ _ _ _ _ _ _ _ _ _ _ hcc (hok.mono hI1)) <| W rfl (y_pick (b := true) rfl rfl) <| W rfl (y_mv rfl) ?_
   refine Splq 19 rfl (fun h3 => ?_) (fun h3 => ?_)
   ·
    refine Gtq rfl rfl <| tq_call rfl en8 rfl c_law21_awake <| W rfl (y_pick (b := true) rfl rfl) <| W rfl (y_as rfl) <| goq rfl <| t_ret ?_
    refine tx_end rfl (ret (res1 rfl (rv_t rfl)) fun hI => ⟨?_, rfl⟩)
    first | rfl | (exfalso; simp_all; done)
   ·
    refine Gfq rfl rfl rfl rfl <| W rfl (y_pick (b := false) rfl rfl) <| W rfl (y_as rfl) <| goq rfl <| t_ret ?_
    refine tx_end rfl (ret (res1 rfl (rv_t rfl)) fun hI => ⟨?_, rfl⟩)
    first | rfl | (exfalso; simp_all; done)
  ·
   refine Gfq rfl rfl rfl rfl <| Gfq rfl rfl rfl rfl <| Gfq rfl rfl rfl rfl <| W rfl (y_pick (b := false) rfl rfl) <| W rfl (y_mv rfl) <| Gfq rfl rfl rfl rfl <| W rfl (y_pick (b := false) rfl rfl) <| W rfl (y_as rfl) <| goq rfl <| t_ret ?_
   refine tx_end rfl (ret (res1 rfl (rv_t rfl)) fun hI => ⟨?_, rfl⟩)
   first | rfl | (exfalso; simp_all; done)

end Go.Proofs.Ytngdkgddeobiiaa
