/- Walks, printed by my gen.py: kit_deep, kit_Deep, law21_great. -/
import Derived.Test.YtngdkgddeobiiaaFacts
import Derived.Test.YtngdkgddeobiiaaPDeep
import Derived.Test.YtngdkgddeobiiaaWRef
namespace Go.Proofs.Ytngdkgddeobiiaa
open Go Go.TL Go.RowKit
set_option maxRecDepth 100000


theorem c_kit_deep {I : Imm} (m : Int) (bn : Nat) (hm : 0 ≤ m ∧ m ≤ 1000000)  : ∀ (lv : Nat) (l : List Stmt) (A : Option Addr) (cap : Nat) (n : Int) (hl : SRep I l A) (hok : OkS l) (hv : lv ≤ 1000) (hn : 0 ≤ n ∧ n ≤ m), ∀ L, TL.Fn Try.prog 39 [.slice A l.length cap, .int .i64 (lv : Int), .int .i64 m, .pointer (some ⟨bn, 0, none⟩)] I (blkL [(bn, 3, [.int .i64 n])] ++ L) fun v _ L' => ∃ Cl, L' = blkL (reB [(bn, 3, [.int .i64 n])] Cl) ++ L ∧ sameLen [(bn, 3, [.int .i64 n])] Cl ∧ (v = .bool ((dp lv m l n).1) ∧ Cl = [[.int .i64 ((dp lv m l n).2)]]) := by
 intro lv
 induction lv using Nat.strongRecOn with
 | _ lv ih =>
  intro l A cap n hl hok hv hn L
  have hlen := hok.len
  refine fn_enter Try.func39 rfl rfl rfl <| own 0 rfl rfl rfl ?_
  show T _ _ _ _ _ _ _
  refine sr <| V rfl (y_as rfl) <| go rfl <| sr <| V rfl (y_mv rfl) <| V rfl (y_mv rfl) <| V rfl (y_nc rfl) <| V rfl (y_ld (i := 0) rfl rfl rfl tc3) <| V rfl (y_mv rfl) <| V rfl (y_lens Try.underlying23 rfl) ?_
  refine V rfl (y_add rfl rfl (by omega)) <| V rfl (y_nc rfl) ?_
  refine Ef (e_st 0 rfl rfl rfl rfl rfl tc3 ?_)
  refine go rfl <| t_seq <| sr <| V rfl (y_mv rfl) <| V rfl (y_nc rfl) <| V rfl (y_ld (i := 0) rfl rfl rfl tc3) <| V rfl (y_mv rfl) <| V rfl (y_gt rfl rfl) <| V rfl (y_mv rfl) ?_
  refine Spl 23 rfl (fun h1 => ?_) (fun h1 => ?_)
  ·
   refine Gf rfl rfl rfl rfl <| Gf rfl rfl rfl rfl <| Gf rfl rfl rfl rfl <| Gf rfl rfl rfl rfl <| Gu rfl rfl rfl <| Gu rfl rfl rfl <| Gf rfl rfl rfl rfl <| V rfl (y_pick (b := true) rfl rfl) <| go rfl <| t_ift rfl ?_
   refine sr <| V rfl (y_as rfl) <| go rfl <| t_ret ?_
   refine tx_end rfl (retm (.inl rfl) [0] (res1 rfl (rv_t rfl)) rfl rfl fun hI => ⟨[_], rfl, ⟨rfl, trivial⟩, ?_, ?_⟩)
   · first | (exfalso; clear ih; omega) | rw [dp_great (v := lv) (l := l) (n := n) (by omega)] | (rw [dp_go (v := lv) (l := l) (n := n) (by omega) (by omega)]; rw [List.take_of_length_le (by omega)] at hst; rw [hst]; done) | (rw [dp_go (v := lv) (l := l) (n := n) (by omega) (by omega)]; rw [List.take_of_length_le (by omega)]; done) | (rw [dp_stop1 (v := lv) (n := n) (k := k) (by omega) (by omega) (by omega) hst (by assumption)]; first | done | (congr 1; symm; assumption)) | (rw [dp_stop2 (v := lv) (n := n) (k := k) (by omega) (by omega) (by omega) hst (by clear ih; first | assumption | grind) (by assumption)]; first | done | (congr 1; symm; assumption))
   · first | (exfalso; clear ih; omega) | rw [dp_great (v := lv) (l := l) (n := n) (by omega)] | (rw [dp_go (v := lv) (l := l) (n := n) (by omega) (by omega)]; rw [List.take_of_length_le (by omega)] at hst; rw [hst]; done) | (rw [dp_go (v := lv) (l := l) (n := n) (by omega) (by omega)]; rw [List.take_of_length_le (by omega)]; done) | (rw [dp_stop1 (v := lv) (n := n) (k := k) (by omega) (by omega) (by omega) hst (by assumption)]; first | done | (congr 1; symm; assumption)) | (rw [dp_stop2 (v := lv) (n := n) (k := k) (by omega) (by omega) (by omega) hst (by clear ih; first | assumption | grind) (by assumption)]; first | done | (congr 1; symm; assumption))
  ·
   refine Gt rfl rfl <| V rfl (y_mv rfl) <| Gt rfl rfl <| V rfl (y_lens Try.underlying23 rfl) <| Gt rfl rfl <| V rfl (y_gt rfl rfl) <| Gt rfl rfl <| V rfl (y_mv rfl) ?_
   refine Spl 27 rfl (fun h2 => ?_) (fun h2 => ?_)
   ·
    refine Gt rfl rfl <| V rfl (y_mv rfl) <| Gt rfl rfl <| V rfl (y_lt rfl rfl) <| Gt rfl rfl <| V rfl (y_pick (b := true) rfl rfl) <| V rfl (y_pick (b := false) rfl rfl) <| go rfl ?_
    refine If rfl (fun h3 => ?_) (fun h3 => ?_)
    ·
     refine sr <| V rfl (y_as rfl) <| go rfl <| t_ret ?_
     refine tx_end rfl (retm (.inl rfl) [0] (res1 rfl (rv_t rfl)) rfl rfl fun hI => ⟨[_], rfl, ⟨rfl, trivial⟩, ?_, ?_⟩)
     · first | (exfalso; clear ih; omega) | rw [dp_great (v := lv) (l := l) (n := n) (by omega)] | (rw [dp_go (v := lv) (l := l) (n := n) (by omega) (by omega)]; rw [List.take_of_length_le (by omega)] at hst; rw [hst]; done) | (rw [dp_go (v := lv) (l := l) (n := n) (by omega) (by omega)]; rw [List.take_of_length_le (by omega)]; done) | (rw [dp_stop1 (v := lv) (n := n) (k := k) (by omega) (by omega) (by omega) hst (by assumption)]; first | done | (congr 1; symm; assumption)) | (rw [dp_stop2 (v := lv) (n := n) (k := k) (by omega) (by omega) (by omega) hst (by clear ih; first | assumption | grind) (by assumption)]; first | done | (congr 1; symm; assumption))
     · first | (exfalso; clear ih; omega) | rw [dp_great (v := lv) (l := l) (n := n) (by omega)] | (rw [dp_go (v := lv) (l := l) (n := n) (by omega) (by omega)]; rw [List.take_of_length_le (by omega)] at hst; rw [hst]; done) | (rw [dp_go (v := lv) (l := l) (n := n) (by omega) (by omega)]; rw [List.take_of_length_le (by omega)]; done) | (rw [dp_stop1 (v := lv) (n := n) (k := k) (by omega) (by omega) (by omega) hst (by assumption)]; first | done | (congr 1; symm; assumption)) | (rw [dp_stop2 (v := lv) (n := n) (k := k) (by omega) (by omega) (by omega) hst (by clear ih; first | assumption | grind) (by assumption)]; first | done | (congr 1; symm; assumption))
    ·
     refine skipgo rfl <| t_seq <| sr <| V rfl (y_as rfl) <| go rfl <| t_block ?_
     refine t_loopG (α := Nat) (fun (k : Nat) => I) (fun (k : Nat) => [⟨0, 0, 1, [.int .i64 (((l.take k).foldl (dstep (lv - 1) m) (false, n + l.length)).2)]⟩]) (fun (k : Nat) => [(9, .int .i64 (k : Int))]) (fun (k : Nat) => k ≤ l.length ∧ ((l.take k).foldl (dstep (lv - 1) m) (false, n + l.length)).1 = false) (fun (k : Nat) => l.length - k) 0 ?_ ?_ ?_ ?_ ?_
     · exact ⟨by omega, rfl⟩
     · rfl
     · exact ⟨rfl, trivial⟩
     · exact ⟨⟨rfl, rfl, trivial⟩, trivial⟩
     intro k hinv
     obtain ⟨hk, hst⟩ := hinv
     refine t_seq <| sr <| V rfl (y_mv rfl) <| V rfl (y_mv rfl) <| V rfl (y_lens Try.underlying23 rfl) <| V rfl (y_lt rfl rfl) <| go rfl ?_
     refine If rfl (fun h4 => ?_) (fun h4 => ?_)
     ·
      refine skipgo rfl <| t_seq <| t_block <| sr <| V rfl (y_mv rfl) <| V rfl (y_mv rfl) ?_
      obtain ⟨p, Ab, cb, Ae, ce, rfl, hc, hb, he⟩ := hl.at k (by omega)
      obtain ⟨hkd, hop, hcop, hob, hoe⟩ := hok.at k (by omega)
      have hbd := dfold_false (v := lv - 1) (l := l) (by omega) (by omega : n + l.length ≤ m) k hst
      refine V rfl (y_ix rfl rfl ix23 (by omega) (by omega)) <| V rfl (y_fa rfl fo78_3) <| V rfl (y_ldi rfl (hc 10 _ rfl) tc23) <| V rfl (y_mv rfl) <| V rfl (y_sub rfl rfl (by omega)) <| Re 44 (.int .i64 ((lv - 1 : Nat) : Int)) rfl (by congr 1; omega) <| V rfl (y_mv rfl) <| V rfl (y_mv rfl) ?_
      refine Ef (e_callk [0] rfl en39 rfl rfl rfl (fun L => by exact ih (lv - 1) (by omega) (l[k]).body Ab cb ((l.take k).foldl (dstep (lv - 1) m) (false, n + l.length)).2 hb hob (by omega) (by omega) L) ?_)
      rintro _ _ ⟨rfl, rfl⟩
      refine V rfl (y_mv rfl) ?_
      refine Spl 48 rfl (fun h5 => ?_) (fun h5 => ?_)
      ·
       refine Gf rfl rfl rfl rfl <| Gf rfl rfl rfl rfl <| Gf rfl rfl rfl rfl <| Gf rfl rfl rfl rfl <| Gf rfl rfl rfl rfl <| Gf rfl rfl rfl rfl <| Gf rfl rfl rfl rfl <| Gf rfl rfl rfl rfl <| Gf rfl rfl rfl rfl <| Gf rfl rfl rfl rfl ?_
       refine V rfl (y_pick (b := true) rfl rfl) <| go rfl <| t_ift rfl <| sr <| V rfl (y_as rfl) <| go rfl <| t_ret ?_
       refine tx_end rfl (retm (.inl rfl) [0] (res1 rfl (rv_t rfl)) rfl rfl fun hI => ⟨[_], rfl, ⟨rfl, trivial⟩, ?_, ?_⟩)
       · first | (exfalso; clear ih; omega) | rw [dp_great (v := lv) (l := l) (n := n) (by omega)] | (rw [dp_go (v := lv) (l := l) (n := n) (by omega) (by omega)]; rw [List.take_of_length_le (by omega)] at hst; rw [hst]; done) | (rw [dp_go (v := lv) (l := l) (n := n) (by omega) (by omega)]; rw [List.take_of_length_le (by omega)]; done) | (rw [dp_stop1 (v := lv) (n := n) (k := k) (by omega) (by omega) (by omega) hst (by assumption)]; first | done | (congr 1; symm; assumption)) | (rw [dp_stop2 (v := lv) (n := n) (k := k) (by omega) (by omega) (by omega) hst (by clear ih; first | assumption | grind) (by assumption)]; first | done | (congr 1; symm; assumption))
       · first | (exfalso; clear ih; omega) | rw [dp_great (v := lv) (l := l) (n := n) (by omega)] | (rw [dp_go (v := lv) (l := l) (n := n) (by omega) (by omega)]; rw [List.take_of_length_le (by omega)] at hst; rw [hst]; done) | (rw [dp_go (v := lv) (l := l) (n := n) (by omega) (by omega)]; rw [List.take_of_length_le (by omega)]; done) | (rw [dp_stop1 (v := lv) (n := n) (k := k) (by omega) (by omega) (by omega) hst (by assumption)]; first | done | (congr 1; symm; assumption)) | (rw [dp_stop2 (v := lv) (n := n) (k := k) (by omega) (by omega) (by omega) hst (by clear ih; first | assumption | grind) (by assumption)]; first | done | (congr 1; symm; assumption))
      ·
       refine Gt rfl rfl <| V rfl (y_mv rfl) <| Gt rfl rfl <| V rfl (y_mv rfl) <| Gt rfl rfl ?_
       have hdb := dp_false (lv - 1) m (l[k]).body ((l.take k).foldl (dstep (lv - 1) m) (false, n + l.length)).2 (by clear ih; first | assumption | grind)
       refine V rfl (y_ix rfl rfl ix23 (by omega) (by omega)) <| Gt rfl rfl <| V rfl (y_fa rfl fo78_4) <| Gt rfl rfl <| V rfl (y_ldi rfl (hc 11 _ rfl) tc23) <| Gt rfl rfl <| V rfl (y_mv rfl) <| Gt rfl rfl <| V rfl (y_sub rfl rfl (by omega)) <| Re 55 (.int .i64 ((lv - 1 : Nat) : Int)) rfl (by congr 1; omega) ?_
       refine Gt rfl rfl <| V rfl (y_mv rfl) <| Gt rfl rfl <| V rfl (y_mv rfl) <| Gt rfl rfl ?_
       refine Ef (e_callk [0] rfl en39 rfl rfl rfl (fun L => by exact ih (lv - 1) (by omega) (l[k]).els Ae ce (dp (lv - 1) m (l[k]).body ((l.take k).foldl (dstep (lv - 1) m) (false, n + l.length)).2).2 he hoe (by omega) (by omega) L) ?_)
       rintro _ _ ⟨rfl, rfl⟩
       refine V rfl (y_pick (b := false) rfl rfl) <| go rfl ?_
       refine If rfl (fun h6 => ?_) (fun h6 => ?_)
       ·
        refine sr <| V rfl (y_as rfl) <| go rfl <| t_ret ?_
        refine tx_end rfl (retm (.inl rfl) [0] (res1 rfl (rv_t rfl)) rfl rfl fun hI => ⟨[_], rfl, ⟨rfl, trivial⟩, ?_, ?_⟩)
        · first | (exfalso; clear ih; omega) | rw [dp_great (v := lv) (l := l) (n := n) (by omega)] | (rw [dp_go (v := lv) (l := l) (n := n) (by omega) (by omega)]; rw [List.take_of_length_le (by omega)] at hst; rw [hst]; done) | (rw [dp_go (v := lv) (l := l) (n := n) (by omega) (by omega)]; rw [List.take_of_length_le (by omega)]; done) | (rw [dp_stop1 (v := lv) (n := n) (k := k) (by omega) (by omega) (by omega) hst (by assumption)]; first | done | (congr 1; symm; assumption)) | (rw [dp_stop2 (v := lv) (n := n) (k := k) (by omega) (by omega) (by omega) hst (by clear ih; first | assumption | grind) (by assumption)]; first | done | (congr 1; symm; assumption))
        · first | (exfalso; clear ih; omega) | rw [dp_great (v := lv) (l := l) (n := n) (by omega)] | (rw [dp_go (v := lv) (l := l) (n := n) (by omega) (by omega)]; rw [List.take_of_length_le (by omega)] at hst; rw [hst]; done) | (rw [dp_go (v := lv) (l := l) (n := n) (by omega) (by omega)]; rw [List.take_of_length_le (by omega)]; done) | (rw [dp_stop1 (v := lv) (n := n) (k := k) (by omega) (by omega) (by omega) hst (by assumption)]; first | done | (congr 1; symm; assumption)) | (rw [dp_stop2 (v := lv) (n := n) (k := k) (by omega) (by omega) (by omega) hst (by clear ih; first | assumption | grind) (by assumption)]; first | done | (congr 1; symm; assumption))
       ·
        refine skipgo rfl <| t_region <| V rfl (y_mv rfl) <| V rfl (y_add rfl rfl (by omega)) <| V rfl (y_as rfl) <| tl_end ?_
        refine tx_loop rfl (again (k + 1) 0 2 34 ?_ ?_ rfl rfl rfl rfl ?_ ?_ rfl rfl rfl)
        · omega
        · exact ⟨by omega, by clear ih; rw [dfold_succ _ _ _ l k (by omega), dstep]; simp_all⟩
        · exact ⟨rfl, trivial⟩
        · exact ⟨⟨rfl, by clear ih; show some (Value.int _ _) = some (Value.int _ _); rw [dfold_succ _ _ _ l k (by omega), dstep]; simp_all, trivial⟩, trivial⟩
     ·
      refine exitgo rfl <| sr <| V rfl (y_as rfl) <| go rfl <| t_ret ?_
      refine tx_end rfl (retm (.inl rfl) [0] (res1 rfl (rv_t rfl)) rfl rfl fun hI => ⟨[_], rfl, ⟨rfl, trivial⟩, ?_, ?_⟩)
      · first | (exfalso; clear ih; omega) | rw [dp_great (v := lv) (l := l) (n := n) (by omega)] | (rw [dp_go (v := lv) (l := l) (n := n) (by omega) (by omega)]; rw [List.take_of_length_le (by omega)] at hst; rw [hst]; done) | (rw [dp_go (v := lv) (l := l) (n := n) (by omega) (by omega)]; rw [List.take_of_length_le (by omega)]; done) | (rw [dp_stop1 (v := lv) (n := n) (k := k) (by omega) (by omega) (by omega) hst (by assumption)]; first | done | (congr 1; symm; assumption)) | (rw [dp_stop2 (v := lv) (n := n) (k := k) (by omega) (by omega) (by omega) hst (by clear ih; first | assumption | grind) (by assumption)]; first | done | (congr 1; symm; assumption))
      · first | (exfalso; clear ih; omega) | rw [dp_great (v := lv) (l := l) (n := n) (by omega)] | (rw [dp_go (v := lv) (l := l) (n := n) (by omega) (by omega)]; rw [List.take_of_length_le (by omega)] at hst; rw [hst]; done) | (rw [dp_go (v := lv) (l := l) (n := n) (by omega) (by omega)]; rw [List.take_of_length_le (by omega)]; done) | (rw [dp_stop1 (v := lv) (n := n) (k := k) (by omega) (by omega) (by omega) hst (by assumption)]; first | done | (congr 1; symm; assumption)) | (rw [dp_stop2 (v := lv) (n := n) (k := k) (by omega) (by omega) (by omega) hst (by clear ih; first | assumption | grind) (by assumption)]; first | done | (congr 1; symm; assumption))
   ·
    refine Gf rfl rfl rfl rfl <| Gf rfl rfl rfl rfl <| Gt rfl rfl <| V rfl (y_pick (b := false) rfl rfl) <| V rfl (y_pick (b := false) rfl rfl) <| go rfl <| t_iff rfl <| skipgo rfl <| t_seq <| sr ?_
    refine V rfl (y_as rfl) <| go rfl <| t_block ?_
    refine t_loopG (α := Nat) (fun (k : Nat) => I) (fun (k : Nat) => [⟨0, 0, 1, [.int .i64 (((l.take k).foldl (dstep (lv - 1) m) (false, n + l.length)).2)]⟩]) (fun (k : Nat) => [(9, .int .i64 (k : Int))]) (fun (k : Nat) => k ≤ l.length ∧ ((l.take k).foldl (dstep (lv - 1) m) (false, n + l.length)).1 = false) (fun (k : Nat) => l.length - k) 0 ?_ ?_ ?_ ?_ ?_
    · exact ⟨by omega, rfl⟩
    · rfl
    · exact ⟨rfl, trivial⟩
    · exact ⟨⟨rfl, rfl, trivial⟩, trivial⟩
    intro k hinv
    obtain ⟨hk, hst⟩ := hinv
    refine t_seq <| sr <| V rfl (y_mv rfl) <| V rfl (y_mv rfl) <| V rfl (y_lens Try.underlying23 rfl) <| V rfl (y_lt rfl rfl) <| go rfl ?_
    refine If rfl (fun h7 => ?_) (fun h7 => ?_)
    ·
     refine skipgo rfl <| t_seq <| t_block <| sr <| V rfl (y_mv rfl) <| V rfl (y_mv rfl) ?_
     obtain ⟨p, Ab, cb, Ae, ce, rfl, hc, hb, he⟩ := hl.at k (by omega)
     obtain ⟨hkd, hop, hcop, hob, hoe⟩ := hok.at k (by omega)
     have hbd := dfold_false (v := lv - 1) (l := l) (by omega) (by omega : n + l.length ≤ m) k hst
     refine V rfl (y_ix rfl rfl ix23 (by omega) (by omega)) <| V rfl (y_fa rfl fo78_3) <| V rfl (y_ldi rfl (hc 10 _ rfl) tc23) <| V rfl (y_mv rfl) <| V rfl (y_sub rfl rfl (by omega)) <| Re 44 (.int .i64 ((lv - 1 : Nat) : Int)) rfl (by congr 1; omega) <| V rfl (y_mv rfl) <| V rfl (y_mv rfl) ?_
     refine Ef (e_callk [0] rfl en39 rfl rfl rfl (fun L => by exact ih (lv - 1) (by omega) (l[k]).body Ab cb ((l.take k).foldl (dstep (lv - 1) m) (false, n + l.length)).2 hb hob (by omega) (by omega) L) ?_)
     rintro _ _ ⟨rfl, rfl⟩
     refine V rfl (y_mv rfl) ?_
     refine Spl 48 rfl (fun h8 => ?_) (fun h8 => ?_)
     ·
      refine Gf rfl rfl rfl rfl <| Gf rfl rfl rfl rfl <| Gf rfl rfl rfl rfl <| Gf rfl rfl rfl rfl <| Gf rfl rfl rfl rfl <| Gf rfl rfl rfl rfl <| Gf rfl rfl rfl rfl <| Gf rfl rfl rfl rfl <| Gf rfl rfl rfl rfl <| Gf rfl rfl rfl rfl ?_
      refine V rfl (y_pick (b := true) rfl rfl) <| go rfl <| t_ift rfl <| sr <| V rfl (y_as rfl) <| go rfl <| t_ret ?_
      refine tx_end rfl (retm (.inl rfl) [0] (res1 rfl (rv_t rfl)) rfl rfl fun hI => ⟨[_], rfl, ⟨rfl, trivial⟩, ?_, ?_⟩)
      · first | (exfalso; clear ih; omega) | rw [dp_great (v := lv) (l := l) (n := n) (by omega)] | (rw [dp_go (v := lv) (l := l) (n := n) (by omega) (by omega)]; rw [List.take_of_length_le (by omega)] at hst; rw [hst]; done) | (rw [dp_go (v := lv) (l := l) (n := n) (by omega) (by omega)]; rw [List.take_of_length_le (by omega)]; done) | (rw [dp_stop1 (v := lv) (n := n) (k := k) (by omega) (by omega) (by omega) hst (by assumption)]; first | done | (congr 1; symm; assumption)) | (rw [dp_stop2 (v := lv) (n := n) (k := k) (by omega) (by omega) (by omega) hst (by clear ih; first | assumption | grind) (by assumption)]; first | done | (congr 1; symm; assumption))
      · first | (exfalso; clear ih; omega) | rw [dp_great (v := lv) (l := l) (n := n) (by omega)] | (rw [dp_go (v := lv) (l := l) (n := n) (by omega) (by omega)]; rw [List.take_of_length_le (by omega)] at hst; rw [hst]; done) | (rw [dp_go (v := lv) (l := l) (n := n) (by omega) (by omega)]; rw [List.take_of_length_le (by omega)]; done) | (rw [dp_stop1 (v := lv) (n := n) (k := k) (by omega) (by omega) (by omega) hst (by assumption)]; first | done | (congr 1; symm; assumption)) | (rw [dp_stop2 (v := lv) (n := n) (k := k) (by omega) (by omega) (by omega) hst (by clear ih; first | assumption | grind) (by assumption)]; first | done | (congr 1; symm; assumption))
     ·
      refine Gt rfl rfl <| V rfl (y_mv rfl) <| Gt rfl rfl <| V rfl (y_mv rfl) <| Gt rfl rfl ?_
      have hdb := dp_false (lv - 1) m (l[k]).body ((l.take k).foldl (dstep (lv - 1) m) (false, n + l.length)).2 (by clear ih; first | assumption | grind)
      refine V rfl (y_ix rfl rfl ix23 (by omega) (by omega)) <| Gt rfl rfl <| V rfl (y_fa rfl fo78_4) <| Gt rfl rfl <| V rfl (y_ldi rfl (hc 11 _ rfl) tc23) <| Gt rfl rfl <| V rfl (y_mv rfl) <| Gt rfl rfl <| V rfl (y_sub rfl rfl (by omega)) <| Re 55 (.int .i64 ((lv - 1 : Nat) : Int)) rfl (by congr 1; omega) ?_
      refine Gt rfl rfl <| V rfl (y_mv rfl) <| Gt rfl rfl <| V rfl (y_mv rfl) <| Gt rfl rfl ?_
      refine Ef (e_callk [0] rfl en39 rfl rfl rfl (fun L => by exact ih (lv - 1) (by omega) (l[k]).els Ae ce (dp (lv - 1) m (l[k]).body ((l.take k).foldl (dstep (lv - 1) m) (false, n + l.length)).2).2 he hoe (by omega) (by omega) L) ?_)
      rintro _ _ ⟨rfl, rfl⟩
      refine V rfl (y_pick (b := false) rfl rfl) <| go rfl ?_
      refine If rfl (fun h9 => ?_) (fun h9 => ?_)
      ·
       refine sr <| V rfl (y_as rfl) <| go rfl <| t_ret ?_
       refine tx_end rfl (retm (.inl rfl) [0] (res1 rfl (rv_t rfl)) rfl rfl fun hI => ⟨[_], rfl, ⟨rfl, trivial⟩, ?_, ?_⟩)
       · first | (exfalso; clear ih; omega) | rw [dp_great (v := lv) (l := l) (n := n) (by omega)] | (rw [dp_go (v := lv) (l := l) (n := n) (by omega) (by omega)]; rw [List.take_of_length_le (by omega)] at hst; rw [hst]; done) | (rw [dp_go (v := lv) (l := l) (n := n) (by omega) (by omega)]; rw [List.take_of_length_le (by omega)]; done) | (rw [dp_stop1 (v := lv) (n := n) (k := k) (by omega) (by omega) (by omega) hst (by assumption)]; first | done | (congr 1; symm; assumption)) | (rw [dp_stop2 (v := lv) (n := n) (k := k) (by omega) (by omega) (by omega) hst (by clear ih; first | assumption | grind) (by assumption)]; first | done | (congr 1; symm; assumption))
       · first | (exfalso; clear ih; omega) | rw [dp_great (v := lv) (l := l) (n := n) (by omega)] | (rw [dp_go (v := lv) (l := l) (n := n) (by omega) (by omega)]; rw [List.take_of_length_le (by omega)] at hst; rw [hst]; done) | (rw [dp_go (v := lv) (l := l) (n := n) (by omega) (by omega)]; rw [List.take_of_length_le (by omega)]; done) | (rw [dp_stop1 (v := lv) (n := n) (k := k) (by omega) (by omega) (by omega) hst (by assumption)]; first | done | (congr 1; symm; assumption)) | (rw [dp_stop2 (v := lv) (n := n) (k := k) (by omega) (by omega) (by omega) hst (by clear ih; first | assumption | grind) (by assumption)]; first | done | (congr 1; symm; assumption))
      ·
       refine skipgo rfl <| t_region <| V rfl (y_mv rfl) <| V rfl (y_add rfl rfl (by omega)) <| V rfl (y_as rfl) <| tl_end ?_
       refine tx_loop rfl (again (k + 1) 0 2 34 ?_ ?_ rfl rfl rfl rfl ?_ ?_ rfl rfl rfl)
       · omega
       · exact ⟨by omega, by clear ih; rw [dfold_succ _ _ _ l k (by omega), dstep]; simp_all⟩
       · exact ⟨rfl, trivial⟩
       · exact ⟨⟨rfl, by clear ih; show some (Value.int _ _) = some (Value.int _ _); rw [dfold_succ _ _ _ l k (by omega), dstep]; simp_all, trivial⟩, trivial⟩
    ·
     refine exitgo rfl <| sr <| V rfl (y_as rfl) <| go rfl <| t_ret ?_
     refine tx_end rfl (retm (.inl rfl) [0] (res1 rfl (rv_t rfl)) rfl rfl fun hI => ⟨[_], rfl, ⟨rfl, trivial⟩, ?_, ?_⟩)
     · first | (exfalso; clear ih; omega) | rw [dp_great (v := lv) (l := l) (n := n) (by omega)] | (rw [dp_go (v := lv) (l := l) (n := n) (by omega) (by omega)]; rw [List.take_of_length_le (by omega)] at hst; rw [hst]; done) | (rw [dp_go (v := lv) (l := l) (n := n) (by omega) (by omega)]; rw [List.take_of_length_le (by omega)]; done) | (rw [dp_stop1 (v := lv) (n := n) (k := k) (by omega) (by omega) (by omega) hst (by assumption)]; first | done | (congr 1; symm; assumption)) | (rw [dp_stop2 (v := lv) (n := n) (k := k) (by omega) (by omega) (by omega) hst (by clear ih; first | assumption | grind) (by assumption)]; first | done | (congr 1; symm; assumption))
     · first | (exfalso; clear ih; omega) | rw [dp_great (v := lv) (l := l) (n := n) (by omega)] | (rw [dp_go (v := lv) (l := l) (n := n) (by omega) (by omega)]; rw [List.take_of_length_le (by omega)] at hst; rw [hst]; done) | (rw [dp_go (v := lv) (l := l) (n := n) (by omega) (by omega)]; rw [List.take_of_length_le (by omega)]; done) | (rw [dp_stop1 (v := lv) (n := n) (k := k) (by omega) (by omega) (by omega) hst (by assumption)]; first | done | (congr 1; symm; assumption)) | (rw [dp_stop2 (v := lv) (n := n) (k := k) (by omega) (by omega) (by omega) hst (by clear ih; first | assumption | grind) (by assumption)]; first | done | (congr 1; symm; assumption))

theorem c_kit_Deep {I : Imm} (l : List Stmt) (v : Nat) (m : Int) (A : Option Addr) (cap : Nat) (hl : SRep I l A) (hok : OkS l) (hv : v ≤ 1000) (hm : 0 ≤ m ∧ m ≤ 1000000) : PAt Try.prog I 19 [.slice A l.length cap, .int .i64 (v : Int), .int .i64 m] (.bool (deepB l v m)) := by
 refine pat_of fun L => fn_enter Try.func19 rfl rfl rfl ?_
 refine sr <| V rfl (y_as rfl) <| go rfl <| sr ?_
 refine Ef (e_alloc 0 rfl Try.zeroValue3 rfl rfl rfl rfl fun b0 => ?_)
 refine Ef (e_st 0 rfl rfl rfl rfl rfl tc3 ?_)
 refine go rfl <| sr <| V rfl (y_mv rfl) <| V rfl (y_mv rfl) <| V rfl (y_mv rfl) ?_
 refine Ef (e_callk [0] rfl en39 rfl rfl rfl (fun L => by exact c_kit_deep m _ hm v l A cap 0 hl hok hv (by omega) L) ?_)
 rintro _ _ ⟨rfl, rfl⟩
 refine V rfl (y_as rfl) <| go rfl <| t_ret ?_
 refine tx_end rfl (ret (res1 rfl (rv_t rfl)) fun hI => ⟨?_, rfl⟩)
 rfl

theorem c_law21_great {I : Imm} (c : Conf) (Ap Aq Ar : Option Addr) (cp cq cr : Nat) (hc : c.In I Ap Aq Ar) : PAt Try.prog I 7 [.agg #[.int .i64 c.size, .int .i64 c.cells, .int .i64 c.sa, .int .i64 c.sb, .slice Ap c.parts.length cp, .slice Aq c.pre.length cq, .slice Ar c.post.length cr, .bool c.flag]] (.bool (greatB c)) := by
 refine pat_of fun L => fn_enter Try.func7 rfl rfl rfl ?_
 refine sr ?_
 refine Ef (e_box 0 rfl rfl rfl rfl rfl rfl fun b0 => ?_)
 refine V rfl (y_as rfl) <| go rfl <| sr <| V rfl (y_fal rfl fo25_4 rfl) <| V rfl (y_ld (i := 0) rfl rfl rfl tc22) <| V rfl (y_lens Try.underlying22 rfl) <| V rfl (y_gt rfl rfl) <| V rfl (y_mv rfl) ?_
 refine' Jn 7 11 4 rfl (fun h1 => ?_) (fun h1 => ?_) _ rfl ?_
 rotate_left 2
 ·
  refine Gf rfl rfl rfl rfl <| Gf rfl rfl rfl rfl <| Gf rfl rfl rfl rfl <| V rfl (y_pick (b := true) rfl rfl) <| tl_end ?_
  exact tx_loop rfl (back (rw := []) (sl := [(11, _)]) 0 0 4 rfl rfl rfl ⟨rfl, trivial⟩ trivial rfl rfl)
 ·
  refine Gt rfl rfl <| V rfl (y_fal rfl fo25_5 rfl) <| Gt rfl rfl <| V rfl (y_ld (i := 0) rfl rfl rfl tc23) <| Gt rfl rfl ?_
  refine Ef (e_call rfl en19 rfl (c_kit_Deep c.pre 60 3000 _ _ hc.pre hc.okq (by omega) (by omega)) ?_)
  refine V rfl (y_pick (b := false) rfl rfl) <| tl_end ?_
  exact tx_loop rfl (back (rw := []) (sl := [(11, _)]) 0 0 4 rfl rfl rfl ⟨rfl, trivial⟩ trivial rfl rfl)
 refine V rfl (y_mv rfl) ?_
 refine' Jn 12 16 4 rfl (fun h2 => ?_) (fun h2 => ?_) _ rfl ?_
 rotate_left 2
 ·
  refine Gf rfl rfl rfl rfl <| Gf rfl rfl rfl rfl <| Gf rfl rfl rfl rfl <| V rfl (y_pick (b := true) rfl rfl) <| tl_end ?_
  exact tx_loop rfl (back (rw := []) (sl := [(16, _)]) 0 0 4 rfl rfl rfl ⟨rfl, trivial⟩ trivial rfl rfl)
 ·
  refine Gt rfl rfl <| V rfl (y_fal rfl fo25_6 rfl) <| Gt rfl rfl <| V rfl (y_ld (i := 0) rfl rfl rfl tc23) <| Gt rfl rfl ?_
  refine Ef (e_call rfl en19 rfl (c_kit_Deep c.post 60 3000 _ _ hc.post hc.okr (by omega) (by omega)) ?_)
  refine V rfl (y_pick (b := false) rfl rfl) <| tl_end ?_
  exact tx_loop rfl (back (rw := []) (sl := [(16, _)]) 0 0 4 rfl rfl rfl ⟨rfl, trivial⟩ trivial rfl rfl)
 refine V rfl (y_as rfl) <| go rfl <| t_ret ?_
 refine tx_end rfl (ret (res1 rfl (rv_t rfl)) fun hI => ⟨?_, rfl⟩)
 grind [greatB]

end Go.Proofs.Ytngdkgddeobiiaa
