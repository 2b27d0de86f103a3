/- Walks, printed by my gen.py: ref11_within, ref11_most, ref11_power, ref11_Places, ref11_fields, ref11_one, ref11_Memory, ref11_Right, parts_rowOf, parts_right_1, parts_right, parts_Places, parts_Memory, parts_Right. -/
import Derived.Test.YtngdkgddeobiiaaFacts
import Derived.Test.YtngdkgddeobiiaaPParts
namespace Go.Proofs.Ytngdkgddeobiiaa
open Go Go.TL Go.RowKit
set_option maxRecDepth 100000


theorem c_ref11_within {I : Imm} (n a b : Int)  : PAt Try.prog I 94 [.int .i64 n, .int .i64 a, .int .i64 b] (.bool (within n a b)) := by
 refine pat_of fun L => fn_enter Try.func94 rfl rfl rfl ?_
 refine sr <| V rfl (y_as rfl) <| go rfl <| sr <| V rfl (y_mv rfl) <| V rfl (y_mv rfl) <| V rfl (y_ge rfl rfl) <| V rfl (y_mv rfl) ?_
 refine' Jn 10 14 4 rfl (fun h1 => ?_) (fun h1 => ?_) _ rfl ?_
 rotate_left 2
 ·
  refine Gt rfl rfl <| V rfl (y_mv rfl) <| Gt rfl rfl <| V rfl (y_mv rfl) <| Gt rfl rfl <| V rfl (y_le rfl rfl) <| V rfl (y_pick (b := true) rfl rfl) <| tl_end ?_
  exact tx_loop rfl (back (rw := []) (sl := [(14, _)]) 0 0 4 rfl rfl rfl ⟨rfl, trivial⟩ trivial rfl rfl)
 ·
  refine Gf rfl rfl rfl rfl <| Gf rfl rfl rfl rfl <| Gf rfl rfl rfl rfl <| V rfl (y_pick (b := false) rfl rfl) <| tl_end ?_
  exact tx_loop rfl (back (rw := []) (sl := [(14, _)]) 0 0 4 rfl rfl rfl ⟨rfl, trivial⟩ trivial rfl rfl)
 refine V rfl (y_as rfl) <| go rfl <| t_ret ?_
 refine tx_end rfl (ret (res1 rfl (rv_t rfl)) fun hI => ⟨?_, rfl⟩)
 grind [within]

theorem c_ref11_most {I : Imm} (k : Int)  : PAt Try.prog I 116 [.int .u8 k] (.int .i64 (most k)) := by
 refine pat_of fun L => fn_enter Try.func116 rfl rfl rfl ?_
 refine sr <| V rfl (y_as rfl) <| go rfl <| t_seq <| sr <| V rfl (y_mv rfl) <| go rfl <| t_block <| t_seq <| sr ?_
 refine V rfl (y_eq rfl rfl) <| V rfl (y_as rfl) <| go rfl ?_
 refine If rfl (fun h1 => ?_) (fun h1 => ?_)
 ·
  refine skipgo rfl <| t_ift rfl <| sr <| V rfl (y_as rfl) <| go rfl <| t_ret ?_
  refine tx_end rfl (ret (res1 rfl (rv_t rfl)) fun hI => ⟨?_, rfl⟩)
  grind [most]
 ·
  refine sr <| V rfl (y_eq rfl rfl) <| V rfl (y_as rfl) <| go rfl ?_
  refine If rfl (fun h2 => ?_) (fun h2 => ?_)
  ·
   refine skipgo rfl <| t_ift rfl <| sr <| V rfl (y_as rfl) <| go rfl <| t_ret ?_
   refine tx_end rfl (ret (res1 rfl (rv_t rfl)) fun hI => ⟨?_, rfl⟩)
   grind [most]
  ·
   refine sr <| V rfl (y_eq rfl rfl) <| V rfl (y_as rfl) <| go rfl ?_
   refine If rfl (fun h3 => ?_) (fun h3 => ?_)
   ·
    refine skipgo rfl <| t_ift rfl <| sr <| V rfl (y_as rfl) <| go rfl <| t_ret ?_
    refine tx_end rfl (ret (res1 rfl (rv_t rfl)) fun hI => ⟨?_, rfl⟩)
    grind [most]
   ·
    refine sr <| V rfl (y_eq rfl rfl) <| V rfl (y_as rfl) <| go rfl ?_
    refine If rfl (fun h4 => ?_) (fun h4 => ?_)
    ·
     refine skipgo rfl <| t_ift rfl <| sr <| V rfl (y_as rfl) <| go rfl <| t_ret ?_
     refine tx_end rfl (ret (res1 rfl (rv_t rfl)) fun hI => ⟨?_, rfl⟩)
     grind [most]
    ·
     refine t_region <| V rfl (y_eq rfl rfl) <| V rfl (y_as rfl) <| go rfl ?_
     refine If rfl (fun h5 => ?_) (fun h5 => ?_)
     ·
      refine sr <| V rfl (y_as rfl) <| go rfl <| t_ret ?_
      refine tx_end rfl (ret (res1 rfl (rv_t rfl)) fun hI => ⟨?_, rfl⟩)
      grind [most]
     ·
      refine sr <| V rfl (y_eq rfl rfl) <| V rfl (y_as rfl) <| go rfl ?_
      refine If rfl (fun h6 => ?_) (fun h6 => ?_)
      ·
       refine sr <| V rfl (y_as rfl) <| go rfl <| t_ret ?_
       refine tx_end rfl (ret (res1 rfl (rv_t rfl)) fun hI => ⟨?_, rfl⟩)
       grind [most]
      ·
       refine sr <| V rfl (y_eq rfl rfl) <| V rfl (y_as rfl) <| go rfl ?_
       refine If rfl (fun h7 => ?_) (fun h7 => ?_)
       ·
        refine sr <| V rfl (y_as rfl) <| go rfl <| t_ret ?_
        refine tx_end rfl (ret (res1 rfl (rv_t rfl)) fun hI => ⟨?_, rfl⟩)
        grind [most]
       ·
        refine skipgo rfl <| sr <| V rfl (y_as rfl) <| go rfl <| t_ret ?_
        refine tx_end rfl (ret (res1 rfl (rv_t rfl)) fun hI => ⟨?_, rfl⟩)
        grind [most]

theorem c_ref11_power {I : Imm} (n : Int) (hn : n ≤ 62) : PAt Try.prog I 117 [.int .i64 n] (.int .i64 (pow2 n.toNat)) := by
 have hb : ∀ k : Nat, (k : Int) < n → pow2 k ≤ 2305843009213693952 := fun k hk => pow2_le (m := k) (n := 61) (by omega)
 refine pat_of fun L => fn_enter Try.func117 rfl rfl rfl ?_
 refine sr <| V rfl (y_as rfl) <| go rfl <| sr <| V rfl (y_as rfl) <| go rfl <| t_seq <| sr <| V rfl (y_as rfl) <| go rfl ?_
 refine t_block ?_
 refine t_loopG (α := Nat) (fun (k : Nat) => I) (fun (k : Nat) => []) (fun (k : Nat) => [(3, .int .i64 (pow2 k)), (4, .int .i64 (k : Int))]) (fun (k : Nat) => k ≤ n.toNat) (fun (k : Nat) => n.toNat - k) 0 ?_ ?_ ?_ ?_ ?_
 · omega
 · rfl
 · exact ⟨rfl, rfl, trivial⟩
 · exact trivial
 intro k hinv
 refine t_seq <| sr <| V rfl (y_mv rfl) <| V rfl (y_mv rfl) <| V rfl (y_lt rfl rfl) <| go rfl ?_
 refine If rfl (fun h1 => ?_) (fun h1 => ?_)
 ·
  refine skipgo rfl <| t_seq <| t_block <| t_region <| V rfl (y_mv rfl) <| V rfl (y_mul rfl rfl (by first | omega | (have hp := pow2_pos k; have hb1 := hb k (by omega); omega))) <| V rfl (y_as rfl) <| go rfl <| t_region <| V rfl (y_mv rfl) ?_
  refine V rfl (y_add rfl rfl (by first | omega | (have hp := pow2_pos k; have hb1 := hb k (by omega); omega))) <| V rfl (y_as rfl) <| tl_end ?_
  refine tx_loop rfl (again (k + 1) 0 0 10 ?_ ?_ rfl rfl rfl rfl ?_ ?_ rfl rfl rfl)
  · omega
  · omega
  · exact ⟨rfl, rfl, trivial⟩
  · exact trivial
 ·
  refine exitgo rfl <| sr <| V rfl (y_mv rfl) <| V rfl (y_as rfl) <| go rfl <| t_ret ?_
  refine tx_end rfl (ret (res1 rfl (rv_t rfl)) fun hI => ⟨?_, rfl⟩)
  rw [show n.toNat = k by omega]

theorem c_ref11_Places {I : Imm} (p : Part)  : PAt Try.prog I 93 [.agg #[.int .u8 p.kind, .int .i64 p.size, .int .i64 p.a, .int .i64 p.b, .int .i64 p.c, .int .i64 p.rate, .int .i64 p.limit]] (.int .i64 (places p)) := by
 have hm := most_le p.kind
 refine pat_of fun L => fn_enter Try.func93 rfl rfl rfl ?_
 refine sr ?_
 refine Ef (e_box 0 rfl rfl rfl rfl rfl rfl fun b0 => ?_)
 refine V rfl (y_as rfl) <| go rfl <| sr <| V rfl (y_as rfl) <| go rfl <| t_seq <| sr <| V rfl (y_fal rfl fo83_0 rfl) <| V rfl (y_ld (i := 0) rfl rfl rfl tc81) <| V rfl (y_eq rfl rfl) ?_
 refine go rfl ?_
 refine If rfl (fun h1 => ?_) (fun h1 => ?_)
 ·
  try have hwh1 := within_le h1
  refine t_region <| V rfl (y_as rfl) <| go rfl <| t_seq <| t_seq <| t_quiet rfl (by kernel_rfl) <| W rfl (y_fal rfl fo83_1 rfl) <| W rfl (y_ld (i := 0) rfl rfl rfl tc3) <| W rfl (y_mv rfl) <| W rfl (y_fal rfl fo83_0 rfl) ?_
  refine W rfl (y_ld (i := 0) rfl rfl rfl tc81) <| tq_call rfl en116 rfl (c_ref11_most _) <| tq_call rfl en94 rfl (c_ref11_within _ _ _) <| W rfl (y_not rfl) <| goq rfl ?_
  refine If rfl (fun h2 => ?_) (fun h2 => ?_)
  ·
   try have hwh2 := within_le h2
   refine sr <| V rfl (y_as rfl) <| go rfl <| t_ret ?_
   refine tx_end rfl (ret (res1 rfl (rv_t rfl)) fun hI => ⟨?_, rfl⟩)
   grind [places]
  ·
   try have hwh2 := within_le h2
   refine skipgo rfl <| sr <| V rfl (y_fal rfl fo83_1 rfl) <| V rfl (y_ld (i := 0) rfl rfl rfl tc3) ?_
   refine Ef (e_call rfl en117 rfl (c_ref11_power _ (by omega)) ?_)
   refine V rfl (y_as rfl) <| go rfl <| t_seq <| sr <| V rfl (y_fal rfl fo83_0 rfl) <| V rfl (y_ld (i := 0) rfl rfl rfl tc81) <| go rfl <| t_block <| sr <| V rfl (y_eq rfl rfl) ?_
   refine V rfl (y_as rfl) <| go rfl ?_
   refine If rfl (fun h3 => ?_) (fun h3 => ?_)
   ·
    try have hwh3 := within_le h3
    refine sr <| V rfl (y_mv rfl) <| V rfl (y_add rfl rfl (by first | omega | (have hq := pow_le (n := p.size) (by omega); first | omega | (have hz := mul_bd (b := p.b) (by omega) (by omega) hq.2 hq.1; omega)))) <| V rfl (y_as rfl) <| go rfl <| t_ret ?_
    refine tx_end rfl (ret (res1 rfl (rv_t rfl)) fun hI => ⟨?_, rfl⟩)
    grind [places]
   ·
    try have hwh3 := within_le h3
    refine sr <| V rfl (y_eq rfl rfl) <| V rfl (y_as rfl) <| go rfl ?_
    refine If rfl (fun h4 => ?_) (fun h4 => ?_)
    ·
     try have hwh4 := within_le h4
     refine sr <| V rfl (y_mv rfl) <| V rfl (y_mul rfl rfl (by first | omega | (have hq := pow_le (n := p.size) (by omega); first | omega | (have hz := mul_bd (b := p.b) (by omega) (by omega) hq.2 hq.1; omega)))) <| V rfl (y_as rfl) <| go rfl <| t_ret ?_
     refine tx_end rfl (ret (res1 rfl (rv_t rfl)) fun hI => ⟨?_, rfl⟩)
     grind [places]
    ·
     try have hwh4 := within_le h4
     refine sr <| V rfl (y_eq rfl rfl) <| V rfl (y_as rfl) <| go rfl ?_
     refine If rfl (fun h5 => ?_) (fun h5 => ?_)
     ·
      try have hwh5 := within_le h5
      refine t_seq <| sr <| V rfl (y_fal rfl fo83_3 rfl) <| V rfl (y_ld (i := 0) rfl rfl rfl tc3) ?_
      refine Ef (e_call rfl en94 rfl (c_ref11_within _ _ _) ?_)
      refine V rfl (y_not rfl) <| go rfl ?_
      refine If rfl (fun h6 => ?_) (fun h6 => ?_)
      ·
       try have hwh6 := within_le h6
       refine sr <| V rfl (y_as rfl) <| go rfl <| t_ret ?_
       refine tx_end rfl (ret (res1 rfl (rv_t rfl)) fun hI => ⟨?_, rfl⟩)
       grind [places]
      ·
       try have hwh6 := within_le h6
       refine skipgo rfl <| sr <| V rfl (y_fal rfl fo83_3 rfl) <| V rfl (y_ld (i := 0) rfl rfl rfl tc3) <| V rfl (y_mv rfl) <| V rfl (y_mul rfl rfl (by first | omega | (have hq := pow_le (n := p.size) (by omega); first | omega | (have hz := mul_bd (b := p.b) (by omega) (by omega) hq.2 hq.1; omega)))) <| V rfl (y_as rfl) <| go rfl <| t_ret ?_
       refine tx_end rfl (ret (res1 rfl (rv_t rfl)) fun hI => ⟨?_, rfl⟩)
       grind [places]
     ·
      try have hwh5 := within_le h5
      refine sr <| V rfl (y_eq rfl rfl) <| V rfl (y_as rfl) <| go rfl ?_
      refine If rfl (fun h7 => ?_) (fun h7 => ?_)
      ·
       try have hwh7 := within_le h7
       refine sr <| V rfl (y_mv rfl) <| V rfl (y_add rfl rfl (by first | omega | (have hq := pow_le (n := p.size) (by omega); first | omega | (have hz := mul_bd (b := p.b) (by omega) (by omega) hq.2 hq.1; omega)))) <| V rfl (y_as rfl) <| go rfl <| t_ret ?_
       refine tx_end rfl (ret (res1 rfl (rv_t rfl)) fun hI => ⟨?_, rfl⟩)
       grind [places]
      ·
       try have hwh7 := within_le h7
       refine sr <| V rfl (y_eq rfl rfl) <| V rfl (y_as rfl) <| go rfl ?_
       refine If rfl (fun h8 => ?_) (fun h8 => ?_)
       ·
        try have hwh8 := within_le h8
        refine sr <| V rfl (y_mv rfl) <| V rfl (y_mul rfl rfl (by first | omega | (have hq := pow_le (n := p.size) (by omega); first | omega | (have hz := mul_bd (b := p.b) (by omega) (by omega) hq.2 hq.1; omega)))) <| V rfl (y_as rfl) <| go rfl <| t_ret ?_
        refine tx_end rfl (ret (res1 rfl (rv_t rfl)) fun hI => ⟨?_, rfl⟩)
        grind [places]
       ·
        try have hwh8 := within_le h8
        refine skipgo rfl <| sr <| V rfl (y_mv rfl) <| V rfl (y_as rfl) <| go rfl <| t_ret ?_
        refine tx_end rfl (ret (res1 rfl (rv_t rfl)) fun hI => ⟨?_, rfl⟩)
        grind [places]
 ·
  try have hwh1 := within_le h1
  refine skipgo rfl <| t_seq <| t_seq <| t_quiet rfl (by kernel_rfl) <| W rfl (y_fal rfl fo83_1 rfl) <| W rfl (y_ld (i := 0) rfl rfl rfl tc3) <| W rfl (y_mv rfl) <| W rfl (y_fal rfl fo83_0 rfl) <| W rfl (y_ld (i := 0) rfl rfl rfl tc81) <| tq_call rfl en116 rfl (c_ref11_most _) ?_
  refine tq_call rfl en94 rfl (c_ref11_within _ _ _) <| W rfl (y_not rfl) <| goq rfl ?_
  refine If rfl (fun h9 => ?_) (fun h9 => ?_)
  ·
   try have hwh9 := within_le h9
   refine sr <| V rfl (y_as rfl) <| go rfl <| t_ret ?_
   refine tx_end rfl (ret (res1 rfl (rv_t rfl)) fun hI => ⟨?_, rfl⟩)
   grind [places]
  ·
   try have hwh9 := within_le h9
   refine skipgo rfl <| sr <| V rfl (y_fal rfl fo83_1 rfl) <| V rfl (y_ld (i := 0) rfl rfl rfl tc3) ?_
   refine Ef (e_call rfl en117 rfl (c_ref11_power _ (by omega)) ?_)
   refine V rfl (y_as rfl) <| go rfl <| t_seq <| sr <| V rfl (y_fal rfl fo83_0 rfl) <| V rfl (y_ld (i := 0) rfl rfl rfl tc81) <| go rfl <| t_block <| sr <| V rfl (y_eq rfl rfl) ?_
   refine V rfl (y_as rfl) <| go rfl ?_
   refine If rfl (fun h10 => ?_) (fun h10 => ?_)
   ·
    try have hwh10 := within_le h10
    refine sr <| V rfl (y_mv rfl) <| V rfl (y_add rfl rfl (by first | omega | (have hq := pow_le (n := p.size) (by omega); first | omega | (have hz := mul_bd (b := p.b) (by omega) (by omega) hq.2 hq.1; omega)))) <| V rfl (y_as rfl) <| go rfl <| t_ret ?_
    refine tx_end rfl (ret (res1 rfl (rv_t rfl)) fun hI => ⟨?_, rfl⟩)
    grind [places]
   ·
    try have hwh10 := within_le h10
    refine sr <| V rfl (y_eq rfl rfl) <| V rfl (y_as rfl) <| go rfl ?_
    refine If rfl (fun h11 => ?_) (fun h11 => ?_)
    ·
     try have hwh11 := within_le h11
     refine sr <| V rfl (y_mv rfl) <| V rfl (y_mul rfl rfl (by first | omega | (have hq := pow_le (n := p.size) (by omega); first | omega | (have hz := mul_bd (b := p.b) (by omega) (by omega) hq.2 hq.1; omega)))) <| V rfl (y_as rfl) <| go rfl <| t_ret ?_
     refine tx_end rfl (ret (res1 rfl (rv_t rfl)) fun hI => ⟨?_, rfl⟩)
     grind [places]
    ·
     try have hwh11 := within_le h11
     refine sr <| V rfl (y_eq rfl rfl) <| V rfl (y_as rfl) <| go rfl ?_
     refine If rfl (fun h12 => ?_) (fun h12 => ?_)
     ·
      try have hwh12 := within_le h12
      refine t_seq <| sr <| V rfl (y_fal rfl fo83_3 rfl) <| V rfl (y_ld (i := 0) rfl rfl rfl tc3) ?_
      refine Ef (e_call rfl en94 rfl (c_ref11_within _ _ _) ?_)
      refine V rfl (y_not rfl) <| go rfl ?_
      refine If rfl (fun h13 => ?_) (fun h13 => ?_)
      ·
       try have hwh13 := within_le h13
       refine sr <| V rfl (y_as rfl) <| go rfl <| t_ret ?_
       refine tx_end rfl (ret (res1 rfl (rv_t rfl)) fun hI => ⟨?_, rfl⟩)
       grind [places]
      ·
       try have hwh13 := within_le h13
       refine skipgo rfl <| sr <| V rfl (y_fal rfl fo83_3 rfl) <| V rfl (y_ld (i := 0) rfl rfl rfl tc3) <| V rfl (y_mv rfl) <| V rfl (y_mul rfl rfl (by first | omega | (have hq := pow_le (n := p.size) (by omega); first | omega | (have hz := mul_bd (b := p.b) (by omega) (by omega) hq.2 hq.1; omega)))) <| V rfl (y_as rfl) <| go rfl <| t_ret ?_
       refine tx_end rfl (ret (res1 rfl (rv_t rfl)) fun hI => ⟨?_, rfl⟩)
       grind [places]
     ·
      try have hwh12 := within_le h12
      refine sr <| V rfl (y_eq rfl rfl) <| V rfl (y_as rfl) <| go rfl ?_
      refine If rfl (fun h14 => ?_) (fun h14 => ?_)
      ·
       try have hwh14 := within_le h14
       refine sr <| V rfl (y_mv rfl) <| V rfl (y_add rfl rfl (by first | omega | (have hq := pow_le (n := p.size) (by omega); first | omega | (have hz := mul_bd (b := p.b) (by omega) (by omega) hq.2 hq.1; omega)))) <| V rfl (y_as rfl) <| go rfl <| t_ret ?_
       refine tx_end rfl (ret (res1 rfl (rv_t rfl)) fun hI => ⟨?_, rfl⟩)
       grind [places]
      ·
       try have hwh14 := within_le h14
       refine sr <| V rfl (y_eq rfl rfl) <| V rfl (y_as rfl) <| go rfl ?_
       refine If rfl (fun h15 => ?_) (fun h15 => ?_)
       ·
        try have hwh15 := within_le h15
        refine sr <| V rfl (y_mv rfl) <| V rfl (y_mul rfl rfl (by first | omega | (have hq := pow_le (n := p.size) (by omega); first | omega | (have hz := mul_bd (b := p.b) (by omega) (by omega) hq.2 hq.1; omega)))) <| V rfl (y_as rfl) <| go rfl <| t_ret ?_
        refine tx_end rfl (ret (res1 rfl (rv_t rfl)) fun hI => ⟨?_, rfl⟩)
        grind [places]
       ·
        try have hwh15 := within_le h15
        refine skipgo rfl <| sr <| V rfl (y_mv rfl) <| V rfl (y_as rfl) <| go rfl <| t_ret ?_
        refine tx_end rfl (ret (res1 rfl (rv_t rfl)) fun hI => ⟨?_, rfl⟩)
        grind [places]

theorem c_ref11_fields {I : Imm} (p : Part)  : PAt Try.prog I 92 [.agg #[.int .u8 p.kind, .int .i64 p.size, .int .i64 p.a, .int .i64 p.b, .int .i64 p.c, .int .i64 p.rate, .int .i64 p.limit]] (.agg #[.int .u8 ((fieldsOf p).kind), .int .i64 ((fieldsOf p).size), .int .i64 ((fieldsOf p).a), .int .i64 ((fieldsOf p).b), .int .i64 ((fieldsOf p).c), .int .i64 ((fieldsOf p).rate), .int .i64 ((fieldsOf p).limit)]) := by
 refine pat_of fun L => fn_enter Try.func92 rfl rfl rfl ?_
 refine sr ?_
 refine Ef (e_box 0 rfl rfl rfl rfl rfl rfl fun b0 => ?_)
 refine Ef (e_alloc 1 rfl Try.zeroValue83 rfl rfl rfl rfl fun b1 => ?_)
 refine go rfl <| sr <| V rfl (y_fal rfl fo83_0 rfl) <| V rfl (y_ld (i := 0) rfl rfl rfl tc81) <| V rfl (y_build (vs := [_, _, _, _, _, _, _]) rfl bp83 rfl) ?_
 refine Ef (e_alloc 2 rfl Try.zeroValue83 rfl rfl rfl rfl fun b2 => ?_)
 refine Ef (e_sta 2 rfl rfl rfl rfl rfl rfl ta83 ?_)
 refine go rfl <| t_seq <| sr <| V rfl (y_fal rfl fo83_0 rfl) <| V rfl (y_ld (i := 0) rfl rfl rfl tc81) <| go rfl <| t_block <| sr <| V rfl (y_eq rfl rfl) <| V rfl (y_as rfl) ?_
 refine go rfl ?_
 refine If rfl (fun h1 => ?_) (fun h1 => ?_)
 ·
  refine t_region <| V rfl (y_fal rfl fo83_4 rfl) <| V rfl (y_ld (i := 0) rfl rfl rfl tc3) <| V rfl (y_fal rfl fo83_4 rfl) ?_
  refine Ef (e_st 2 rfl rfl rfl rfl rfl tc3 ?_)
  refine go rfl <| sr <| V rfl (y_lda (i := 2) rfl rfl ta83 rfl) ?_
  refine Ef (e_sta 1 rfl rfl rfl rfl rfl rfl ta83 ?_)
  refine go rfl <| t_ret ?_
  refine tx_end rfl (ret (res1 rfl (rv_a (i := 1) rfl rfl ta83 rfl)) fun hI => ⟨?_, rfl⟩)
  simp [fieldsOf, *]
 ·
  refine sr <| V rfl (y_eq rfl rfl) <| V rfl (y_as rfl) <| go rfl ?_
  refine If rfl (fun h2 => ?_) (fun h2 => ?_)
  ·
   refine t_held [2] rfl 8 rfl _ rfl (by kernel_rfl) fun hle hns => ?_
   refine Tk 0 np rfl rfl hns (by kernel_rfl) (by kernel_rfl) (y_fal rfl fo83_1 rfl) hle _ rfl <| Tk 1 np rfl rfl hns (by kernel_rfl) (by kernel_rfl) (y_ld (i := 0) rfl rfl rfl tc3) hle _ rfl <| Tk 2 np rfl rfl hns (by kernel_rfl) (by kernel_rfl) (y_fal rfl fo83_6 rfl) hle _ rfl <| Tk 3 np rfl rfl hns (by kernel_rfl) (by kernel_rfl) (y_ld (i := 0) rfl rfl rfl tc3) hle _ rfl <| Tk 4 np rfl rfl hns (by kernel_rfl) (by kernel_rfl) (y_fal rfl fo83_1 rfl) hle _ rfl ?_
   refine On 5 (fun _ _ h => sc_of [2] 0 0 (Imm.Le.refl _) rfl rfl rfl h) rfl (by kernel_rfl) _ rfl (e_st 2 rfl rfl rfl rfl rfl tc3 ?_)
   refine Tk 6 np rfl rfl hns (by kernel_rfl) (by kernel_rfl) (y_fal rfl fo83_6 rfl) hle _ rfl ?_
   refine On 7 (fun _ _ h => sc_of [2] 0 1 (Imm.Le.refl _) rfl rfl rfl h) rfl (by kernel_rfl) _ rfl (e_st 2 rfl rfl rfl rfl rfl tc3 ?_)
   refine th_end (fun _ _ h => sc_of [2] 0 2 (Imm.Le.refl _) rfl rfl rfl h) (by kernel_rfl) ?_
   show TX _ _ _ _ _ _ _
   refine tx_go rfl <| sr <| V rfl (y_lda (i := 2) rfl rfl ta83 rfl) ?_
   refine Ef (e_sta 1 rfl rfl rfl rfl rfl rfl ta83 ?_)
   refine go rfl <| t_ret ?_
   refine tx_end rfl (ret (res1 rfl (rv_a (i := 1) rfl rfl ta83 rfl)) fun hI => ⟨?_, rfl⟩)
   simp [fieldsOf, *]
  ·
   refine t_seq <| sr <| V rfl (y_eq rfl rfl) <| V rfl (y_as rfl) <| go rfl ?_
   refine If rfl (fun h3 => ?_) (fun h3 => ?_)
   ·
    refine skipgo rfl <| t_ift rfl <| t_region <| V rfl (y_fal rfl fo83_1 rfl) <| V rfl (y_ld (i := 0) rfl rfl rfl tc3) <| V rfl (y_fal rfl fo83_1 rfl) ?_
    refine Ef (e_st 2 rfl rfl rfl rfl rfl tc3 ?_)
    refine go rfl <| sr <| V rfl (y_lda (i := 2) rfl rfl ta83 rfl) ?_
    refine Ef (e_sta 1 rfl rfl rfl rfl rfl rfl ta83 ?_)
    refine go rfl <| t_ret ?_
    refine tx_end rfl (ret (res1 rfl (rv_a (i := 1) rfl rfl ta83 rfl)) fun hI => ⟨?_, rfl⟩)
    simp [fieldsOf, *]
   ·
    refine t_region <| V rfl (y_eq rfl rfl) <| V rfl (y_as rfl) <| go rfl ?_
    refine If rfl (fun h4 => ?_) (fun h4 => ?_)
    ·
     refine t_region <| V rfl (y_fal rfl fo83_1 rfl) <| V rfl (y_ld (i := 0) rfl rfl rfl tc3) <| V rfl (y_fal rfl fo83_1 rfl) ?_
     refine Ef (e_st 2 rfl rfl rfl rfl rfl tc3 ?_)
     refine go rfl <| sr <| V rfl (y_lda (i := 2) rfl rfl ta83 rfl) ?_
     refine Ef (e_sta 1 rfl rfl rfl rfl rfl rfl ta83 ?_)
     refine go rfl <| t_ret ?_
     refine tx_end rfl (ret (res1 rfl (rv_a (i := 1) rfl rfl ta83 rfl)) fun hI => ⟨?_, rfl⟩)
     simp [fieldsOf, *]
    ·
     refine sr <| V rfl (y_eq rfl rfl) <| V rfl (y_as rfl) <| go rfl ?_
     refine If rfl (fun h5 => ?_) (fun h5 => ?_)
     ·
      refine t_held [2] rfl 12 rfl _ rfl (by kernel_rfl) fun hle hns => ?_
      refine Tk 0 np rfl rfl hns (by kernel_rfl) (by kernel_rfl) (y_fal rfl fo83_2 rfl) hle _ rfl <| Tk 1 np rfl rfl hns (by kernel_rfl) (by kernel_rfl) (y_ld (i := 0) rfl rfl rfl tc3) hle _ rfl <| Tk 2 np rfl rfl hns (by kernel_rfl) (by kernel_rfl) (y_fal rfl fo83_3 rfl) hle _ rfl <| Tk 3 np rfl rfl hns (by kernel_rfl) (by kernel_rfl) (y_ld (i := 0) rfl rfl rfl tc3) hle _ rfl <| Tk 4 np rfl rfl hns (by kernel_rfl) (by kernel_rfl) (y_fal rfl fo83_4 rfl) hle _ rfl <| Tk 5 np rfl rfl hns (by kernel_rfl) (by kernel_rfl) (y_ld (i := 0) rfl rfl rfl tc3) hle _ rfl <| Tk 6 np rfl rfl hns (by kernel_rfl) (by kernel_rfl) (y_fal rfl fo83_2 rfl) hle _ rfl ?_
      refine On 7 (fun _ _ h => sc_of [2] 0 0 (Imm.Le.refl _) rfl rfl rfl h) rfl (by kernel_rfl) _ rfl (e_st 2 rfl rfl rfl rfl rfl tc3 ?_)
      refine Tk 8 np rfl rfl hns (by kernel_rfl) (by kernel_rfl) (y_fal rfl fo83_3 rfl) hle _ rfl ?_
      refine On 9 (fun _ _ h => sc_of [2] 0 1 (Imm.Le.refl _) rfl rfl rfl h) rfl (by kernel_rfl) _ rfl (e_st 2 rfl rfl rfl rfl rfl tc3 ?_)
      refine Tk 10 np rfl rfl hns (by kernel_rfl) (by kernel_rfl) (y_fal rfl fo83_4 rfl) hle _ rfl ?_
      refine On 11 (fun _ _ h => sc_of [2] 0 2 (Imm.Le.refl _) rfl rfl rfl h) rfl (by kernel_rfl) _ rfl (e_st 2 rfl rfl rfl rfl rfl tc3 ?_)
      refine th_end (fun _ _ h => sc_of [2] 0 3 (Imm.Le.refl _) rfl rfl rfl h) (by kernel_rfl) ?_
      show TX _ _ _ _ _ _ _
      refine tx_go rfl <| sr <| V rfl (y_lda (i := 2) rfl rfl ta83 rfl) ?_
      refine Ef (e_sta 1 rfl rfl rfl rfl rfl rfl ta83 ?_)
      refine go rfl <| t_ret ?_
      refine tx_end rfl (ret (res1 rfl (rv_a (i := 1) rfl rfl ta83 rfl)) fun hI => ⟨?_, rfl⟩)
      simp [fieldsOf, *]
     ·
      refine t_seq <| sr <| V rfl (y_eq rfl rfl) <| V rfl (y_as rfl) <| go rfl ?_
      refine If rfl (fun h6 => ?_) (fun h6 => ?_)
      ·
       refine skipgo rfl <| t_ift rfl ?_
       refine t_held [2] rfl 16 rfl _ rfl (by kernel_rfl) fun hle hns => ?_
       refine Tk 0 np rfl rfl hns (by kernel_rfl) (by kernel_rfl) (y_fal rfl fo83_1 rfl) hle _ rfl <| Tk 1 np rfl rfl hns (by kernel_rfl) (by kernel_rfl) (y_ld (i := 0) rfl rfl rfl tc3) hle _ rfl <| Tk 2 np rfl rfl hns (by kernel_rfl) (by kernel_rfl) (y_fal rfl fo83_2 rfl) hle _ rfl <| Tk 3 np rfl rfl hns (by kernel_rfl) (by kernel_rfl) (y_ld (i := 0) rfl rfl rfl tc3) hle _ rfl <| Tk 4 np rfl rfl hns (by kernel_rfl) (by kernel_rfl) (y_fal rfl fo83_3 rfl) hle _ rfl <| Tk 5 np rfl rfl hns (by kernel_rfl) (by kernel_rfl) (y_ld (i := 0) rfl rfl rfl tc3) hle _ rfl <| Tk 6 np rfl rfl hns (by kernel_rfl) (by kernel_rfl) (y_fal rfl fo83_5 rfl) hle _ rfl <| Tk 7 np rfl rfl hns (by kernel_rfl) (by kernel_rfl) (y_ld (i := 0) rfl rfl rfl tc3) hle _ rfl <| Tk 8 np rfl rfl hns (by kernel_rfl) (by kernel_rfl) (y_fal rfl fo83_1 rfl) hle _ rfl ?_
       refine On 9 (fun _ _ h => sc_of [2] 0 0 (Imm.Le.refl _) rfl rfl rfl h) rfl (by kernel_rfl) _ rfl (e_st 2 rfl rfl rfl rfl rfl tc3 ?_)
       refine Tk 10 np rfl rfl hns (by kernel_rfl) (by kernel_rfl) (y_fal rfl fo83_2 rfl) hle _ rfl ?_
       refine On 11 (fun _ _ h => sc_of [2] 0 1 (Imm.Le.refl _) rfl rfl rfl h) rfl (by kernel_rfl) _ rfl (e_st 2 rfl rfl rfl rfl rfl tc3 ?_)
       refine Tk 12 np rfl rfl hns (by kernel_rfl) (by kernel_rfl) (y_fal rfl fo83_3 rfl) hle _ rfl ?_
       refine On 13 (fun _ _ h => sc_of [2] 0 2 (Imm.Le.refl _) rfl rfl rfl h) rfl (by kernel_rfl) _ rfl (e_st 2 rfl rfl rfl rfl rfl tc3 ?_)
       refine Tk 14 np rfl rfl hns (by kernel_rfl) (by kernel_rfl) (y_fal rfl fo83_5 rfl) hle _ rfl ?_
       refine On 15 (fun _ _ h => sc_of [2] 0 3 (Imm.Le.refl _) rfl rfl rfl h) rfl (by kernel_rfl) _ rfl (e_st 2 rfl rfl rfl rfl rfl tc3 ?_)
       refine th_end (fun _ _ h => sc_of [2] 0 4 (Imm.Le.refl _) rfl rfl rfl h) (by kernel_rfl) ?_
       show TX _ _ _ _ _ _ _
       refine tx_go rfl <| sr <| V rfl (y_lda (i := 2) rfl rfl ta83 rfl) ?_
       refine Ef (e_sta 1 rfl rfl rfl rfl rfl rfl ta83 ?_)
       refine go rfl <| t_ret ?_
       refine tx_end rfl (ret (res1 rfl (rv_a (i := 1) rfl rfl ta83 rfl)) fun hI => ⟨?_, rfl⟩)
       simp [fieldsOf, *]
      ·
       refine t_region <| V rfl (y_eq rfl rfl) <| V rfl (y_as rfl) <| go rfl ?_
       refine If rfl (fun h7 => ?_) (fun h7 => ?_)
       ·
        refine t_held [2] rfl 16 rfl _ rfl (by kernel_rfl) fun hle hns => ?_
        refine Tk 0 np rfl rfl hns (by kernel_rfl) (by kernel_rfl) (y_fal rfl fo83_1 rfl) hle _ rfl <| Tk 1 np rfl rfl hns (by kernel_rfl) (by kernel_rfl) (y_ld (i := 0) rfl rfl rfl tc3) hle _ rfl <| Tk 2 np rfl rfl hns (by kernel_rfl) (by kernel_rfl) (y_fal rfl fo83_2 rfl) hle _ rfl <| Tk 3 np rfl rfl hns (by kernel_rfl) (by kernel_rfl) (y_ld (i := 0) rfl rfl rfl tc3) hle _ rfl <| Tk 4 np rfl rfl hns (by kernel_rfl) (by kernel_rfl) (y_fal rfl fo83_3 rfl) hle _ rfl <| Tk 5 np rfl rfl hns (by kernel_rfl) (by kernel_rfl) (y_ld (i := 0) rfl rfl rfl tc3) hle _ rfl <| Tk 6 np rfl rfl hns (by kernel_rfl) (by kernel_rfl) (y_fal rfl fo83_5 rfl) hle _ rfl <| Tk 7 np rfl rfl hns (by kernel_rfl) (by kernel_rfl) (y_ld (i := 0) rfl rfl rfl tc3) hle _ rfl <| Tk 8 np rfl rfl hns (by kernel_rfl) (by kernel_rfl) (y_fal rfl fo83_1 rfl) hle _ rfl ?_
        refine On 9 (fun _ _ h => sc_of [2] 0 0 (Imm.Le.refl _) rfl rfl rfl h) rfl (by kernel_rfl) _ rfl (e_st 2 rfl rfl rfl rfl rfl tc3 ?_)
        refine Tk 10 np rfl rfl hns (by kernel_rfl) (by kernel_rfl) (y_fal rfl fo83_2 rfl) hle _ rfl ?_
        refine On 11 (fun _ _ h => sc_of [2] 0 1 (Imm.Le.refl _) rfl rfl rfl h) rfl (by kernel_rfl) _ rfl (e_st 2 rfl rfl rfl rfl rfl tc3 ?_)
        refine Tk 12 np rfl rfl hns (by kernel_rfl) (by kernel_rfl) (y_fal rfl fo83_3 rfl) hle _ rfl ?_
        refine On 13 (fun _ _ h => sc_of [2] 0 2 (Imm.Le.refl _) rfl rfl rfl h) rfl (by kernel_rfl) _ rfl (e_st 2 rfl rfl rfl rfl rfl tc3 ?_)
        refine Tk 14 np rfl rfl hns (by kernel_rfl) (by kernel_rfl) (y_fal rfl fo83_5 rfl) hle _ rfl ?_
        refine On 15 (fun _ _ h => sc_of [2] 0 3 (Imm.Le.refl _) rfl rfl rfl h) rfl (by kernel_rfl) _ rfl (e_st 2 rfl rfl rfl rfl rfl tc3 ?_)
        refine th_end (fun _ _ h => sc_of [2] 0 4 (Imm.Le.refl _) rfl rfl rfl h) (by kernel_rfl) ?_
        show TX _ _ _ _ _ _ _
        refine tx_go rfl <| sr <| V rfl (y_lda (i := 2) rfl rfl ta83 rfl) ?_
        refine Ef (e_sta 1 rfl rfl rfl rfl rfl rfl ta83 ?_)
        refine go rfl <| t_ret ?_
        refine tx_end rfl (ret (res1 rfl (rv_a (i := 1) rfl rfl ta83 rfl)) fun hI => ⟨?_, rfl⟩)
        simp [fieldsOf, *]
       ·
        refine sr <| V rfl (y_eq rfl rfl) <| V rfl (y_as rfl) <| go rfl ?_
        refine If rfl (fun h8 => ?_) (fun h8 => ?_)
        ·
         refine t_held [2] rfl 8 rfl _ rfl (by kernel_rfl) fun hle hns => ?_
         refine Tk 0 np rfl rfl hns (by kernel_rfl) (by kernel_rfl) (y_fal rfl fo83_1 rfl) hle _ rfl <| Tk 1 np rfl rfl hns (by kernel_rfl) (by kernel_rfl) (y_ld (i := 0) rfl rfl rfl tc3) hle _ rfl <| Tk 2 np rfl rfl hns (by kernel_rfl) (by kernel_rfl) (y_fal rfl fo83_2 rfl) hle _ rfl <| Tk 3 np rfl rfl hns (by kernel_rfl) (by kernel_rfl) (y_ld (i := 0) rfl rfl rfl tc3) hle _ rfl <| Tk 4 np rfl rfl hns (by kernel_rfl) (by kernel_rfl) (y_fal rfl fo83_1 rfl) hle _ rfl ?_
         refine On 5 (fun _ _ h => sc_of [2] 0 0 (Imm.Le.refl _) rfl rfl rfl h) rfl (by kernel_rfl) _ rfl (e_st 2 rfl rfl rfl rfl rfl tc3 ?_)
         refine Tk 6 np rfl rfl hns (by kernel_rfl) (by kernel_rfl) (y_fal rfl fo83_2 rfl) hle _ rfl ?_
         refine On 7 (fun _ _ h => sc_of [2] 0 1 (Imm.Le.refl _) rfl rfl rfl h) rfl (by kernel_rfl) _ rfl (e_st 2 rfl rfl rfl rfl rfl tc3 ?_)
         refine th_end (fun _ _ h => sc_of [2] 0 2 (Imm.Le.refl _) rfl rfl rfl h) (by kernel_rfl) ?_
         show TX _ _ _ _ _ _ _
         refine tx_go rfl <| sr <| V rfl (y_lda (i := 2) rfl rfl ta83 rfl) ?_
         refine Ef (e_sta 1 rfl rfl rfl rfl rfl rfl ta83 ?_)
         refine go rfl <| t_ret ?_
         refine tx_end rfl (ret (res1 rfl (rv_a (i := 1) rfl rfl ta83 rfl)) fun hI => ⟨?_, rfl⟩)
         simp [fieldsOf, *]
        ·
         refine sr <| V rfl (y_eq rfl rfl) <| V rfl (y_as rfl) <| go rfl ?_
         refine If rfl (fun h9 => ?_) (fun h9 => ?_)
         ·
          refine t_held [2] rfl 12 rfl _ rfl (by kernel_rfl) fun hle hns => ?_
          refine Tk 0 np rfl rfl hns (by kernel_rfl) (by kernel_rfl) (y_fal rfl fo83_1 rfl) hle _ rfl <| Tk 1 np rfl rfl hns (by kernel_rfl) (by kernel_rfl) (y_ld (i := 0) rfl rfl rfl tc3) hle _ rfl <| Tk 2 np rfl rfl hns (by kernel_rfl) (by kernel_rfl) (y_fal rfl fo83_2 rfl) hle _ rfl <| Tk 3 np rfl rfl hns (by kernel_rfl) (by kernel_rfl) (y_ld (i := 0) rfl rfl rfl tc3) hle _ rfl <| Tk 4 np rfl rfl hns (by kernel_rfl) (by kernel_rfl) (y_fal rfl fo83_6 rfl) hle _ rfl <| Tk 5 np rfl rfl hns (by kernel_rfl) (by kernel_rfl) (y_ld (i := 0) rfl rfl rfl tc3) hle _ rfl <| Tk 6 np rfl rfl hns (by kernel_rfl) (by kernel_rfl) (y_fal rfl fo83_1 rfl) hle _ rfl ?_
          refine On 7 (fun _ _ h => sc_of [2] 0 0 (Imm.Le.refl _) rfl rfl rfl h) rfl (by kernel_rfl) _ rfl (e_st 2 rfl rfl rfl rfl rfl tc3 ?_)
          refine Tk 8 np rfl rfl hns (by kernel_rfl) (by kernel_rfl) (y_fal rfl fo83_2 rfl) hle _ rfl ?_
          refine On 9 (fun _ _ h => sc_of [2] 0 1 (Imm.Le.refl _) rfl rfl rfl h) rfl (by kernel_rfl) _ rfl (e_st 2 rfl rfl rfl rfl rfl tc3 ?_)
          refine Tk 10 np rfl rfl hns (by kernel_rfl) (by kernel_rfl) (y_fal rfl fo83_6 rfl) hle _ rfl ?_
          refine On 11 (fun _ _ h => sc_of [2] 0 2 (Imm.Le.refl _) rfl rfl rfl h) rfl (by kernel_rfl) _ rfl (e_st 2 rfl rfl rfl rfl rfl tc3 ?_)
          refine th_end (fun _ _ h => sc_of [2] 0 3 (Imm.Le.refl _) rfl rfl rfl h) (by kernel_rfl) ?_
          show TX _ _ _ _ _ _ _
          refine tx_go rfl <| sr <| V rfl (y_lda (i := 2) rfl rfl ta83 rfl) ?_
          refine Ef (e_sta 1 rfl rfl rfl rfl rfl rfl ta83 ?_)
          refine go rfl <| t_ret ?_
          refine tx_end rfl (ret (res1 rfl (rv_a (i := 1) rfl rfl ta83 rfl)) fun hI => ⟨?_, rfl⟩)
          simp [fieldsOf, *]
         ·
          refine skipgo rfl <| sr <| V rfl (y_lda (i := 2) rfl rfl ta83 rfl) ?_
          refine Ef (e_sta 1 rfl rfl rfl rfl rfl rfl ta83 ?_)
          refine go rfl <| t_ret ?_
          refine tx_end rfl (ret (res1 rfl (rv_a (i := 1) rfl rfl ta83 rfl)) fun hI => ⟨?_, rfl⟩)
          simp [fieldsOf, *]

theorem c_ref11_one {I : Imm} (p : Part) (i : Int) (hi0 : 0 ≤ i) (hi1 : i ≤ 100000) : PAt Try.prog I 55 [.agg #[.int .u8 p.kind, .int .i64 p.size, .int .i64 p.a, .int .i64 p.b, .int .i64 p.c, .int .i64 p.rate, .int .i64 p.limit], .int .i64 i] (.bool (oneB p i)) := by
 refine pat_of fun L => fn_enter Try.func55 rfl rfl rfl ?_
 refine sr ?_
 refine Ef (e_box 0 rfl rfl rfl rfl rfl rfl fun b0 => ?_)
 refine V rfl (y_as rfl) <| go rfl <| t_seq <| t_seq <| t_quiet rfl (by kernel_rfl) <| W rfl (y_lda (i := 0) rfl rfl ta83 rfl) <| tq_call rfl en92 rfl (c_ref11_fields _) <| W rfl (y_lda (i := 0) rfl rfl ta83 rfl) <| W rfl (y_neqst rfl rfl Try.eqGuardType83 (se83 _ _ _ _ _ _ _ _ _ _ _ _ _ _)) <| goq rfl ?_
 refine If rfl (fun h1 => ?_) (fun h1 => ?_)
 ·
  try have hxh1 := part_ext h1
  try have hyh1 := part_ne h1
  try have hwh1 := within_le h1
  refine sr <| V rfl (y_as rfl) <| go rfl <| t_ret ?_
  refine tx_end rfl (ret (res1 rfl (rv_t rfl)) fun hI => ⟨?_, rfl⟩)
  grind [oneB]
 ·
  try have hxh1 := part_ext h1
  try have hyh1 := part_ne h1
  try have hwh1 := within_le h1
  refine skipgo rfl <| sr <| V rfl (y_lda (i := 0) rfl rfl ta83 rfl) ?_
  refine Ef (e_call rfl en93 rfl (c_ref11_Places _) ?_)
  refine V rfl (y_gt rfl rfl) <| V rfl (y_as rfl) <| go rfl <| t_seq <| sr <| V rfl (y_fal rfl fo83_0 rfl) <| V rfl (y_ld (i := 0) rfl rfl rfl tc81) <| go rfl <| t_block <| sr ?_
  refine V rfl (y_eq rfl rfl) <| V rfl (y_as rfl) <| go rfl ?_
  refine If rfl (fun h2 => ?_) (fun h2 => ?_)
  ·
   try have hxh2 := part_ext h2
   try have hyh2 := part_ne h2
   try have hwh2 := within_le h2
   refine sr <| V rfl (y_fal rfl fo83_4 rfl) <| V rfl (y_ld (i := 0) rfl rfl rfl tc3) ?_
   refine Ef (e_call rfl en94 rfl (c_ref11_within _ _ _) ?_)
   refine V rfl (y_as rfl) <| go rfl <| t_ret ?_
   refine tx_end rfl (ret (res1 rfl (rv_t rfl)) fun hI => ⟨?_, rfl⟩)
   grind [oneB]
  ·
   try have hxh2 := part_ext h2
   try have hyh2 := part_ne h2
   try have hwh2 := within_le h2
   refine sr <| V rfl (y_eq rfl rfl) <| V rfl (y_as rfl) <| go rfl ?_
   refine If rfl (fun h3 => ?_) (fun h3 => ?_)
   ·
    try have hxh3 := part_ext h3
    try have hyh3 := part_ne h3
    try have hwh3 := within_le h3
    refine sr <| V rfl (y_mv rfl) <| V rfl (y_mv rfl) ?_
    refine Spl 23 rfl (fun h4 => ?_) (fun h4 => ?_)
    ·
     try have hxh4 := part_ext h4
     try have hyh4 := part_ne h4
     try have hwh4 := within_le h4
     refine Gt rfl rfl <| V rfl (y_fal rfl fo83_6 rfl) <| Gt rfl rfl <| V rfl (y_ld (i := 0) rfl rfl rfl tc3) <| Gt rfl rfl ?_
     refine Ef (e_call rfl en94 rfl (c_ref11_within _ _ _) ?_)
     refine V rfl (y_pick (b := true) rfl rfl) <| V rfl (y_as rfl) <| go rfl <| t_ret ?_
     refine tx_end rfl (ret (res1 rfl (rv_t rfl)) fun hI => ⟨?_, rfl⟩)
     grind [oneB]
    ·
     try have hxh4 := part_ext h4
     try have hyh4 := part_ne h4
     try have hwh4 := within_le h4
     refine Gf rfl rfl rfl rfl <| Gf rfl rfl rfl rfl <| Gf rfl rfl rfl rfl <| V rfl (y_pick (b := false) rfl rfl) <| V rfl (y_as rfl) <| go rfl <| t_ret ?_
     refine tx_end rfl (ret (res1 rfl (rv_t rfl)) fun hI => ⟨?_, rfl⟩)
     grind [oneB]
   ·
    try have hxh3 := part_ext h3
    try have hyh3 := part_ne h3
    try have hwh3 := within_le h3
    refine t_seq <| sr <| V rfl (y_eq rfl rfl) <| V rfl (y_as rfl) <| go rfl ?_
    refine If rfl (fun h5 => ?_) (fun h5 => ?_)
    ·
     try have hxh5 := part_ext h5
     try have hyh5 := part_ne h5
     try have hwh5 := within_le h5
     refine skipgo rfl <| t_ift rfl <| sr <| V rfl (y_mv rfl) <| V rfl (y_as rfl) <| go rfl <| t_ret ?_
     refine tx_end rfl (ret (res1 rfl (rv_t rfl)) fun hI => ⟨?_, rfl⟩)
     grind [oneB]
    ·
     try have hxh5 := part_ext h5
     try have hyh5 := part_ne h5
     try have hwh5 := within_le h5
     refine t_region <| V rfl (y_eq rfl rfl) <| V rfl (y_as rfl) <| go rfl ?_
     refine If rfl (fun h6 => ?_) (fun h6 => ?_)
     ·
      try have hxh6 := part_ext h6
      try have hyh6 := part_ne h6
      try have hwh6 := within_le h6
      refine sr <| V rfl (y_mv rfl) <| V rfl (y_as rfl) <| go rfl <| t_ret ?_
      refine tx_end rfl (ret (res1 rfl (rv_t rfl)) fun hI => ⟨?_, rfl⟩)
      grind [oneB]
     ·
      try have hxh6 := part_ext h6
      try have hyh6 := part_ne h6
      try have hwh6 := within_le h6
      refine sr <| V rfl (y_eq rfl rfl) <| V rfl (y_as rfl) <| go rfl ?_
      refine If rfl (fun h7 => ?_) (fun h7 => ?_)
      ·
       try have hxh7 := part_ext h7
       try have hyh7 := part_ne h7
       try have hwh7 := within_le h7
       refine sr <| V rfl (y_fal rfl fo83_2 rfl) <| V rfl (y_ld (i := 0) rfl rfl rfl tc3) <| V rfl (y_mv rfl) <| V rfl (y_sub rfl rfl (by first | omega | (have hz := places_b ‹0 < places p› ‹p.kind = 7›; omega))) ?_
       refine Ef (e_call rfl en94 rfl (c_ref11_within _ _ _) ?_)
       refine V rfl (y_mv rfl) ?_
       refine Spl 39 rfl (fun h8 => ?_) (fun h8 => ?_)
       ·
        try have hxh8 := part_ext h8
        try have hyh8 := part_ne h8
        try have hwh8 := within_le h8
        refine Gt rfl rfl <| V rfl (y_fal rfl fo83_3 rfl) <| Gt rfl rfl <| V rfl (y_ld (i := 0) rfl rfl rfl tc3) <| Gt rfl rfl <| V rfl (y_mv rfl) <| Gt rfl rfl <| V rfl (y_sub rfl rfl (by first | omega | (have hz := places_b ‹0 < places p› ‹p.kind = 7›; omega))) <| Gt rfl rfl ?_
        refine Ef (e_call rfl en94 rfl (c_ref11_within _ _ _) ?_)
        refine V rfl (y_pick (b := true) rfl rfl) <| V rfl (y_mv rfl) ?_
        refine Spl 46 rfl (fun h9 => ?_) (fun h9 => ?_)
        ·
         try have hxh9 := part_ext h9
         try have hyh9 := part_ne h9
         try have hwh9 := within_le h9
         refine Gt rfl rfl <| V rfl (y_fal rfl fo83_4 rfl) <| Gt rfl rfl <| V rfl (y_ld (i := 0) rfl rfl rfl tc3) <| Gt rfl rfl ?_
         refine Ef (e_call rfl en94 rfl (c_ref11_within _ _ _) ?_)
         refine V rfl (y_pick (b := true) rfl rfl) <| V rfl (y_as rfl) <| go rfl <| t_ret ?_
         refine tx_end rfl (ret (res1 rfl (rv_t rfl)) fun hI => ⟨?_, rfl⟩)
         grind [oneB]
        ·
         try have hxh9 := part_ext h9
         try have hyh9 := part_ne h9
         try have hwh9 := within_le h9
         refine Gf rfl rfl rfl rfl <| Gf rfl rfl rfl rfl <| Gf rfl rfl rfl rfl <| V rfl (y_pick (b := false) rfl rfl) <| V rfl (y_as rfl) <| go rfl <| t_ret ?_
         refine tx_end rfl (ret (res1 rfl (rv_t rfl)) fun hI => ⟨?_, rfl⟩)
         grind [oneB]
       ·
        try have hxh8 := part_ext h8
        try have hyh8 := part_ne h8
        try have hwh8 := within_le h8
        refine Gf rfl rfl rfl rfl <| Gf rfl rfl rfl rfl <| Gf rfl rfl rfl rfl <| Gf rfl rfl rfl rfl <| Gf rfl rfl rfl rfl <| V rfl (y_pick (b := false) rfl rfl) <| V rfl (y_mv rfl) <| Gf rfl rfl rfl rfl <| Gf rfl rfl rfl rfl <| Gf rfl rfl rfl rfl ?_
        refine V rfl (y_pick (b := false) rfl rfl) <| V rfl (y_as rfl) <| go rfl <| t_ret ?_
        refine tx_end rfl (ret (res1 rfl (rv_t rfl)) fun hI => ⟨?_, rfl⟩)
        grind [oneB]
      ·
       try have hxh7 := part_ext h7
       try have hyh7 := part_ne h7
       try have hwh7 := within_le h7
       refine sr <| V rfl (y_eq rfl rfl) <| V rfl (y_as rfl) <| go rfl ?_
       refine If rfl (fun h10 => ?_) (fun h10 => ?_)
       ·
        try have hxh10 := part_ext h10
        try have hyh10 := part_ne h10
        try have hwh10 := within_le h10
        refine sr <| V rfl (y_mv rfl) <| V rfl (y_mv rfl) ?_
        refine Spl 54 rfl (fun h11 => ?_) (fun h11 => ?_)
        ·
         try have hxh11 := part_ext h11
         try have hyh11 := part_ne h11
         try have hwh11 := within_le h11
         refine Gt rfl rfl <| V rfl (y_fal rfl fo83_2 rfl) <| Gt rfl rfl <| V rfl (y_ld (i := 0) rfl rfl rfl tc3) <| Gt rfl rfl <| V rfl (y_mv rfl) <| Gt rfl rfl <| V rfl (y_sub rfl rfl (by first | omega | (have hz := places_b ‹0 < places p› ‹p.kind = 7›; omega))) <| Gt rfl rfl ?_
         refine Ef (e_call rfl en94 rfl (c_ref11_within _ _ _) ?_)
         refine V rfl (y_pick (b := true) rfl rfl) <| V rfl (y_mv rfl) ?_
         refine Spl 61 rfl (fun h12 => ?_) (fun h12 => ?_)
         ·
          try have hxh12 := part_ext h12
          try have hyh12 := part_ne h12
          try have hwh12 := within_le h12
          refine Gt rfl rfl <| V rfl (y_fal rfl fo83_3 rfl) <| Gt rfl rfl <| V rfl (y_ld (i := 0) rfl rfl rfl tc3) <| Gt rfl rfl <| V rfl (y_mv rfl) <| Gt rfl rfl <| V rfl (y_sub rfl rfl (by first | omega | (have hz := places_b ‹0 < places p› ‹p.kind = 7›; omega))) <| Gt rfl rfl ?_
          refine Ef (e_call rfl en94 rfl (c_ref11_within _ _ _) ?_)
          refine V rfl (y_pick (b := true) rfl rfl) <| V rfl (y_mv rfl) ?_
          refine Spl 68 rfl (fun h13 => ?_) (fun h13 => ?_)
          ·
           try have hxh13 := part_ext h13
           try have hyh13 := part_ne h13
           try have hwh13 := within_le h13
           refine Gt rfl rfl <| V rfl (y_fal rfl fo83_5 rfl) <| Gt rfl rfl <| V rfl (y_ld (i := 0) rfl rfl rfl tc3) <| Gt rfl rfl ?_
           refine Ef (e_call rfl en94 rfl (c_ref11_within _ _ _) ?_)
           refine V rfl (y_pick (b := true) rfl rfl) <| V rfl (y_as rfl) <| go rfl <| t_ret ?_
           refine tx_end rfl (ret (res1 rfl (rv_t rfl)) fun hI => ⟨?_, rfl⟩)
           grind [oneB]
          ·
           try have hxh13 := part_ext h13
           try have hyh13 := part_ne h13
           try have hwh13 := within_le h13
           refine Gf rfl rfl rfl rfl <| Gf rfl rfl rfl rfl <| Gf rfl rfl rfl rfl <| V rfl (y_pick (b := false) rfl rfl) <| V rfl (y_as rfl) <| go rfl <| t_ret ?_
           refine tx_end rfl (ret (res1 rfl (rv_t rfl)) fun hI => ⟨?_, rfl⟩)
           grind [oneB]
         ·
          try have hxh12 := part_ext h12
          try have hyh12 := part_ne h12
          try have hwh12 := within_le h12
          refine Gf rfl rfl rfl rfl <| Gf rfl rfl rfl rfl <| Gf rfl rfl rfl rfl <| Gf rfl rfl rfl rfl <| Gf rfl rfl rfl rfl <| V rfl (y_pick (b := false) rfl rfl) <| V rfl (y_mv rfl) <| Gf rfl rfl rfl rfl <| Gf rfl rfl rfl rfl <| Gf rfl rfl rfl rfl ?_
          refine V rfl (y_pick (b := false) rfl rfl) <| V rfl (y_as rfl) <| go rfl <| t_ret ?_
          refine tx_end rfl (ret (res1 rfl (rv_t rfl)) fun hI => ⟨?_, rfl⟩)
          grind [oneB]
        ·
         try have hxh11 := part_ext h11
         try have hyh11 := part_ne h11
         try have hwh11 := within_le h11
         refine Gf rfl rfl rfl rfl <| Gf rfl rfl rfl rfl <| Gf rfl rfl rfl rfl <| Gf rfl rfl rfl rfl <| Gf rfl rfl rfl rfl <| V rfl (y_pick (b := false) rfl rfl) <| V rfl (y_mv rfl) <| Gf rfl rfl rfl rfl <| Gf rfl rfl rfl rfl <| Gf rfl rfl rfl rfl ?_
         refine Gf rfl rfl rfl rfl <| Gf rfl rfl rfl rfl <| V rfl (y_pick (b := false) rfl rfl) <| V rfl (y_mv rfl) <| Gf rfl rfl rfl rfl <| Gf rfl rfl rfl rfl <| Gf rfl rfl rfl rfl <| V rfl (y_pick (b := false) rfl rfl) <| V rfl (y_as rfl) <| go rfl ?_
         refine t_ret ?_
         refine tx_end rfl (ret (res1 rfl (rv_t rfl)) fun hI => ⟨?_, rfl⟩)
         grind [oneB]
       ·
        try have hxh10 := part_ext h10
        try have hyh10 := part_ne h10
        try have hwh10 := within_le h10
        refine sr <| V rfl (y_eq rfl rfl) <| V rfl (y_as rfl) <| go rfl ?_
        refine If rfl (fun h14 => ?_) (fun h14 => ?_)
        ·
         try have hxh14 := part_ext h14
         try have hyh14 := part_ne h14
         try have hwh14 := within_le h14
         refine sr <| V rfl (y_mv rfl) <| V rfl (y_mv rfl) ?_
         refine Spl 76 rfl (fun h15 => ?_) (fun h15 => ?_)
         ·
          try have hxh15 := part_ext h15
          try have hyh15 := part_ne h15
          try have hwh15 := within_le h15
          refine Gt rfl rfl <| V rfl (y_fal rfl fo83_2 rfl) <| Gt rfl rfl <| V rfl (y_ld (i := 0) rfl rfl rfl tc3) <| Gt rfl rfl <| V rfl (y_mv rfl) <| Gt rfl rfl <| V rfl (y_sub rfl rfl (by first | omega | (have hz := places_b ‹0 < places p› ‹p.kind = 7›; omega))) <| Gt rfl rfl ?_
          refine Ef (e_call rfl en94 rfl (c_ref11_within _ _ _) ?_)
          refine V rfl (y_pick (b := true) rfl rfl) <| V rfl (y_mv rfl) ?_
          refine Spl 83 rfl (fun h16 => ?_) (fun h16 => ?_)
          ·
           try have hxh16 := part_ext h16
           try have hyh16 := part_ne h16
           try have hwh16 := within_le h16
           refine Gt rfl rfl <| V rfl (y_fal rfl fo83_2 rfl) <| Gt rfl rfl <| V rfl (y_ld (i := 0) rfl rfl rfl tc3) <| Gt rfl rfl <| V rfl (y_fal rfl fo83_3 rfl) <| Gt rfl rfl <| V rfl (y_ld (i := 0) rfl rfl rfl tc3) <| Gt rfl rfl <| V rfl (y_add rfl rfl (by first | omega | (have hz := places_b ‹0 < places p› ‹p.kind = 7›; omega))) ?_
           refine Gt rfl rfl <| V rfl (y_mv rfl) <| Gt rfl rfl <| V rfl (y_le rfl rfl) <| V rfl (y_pick (b := true) rfl rfl) <| V rfl (y_mv rfl) ?_
           refine Spl 92 rfl (fun h17 => ?_) (fun h17 => ?_)
           ·
            try have hxh17 := part_ext h17
            try have hyh17 := part_ne h17
            try have hwh17 := within_le h17
            refine Gt rfl rfl <| V rfl (y_fal rfl fo83_5 rfl) <| Gt rfl rfl <| V rfl (y_ld (i := 0) rfl rfl rfl tc3) <| Gt rfl rfl ?_
            refine Ef (e_call rfl en94 rfl (c_ref11_within _ _ _) ?_)
            refine V rfl (y_pick (b := true) rfl rfl) <| V rfl (y_as rfl) <| go rfl <| t_ret ?_
            refine tx_end rfl (ret (res1 rfl (rv_t rfl)) fun hI => ⟨?_, rfl⟩)
            grind [oneB]
           ·
            try have hxh17 := part_ext h17
            try have hyh17 := part_ne h17
            try have hwh17 := within_le h17
            refine Gf rfl rfl rfl rfl <| Gf rfl rfl rfl rfl <| Gf rfl rfl rfl rfl <| V rfl (y_pick (b := false) rfl rfl) <| V rfl (y_as rfl) <| go rfl <| t_ret ?_
            refine tx_end rfl (ret (res1 rfl (rv_t rfl)) fun hI => ⟨?_, rfl⟩)
            grind [oneB]
          ·
           try have hxh16 := part_ext h16
           try have hyh16 := part_ne h16
           try have hwh16 := within_le h16
           refine Gf rfl rfl rfl rfl <| Gf rfl rfl rfl rfl <| Gf rfl rfl rfl rfl <| Gf rfl rfl rfl rfl <| Gf rfl rfl rfl rfl <| Gf rfl rfl rfl rfl <| Gf rfl rfl rfl rfl <| V rfl (y_pick (b := false) rfl rfl) <| V rfl (y_mv rfl) <| Gf rfl rfl rfl rfl ?_
           refine Gf rfl rfl rfl rfl <| Gf rfl rfl rfl rfl <| V rfl (y_pick (b := false) rfl rfl) <| V rfl (y_as rfl) <| go rfl <| t_ret ?_
           refine tx_end rfl (ret (res1 rfl (rv_t rfl)) fun hI => ⟨?_, rfl⟩)
           grind [oneB]
         ·
          try have hxh15 := part_ext h15
          try have hyh15 := part_ne h15
          try have hwh15 := within_le h15
          refine Gf rfl rfl rfl rfl <| Gf rfl rfl rfl rfl <| Gf rfl rfl rfl rfl <| Gf rfl rfl rfl rfl <| Gf rfl rfl rfl rfl <| V rfl (y_pick (b := false) rfl rfl) <| V rfl (y_mv rfl) <| Gf rfl rfl rfl rfl <| Gf rfl rfl rfl rfl <| Gf rfl rfl rfl rfl ?_
          refine Gf rfl rfl rfl rfl <| Gf rfl rfl rfl rfl <| Gf rfl rfl rfl rfl <| Gf rfl rfl rfl rfl <| V rfl (y_pick (b := false) rfl rfl) <| V rfl (y_mv rfl) <| Gf rfl rfl rfl rfl <| Gf rfl rfl rfl rfl <| Gf rfl rfl rfl rfl <| V rfl (y_pick (b := false) rfl rfl) ?_
          refine V rfl (y_as rfl) <| go rfl <| t_ret ?_
          refine tx_end rfl (ret (res1 rfl (rv_t rfl)) fun hI => ⟨?_, rfl⟩)
          grind [oneB]
        ·
         try have hxh14 := part_ext h14
         try have hyh14 := part_ne h14
         try have hwh14 := within_le h14
         refine sr <| V rfl (y_eq rfl rfl) <| V rfl (y_as rfl) <| go rfl ?_
         refine If rfl (fun h18 => ?_) (fun h18 => ?_)
         ·
          try have hxh18 := part_ext h18
          try have hyh18 := part_ne h18
          try have hwh18 := within_le h18
          refine sr <| V rfl (y_mv rfl) <| V rfl (y_mv rfl) ?_
          refine Spl 100 rfl (fun h19 => ?_) (fun h19 => ?_)
          ·
           try have hxh19 := part_ext h19
           try have hyh19 := part_ne h19
           try have hwh19 := within_le h19
           refine Gt rfl rfl <| V rfl (y_fal rfl fo83_2 rfl) <| Gt rfl rfl <| V rfl (y_ld (i := 0) rfl rfl rfl tc3) <| Gt rfl rfl <| V rfl (y_mv rfl) <| Gt rfl rfl <| V rfl (y_sub rfl rfl (by first | omega | (have hz := places_b ‹0 < places p› ‹p.kind = 7›; omega))) <| Gt rfl rfl ?_
           refine Ef (e_call rfl en94 rfl (c_ref11_within _ _ _) ?_)
           refine V rfl (y_pick (b := true) rfl rfl) <| V rfl (y_as rfl) <| go rfl <| t_ret ?_
           refine tx_end rfl (ret (res1 rfl (rv_t rfl)) fun hI => ⟨?_, rfl⟩)
           grind [oneB]
          ·
           try have hxh19 := part_ext h19
           try have hyh19 := part_ne h19
           try have hwh19 := within_le h19
           refine Gf rfl rfl rfl rfl <| Gf rfl rfl rfl rfl <| Gf rfl rfl rfl rfl <| Gf rfl rfl rfl rfl <| Gf rfl rfl rfl rfl <| V rfl (y_pick (b := false) rfl rfl) <| V rfl (y_as rfl) <| go rfl <| t_ret ?_
           refine tx_end rfl (ret (res1 rfl (rv_t rfl)) fun hI => ⟨?_, rfl⟩)
           grind [oneB]
         ·
          try have hxh18 := part_ext h18
          try have hyh18 := part_ne h18
          try have hwh18 := within_le h18
          refine sr <| V rfl (y_eq rfl rfl) <| V rfl (y_as rfl) <| go rfl ?_
          refine If rfl (fun h20 => ?_) (fun h20 => ?_)
          ·
           try have hxh20 := part_ext h20
           try have hyh20 := part_ne h20
           try have hwh20 := within_le h20
           refine sr <| V rfl (y_mv rfl) <| V rfl (y_mv rfl) ?_
           refine Spl 110 rfl (fun h21 => ?_) (fun h21 => ?_)
           ·
            try have hxh21 := part_ext h21
            try have hyh21 := part_ne h21
            try have hwh21 := within_le h21
            refine Gt rfl rfl <| V rfl (y_fal rfl fo83_2 rfl) <| Gt rfl rfl <| V rfl (y_ld (i := 0) rfl rfl rfl tc3) <| Gt rfl rfl <| V rfl (y_mv rfl) <| Gt rfl rfl <| V rfl (y_sub rfl rfl (by first | omega | (have hz := places_b ‹0 < places p› ‹p.kind = 7›; omega))) <| Gt rfl rfl ?_
            refine Ef (e_call rfl en94 rfl (c_ref11_within _ _ _) ?_)
            refine V rfl (y_pick (b := true) rfl rfl) <| V rfl (y_mv rfl) ?_
            refine Spl 117 rfl (fun h22 => ?_) (fun h22 => ?_)
            ·
             try have hxh22 := part_ext h22
             try have hyh22 := part_ne h22
             try have hwh22 := within_le h22
             refine Gt rfl rfl <| V rfl (y_fal rfl fo83_6 rfl) <| Gt rfl rfl <| V rfl (y_ld (i := 0) rfl rfl rfl tc3) <| Gt rfl rfl ?_
             refine Ef (e_call rfl en94 rfl (c_ref11_within _ _ _) ?_)
             refine V rfl (y_pick (b := true) rfl rfl) <| V rfl (y_as rfl) <| go rfl <| t_ret ?_
             refine tx_end rfl (ret (res1 rfl (rv_t rfl)) fun hI => ⟨?_, rfl⟩)
             grind [oneB]
            ·
             try have hxh22 := part_ext h22
             try have hyh22 := part_ne h22
             try have hwh22 := within_le h22
             refine Gf rfl rfl rfl rfl <| Gf rfl rfl rfl rfl <| Gf rfl rfl rfl rfl <| V rfl (y_pick (b := false) rfl rfl) <| V rfl (y_as rfl) <| go rfl <| t_ret ?_
             refine tx_end rfl (ret (res1 rfl (rv_t rfl)) fun hI => ⟨?_, rfl⟩)
             grind [oneB]
           ·
            try have hxh21 := part_ext h21
            try have hyh21 := part_ne h21
            try have hwh21 := within_le h21
            refine Gf rfl rfl rfl rfl <| Gf rfl rfl rfl rfl <| Gf rfl rfl rfl rfl <| Gf rfl rfl rfl rfl <| Gf rfl rfl rfl rfl <| V rfl (y_pick (b := false) rfl rfl) <| V rfl (y_mv rfl) <| Gf rfl rfl rfl rfl <| Gf rfl rfl rfl rfl <| Gf rfl rfl rfl rfl ?_
            refine V rfl (y_pick (b := false) rfl rfl) <| V rfl (y_as rfl) <| go rfl <| t_ret ?_
            refine tx_end rfl (ret (res1 rfl (rv_t rfl)) fun hI => ⟨?_, rfl⟩)
            grind [oneB]
          ·
           try have hxh20 := part_ext h20
           try have hyh20 := part_ne h20
           try have hwh20 := within_le h20
           refine skipgo rfl <| sr <| V rfl (y_as rfl) <| go rfl <| t_ret ?_
           refine tx_end rfl (ret (res1 rfl (rv_t rfl)) fun hI => ⟨?_, rfl⟩)
           grind [oneB]

theorem c_ref11_Memory {I : Imm} (A : Option Addr) (cap : Nat) (l : List Part) (hl : SlI I 7 A (l.map Part.cells)) (hn : l.length ≤ 100000) : PAt Try.prog I 56 [.slice A l.length cap] (.int .i64 (memory l)) := by
 refine pat_of fun L => fn_enter Try.func56 rfl rfl rfl ?_
 refine sr <| V rfl (y_as rfl) <| go rfl <| sr <| V rfl (y_as rfl) <| go rfl <| t_seq <| sr <| V rfl (y_as rfl) <| go rfl ?_
 refine t_block ?_
 refine t_loopG (α := Nat) (fun (k : Nat) => I) (fun (k : Nat) => []) (fun (k : Nat) => [(3, .int .i64 (memory (l.take k))), (4, .int .i64 (k : Int))]) (fun (k : Nat) => k ≤ l.length) (fun (k : Nat) => l.length - k) 0 ?_ ?_ ?_ ?_ ?_
 · omega
 · rfl
 · exact ⟨rfl, rfl, trivial⟩
 · exact trivial
 intro k hinv
 refine t_seq <| sr <| V rfl (y_mv rfl) <| V rfl (y_mv rfl) <| V rfl (y_lens Try.underlying22 rfl) <| V rfl (y_lt rfl rfl) <| go rfl ?_
 refine If rfl (fun h1 => ?_) (fun h1 => ?_)
 ·
  refine skipgo rfl <| t_seq <| t_block <| t_region <| V rfl (y_mv rfl) <| V rfl (y_mv rfl) <| V rfl (y_mv rfl) ?_
  obtain ⟨p, rfl, hc⟩ := hl.at k (by omega)
  refine V rfl (y_ix rfl rfl ix22 (by omega) (by omega)) <| V rfl (y_ldia rfl ta83 rfl hc) ?_
  refine Ef (e_call rfl en93 rfl (c_ref11_Places _) ?_)
  refine V rfl (y_add rfl rfl (by have hb := memory_bd (l.take k); have hp := places_bd l[k]; have ht := List.length_take_le k l; omega)) <| V rfl (y_as rfl) <| go rfl <| t_region <| V rfl (y_mv rfl) <| V rfl (y_add rfl rfl (by have hb := memory_bd (l.take k); have hp := places_bd l[k]; have ht := List.length_take_le k l; omega)) <| V rfl (y_as rfl) <| tl_end ?_
  refine tx_loop rfl (again (k + 1) 0 0 16 ?_ ?_ rfl rfl rfl rfl ?_ ?_ rfl rfl rfl)
  · omega
  · omega
  · exact ⟨by rw [memory_take l k (by omega)]; rfl, rfl, trivial⟩
  · exact trivial
 ·
  refine exitgo rfl <| sr <| V rfl (y_mv rfl) <| V rfl (y_as rfl) <| go rfl <| t_ret ?_
  refine tx_end rfl (ret (res1 rfl (rv_t rfl)) fun hI => ⟨?_, rfl⟩)
  rw [List.take_of_length_le (by omega)]

theorem c_ref11_Right {I : Imm} (A : Option Addr) (cap : Nat) (l : List Part) (hl : SlI I 7 A (l.map Part.cells)) : PAt Try.prog I 32 [.slice A l.length cap] (.int .i64 (rightParts l)) := by
 refine pat_of fun L => fn_enter Try.func32 rfl rfl rfl ?_
 refine sr <| V rfl (y_as rfl) <| go rfl <| t_seq <| sr <| V rfl (y_mv rfl) <| V rfl (y_lens Try.underlying22 rfl) <| V rfl (y_lt rfl rfl) <| V rfl (y_mv rfl) ?_
 refine' Jn 7 11 4 rfl (fun h1 => ?_) (fun h1 => ?_) _ rfl ?_
 rotate_left 2
 ·
  refine Gf rfl rfl rfl rfl <| Gf rfl rfl rfl rfl <| Gf rfl rfl rfl rfl <| V rfl (y_pick (b := true) rfl rfl) <| tl_end ?_
  exact tx_loop rfl (back (rw := []) (sl := [(11, _)]) 0 0 4 rfl rfl rfl ⟨rfl, trivial⟩ trivial rfl rfl)
 ·
  refine Gt rfl rfl <| V rfl (y_mv rfl) <| Gt rfl rfl <| V rfl (y_lens Try.underlying22 rfl) <| Gt rfl rfl <| V rfl (y_gt rfl rfl) <| V rfl (y_pick (b := false) rfl rfl) <| tl_end ?_
  exact tx_loop rfl (back (rw := []) (sl := [(11, _)]) 0 0 4 rfl rfl rfl ⟨rfl, trivial⟩ trivial rfl rfl)
 refine go rfl ?_
 refine If rfl (fun h2 => ?_) (fun h2 => ?_)
 ·
  refine sr <| V rfl (y_as rfl) <| go rfl <| t_ret ?_
  refine tx_end rfl (ret (res1 rfl (rv_t rfl)) fun hI => ⟨?_, rfl⟩)
  first | (rw [allOne_drop l k (by omega)] at hall; grind [rightParts]) | (rw [List.drop_of_length_le (by omega)] at hall; grind [rightParts, allOne]) | grind [rightParts]
 ·
  refine skipgo rfl <| t_seq <| sr <| V rfl (y_as rfl) <| go rfl <| t_block ?_
  refine t_loopG (α := Nat) (fun (k : Nat) => I) (fun (k : Nat) => []) (fun (k : Nat) => [(3, .int .i64 (k : Int))]) (fun (k : Nat) => k ≤ l.length ∧ allOne l 0 = allOne (l.drop k) k) (fun (k : Nat) => l.length - k) 0 ?_ ?_ ?_ ?_ ?_
  · exact ⟨by omega, rfl⟩
  · rfl
  · exact ⟨rfl, trivial⟩
  · exact trivial
  intro k hinv
  obtain ⟨hk, hall⟩ := hinv
  refine t_seq <| sr <| V rfl (y_mv rfl) <| V rfl (y_mv rfl) <| V rfl (y_lens Try.underlying22 rfl) <| V rfl (y_lt rfl rfl) <| go rfl ?_
  refine If rfl (fun h3 => ?_) (fun h3 => ?_)
  ·
   refine skipgo rfl <| t_seq <| t_block <| sr <| V rfl (y_mv rfl) <| V rfl (y_mv rfl) ?_
   obtain ⟨p, rfl, hc⟩ := hl.at k (by omega)
   refine V rfl (y_ix rfl rfl ix22 (by omega) (by omega)) <| V rfl (y_ldia rfl ta83 rfl hc) <| V rfl (y_mv rfl) ?_
   refine Ef (e_call rfl en55 rfl (c_ref11_one _ _ (by omega) (by omega)) ?_)
   refine V rfl (y_not rfl) <| go rfl ?_
   refine If rfl (fun h4 => ?_) (fun h4 => ?_)
   ·
    refine sr <| V rfl (y_as rfl) <| go rfl <| t_ret ?_
    refine tx_end rfl (ret (res1 rfl (rv_t rfl)) fun hI => ⟨?_, rfl⟩)
    first | (rw [allOne_drop l k (by omega)] at hall; grind [rightParts]) | (rw [List.drop_of_length_le (by omega)] at hall; grind [rightParts, allOne]) | grind [rightParts]
   ·
    refine skipgo rfl <| t_region <| V rfl (y_mv rfl) <| V rfl (y_add rfl rfl (by omega)) <| V rfl (y_as rfl) <| tl_end ?_
    refine tx_loop rfl (again (k + 1) 0 0 16 ?_ ?_ rfl rfl rfl rfl ?_ ?_ rfl rfl rfl)
    · omega
    · exact ⟨by omega, by rw [hall, allOne_drop l k (by omega)]; simp_all⟩
    · exact ⟨rfl, trivial⟩
    · exact trivial
  ·
   refine exitgo rfl <| t_seq <| sr <| V rfl (y_mv rfl) ?_
   refine Ef (e_call rfl en56 rfl (c_ref11_Memory _ _ l hl (by omega)) ?_)
   refine V rfl (y_gt rfl rfl) <| go rfl ?_
   refine If rfl (fun h5 => ?_) (fun h5 => ?_)
   ·
    refine sr <| V rfl (y_as rfl) <| go rfl <| t_ret ?_
    refine tx_end rfl (ret (res1 rfl (rv_t rfl)) fun hI => ⟨?_, rfl⟩)
    first | (rw [allOne_drop l k (by omega)] at hall; grind [rightParts]) | (rw [List.drop_of_length_le (by omega)] at hall; grind [rightParts, allOne]) | grind [rightParts]
   ·
    refine skipgo rfl <| sr <| V rfl (y_as rfl) <| go rfl <| t_ret ?_
    refine tx_end rfl (ret (res1 rfl (rv_t rfl)) fun hI => ⟨?_, rfl⟩)
    first | (rw [allOne_drop l k (by omega)] at hall; grind [rightParts]) | (rw [List.drop_of_length_le (by omega)] at hall; grind [rightParts, allOne]) | grind [rightParts]

theorem c_parts_rowOf {I : Imm} (k : Int)  : PAt Try.prog I 86 [.int .u8 k] (.tuple #[.agg #[.int .i64 ((rowOf k).least), .int .i64 ((rowOf k).most), .bool ((rowOf k).a), .bool ((rowOf k).b), .int .i64 ((rowOf k).low), .int .i64 ((rowOf k).high), .bool ((rowOf k).rate), .bool ((rowOf k).limit)], .bool (rowOk k)]) := by
 refine pat_of fun L => fn_enter Try.func86 rfl rfl rfl ?_
 refine sr ?_
 refine Ef (e_alloc 0 rfl Try.zeroValue154 rfl rfl rfl rfl fun b0 => ?_)
 refine V rfl (y_as rfl) <| go rfl <| t_seq <| sr <| V rfl (y_mv rfl) <| go rfl <| t_block <| sr <| V rfl (y_eq rfl rfl) <| V rfl (y_as rfl) ?_
 refine go rfl ?_
 refine If rfl (fun h1 => ?_) (fun h1 => ?_)
 ·
  refine sr <| V rfl (y_build (vs := [_, _, _, _, _, _, _, _]) rfl bp154 rfl) ?_
  refine Ef (e_sta 0 rfl rfl rfl rfl rfl rfl ta154 ?_)
  refine V rfl (y_as rfl) <| go rfl <| t_ret ?_
  refine tx_end rfl (ret (res2 rfl (rv_a (i := 0) rfl rfl ta154 rfl) (rv_t rfl)) fun hI => ⟨?_, rfl⟩)
  first | (simp [rowOf, rowOk, *]; done) | (simp [rowOf, rowOk, *]; omega)
 ·
  refine sr <| V rfl (y_eq rfl rfl) <| V rfl (y_as rfl) <| go rfl ?_
  refine If rfl (fun h2 => ?_) (fun h2 => ?_)
  ·
   refine sr <| V rfl (y_build (vs := [_, _, _, _, _, _, _, _]) rfl bp154 rfl) ?_
   refine Ef (e_sta 0 rfl rfl rfl rfl rfl rfl ta154 ?_)
   refine V rfl (y_as rfl) <| go rfl <| t_ret ?_
   refine tx_end rfl (ret (res2 rfl (rv_a (i := 0) rfl rfl ta154 rfl) (rv_t rfl)) fun hI => ⟨?_, rfl⟩)
   first | (simp [rowOf, rowOk, *]; done) | (simp [rowOf, rowOk, *]; omega)
  ·
   refine sr <| V rfl (y_eq rfl rfl) <| V rfl (y_as rfl) <| go rfl ?_
   refine If rfl (fun h3 => ?_) (fun h3 => ?_)
   ·
    refine sr <| V rfl (y_build (vs := [_, _, _, _, _, _, _, _]) rfl bp154 rfl) ?_
    refine Ef (e_sta 0 rfl rfl rfl rfl rfl rfl ta154 ?_)
    refine V rfl (y_as rfl) <| go rfl <| t_ret ?_
    refine tx_end rfl (ret (res2 rfl (rv_a (i := 0) rfl rfl ta154 rfl) (rv_t rfl)) fun hI => ⟨?_, rfl⟩)
    first | (simp [rowOf, rowOk, *]; done) | (simp [rowOf, rowOk, *]; omega)
   ·
    refine sr <| V rfl (y_eq rfl rfl) <| V rfl (y_as rfl) <| go rfl ?_
    refine If rfl (fun h4 => ?_) (fun h4 => ?_)
    ·
     refine sr <| V rfl (y_build (vs := [_, _, _, _, _, _, _, _]) rfl bp154 rfl) ?_
     refine Ef (e_sta 0 rfl rfl rfl rfl rfl rfl ta154 ?_)
     refine V rfl (y_as rfl) <| go rfl <| t_ret ?_
     refine tx_end rfl (ret (res2 rfl (rv_a (i := 0) rfl rfl ta154 rfl) (rv_t rfl)) fun hI => ⟨?_, rfl⟩)
     first | (simp [rowOf, rowOk, *]; done) | (simp [rowOf, rowOk, *]; omega)
    ·
     refine sr <| V rfl (y_eq rfl rfl) <| V rfl (y_as rfl) <| go rfl ?_
     refine If rfl (fun h5 => ?_) (fun h5 => ?_)
     ·
      refine sr <| V rfl (y_build (vs := [_, _, _, _, _, _, _, _]) rfl bp154 rfl) ?_
      refine Ef (e_sta 0 rfl rfl rfl rfl rfl rfl ta154 ?_)
      refine V rfl (y_as rfl) <| go rfl <| t_ret ?_
      refine tx_end rfl (ret (res2 rfl (rv_a (i := 0) rfl rfl ta154 rfl) (rv_t rfl)) fun hI => ⟨?_, rfl⟩)
      first | (simp [rowOf, rowOk, *]; done) | (simp [rowOf, rowOk, *]; omega)
     ·
      refine sr <| V rfl (y_eq rfl rfl) <| V rfl (y_as rfl) <| go rfl ?_
      refine If rfl (fun h6 => ?_) (fun h6 => ?_)
      ·
       refine sr <| V rfl (y_build (vs := [_, _, _, _, _, _, _, _]) rfl bp154 rfl) ?_
       refine Ef (e_sta 0 rfl rfl rfl rfl rfl rfl ta154 ?_)
       refine V rfl (y_as rfl) <| go rfl <| t_ret ?_
       refine tx_end rfl (ret (res2 rfl (rv_a (i := 0) rfl rfl ta154 rfl) (rv_t rfl)) fun hI => ⟨?_, rfl⟩)
       first | (simp [rowOf, rowOk, *]; done) | (simp [rowOf, rowOk, *]; omega)
      ·
       refine sr <| V rfl (y_eq rfl rfl) <| V rfl (y_as rfl) <| go rfl ?_
       refine If rfl (fun h7 => ?_) (fun h7 => ?_)
       ·
        refine sr <| V rfl (y_build (vs := [_, _, _, _, _, _, _, _]) rfl bp154 rfl) ?_
        refine Ef (e_sta 0 rfl rfl rfl rfl rfl rfl ta154 ?_)
        refine V rfl (y_as rfl) <| go rfl <| t_ret ?_
        refine tx_end rfl (ret (res2 rfl (rv_a (i := 0) rfl rfl ta154 rfl) (rv_t rfl)) fun hI => ⟨?_, rfl⟩)
        first | (simp [rowOf, rowOk, *]; done) | (simp [rowOf, rowOk, *]; omega)
       ·
        refine sr <| V rfl (y_eq rfl rfl) <| V rfl (y_as rfl) <| go rfl ?_
        refine If rfl (fun h8 => ?_) (fun h8 => ?_)
        ·
         refine sr <| V rfl (y_build (vs := [_, _, _, _, _, _, _, _]) rfl bp154 rfl) ?_
         refine Ef (e_sta 0 rfl rfl rfl rfl rfl rfl ta154 ?_)
         refine V rfl (y_as rfl) <| go rfl <| t_ret ?_
         refine tx_end rfl (ret (res2 rfl (rv_a (i := 0) rfl rfl ta154 rfl) (rv_t rfl)) fun hI => ⟨?_, rfl⟩)
         first | (simp [rowOf, rowOk, *]; done) | (simp [rowOf, rowOk, *]; omega)
        ·
         refine sr <| V rfl (y_eq rfl rfl) <| V rfl (y_as rfl) <| go rfl ?_
         refine If rfl (fun h9 => ?_) (fun h9 => ?_)
         ·
          refine sr <| V rfl (y_build (vs := [_, _, _, _, _, _, _, _]) rfl bp154 rfl) ?_
          refine Ef (e_sta 0 rfl rfl rfl rfl rfl rfl ta154 ?_)
          refine V rfl (y_as rfl) <| go rfl <| t_ret ?_
          refine tx_end rfl (ret (res2 rfl (rv_a (i := 0) rfl rfl ta154 rfl) (rv_t rfl)) fun hI => ⟨?_, rfl⟩)
          first | (simp [rowOf, rowOk, *]; done) | (simp [rowOf, rowOk, *]; omega)
         ·
          refine skipgo rfl <| sr <| V rfl (y_build (vs := [_, _, _, _, _, _, _, _]) rfl bp154 rfl) ?_
          refine Ef (e_sta 0 rfl rfl rfl rfl rfl rfl ta154 ?_)
          refine V rfl (y_as rfl) <| go rfl <| t_ret ?_
          refine tx_end rfl (ret (res2 rfl (rv_a (i := 0) rfl rfl ta154 rfl) (rv_t rfl)) fun hI => ⟨?_, rfl⟩)
          first | (simp [rowOf, rowOk, *]; done) | (simp [rowOf, rowOk, *]; omega)

theorem c_parts_right_1 {I : Imm} (n low high : Int) (b : Bool)  : PAt Try.prog I 87 [.int .i64 n, .int .i64 low, .int .i64 high, .bool b] (.bool (inR n low high b)) := by
 refine pat_of fun L => fn_enter Try.func87 rfl rfl rfl ?_
 refine sr <| V rfl (y_as rfl) <| go rfl <| t_seq <| sr <| V rfl (y_mv rfl) <| V rfl (y_not rfl) <| go rfl ?_
 refine If rfl (fun h1 => ?_) (fun h1 => ?_)
 ·
  refine t_region <| V rfl (y_as rfl) <| V rfl (y_as rfl) <| go rfl <| sr <| V rfl (y_mv rfl) <| V rfl (y_mv rfl) <| V rfl (y_ge rfl rfl) <| V rfl (y_mv rfl) ?_
  refine' Jn 14 18 4 rfl (fun h2 => ?_) (fun h2 => ?_) _ rfl ?_
  rotate_left 2
  ·
   refine Gt rfl rfl <| V rfl (y_mv rfl) <| Gt rfl rfl <| V rfl (y_mv rfl) <| Gt rfl rfl <| V rfl (y_le rfl rfl) <| V rfl (y_pick (b := true) rfl rfl) <| tl_end ?_
   exact tx_loop rfl (back (rw := []) (sl := [(18, _)]) 0 0 4 rfl rfl rfl ⟨rfl, trivial⟩ trivial rfl rfl)
  ·
   refine Gf rfl rfl rfl rfl <| Gf rfl rfl rfl rfl <| Gf rfl rfl rfl rfl <| V rfl (y_pick (b := false) rfl rfl) <| tl_end ?_
   exact tx_loop rfl (back (rw := []) (sl := [(18, _)]) 0 0 4 rfl rfl rfl ⟨rfl, trivial⟩ trivial rfl rfl)
  refine V rfl (y_as rfl) <| go rfl <| t_ret ?_
  refine tx_end rfl (ret (res1 rfl (rv_t rfl)) fun hI => ⟨?_, rfl⟩)
  grind [inR]
 ·
  refine skipgo rfl <| sr <| V rfl (y_mv rfl) <| V rfl (y_mv rfl) <| V rfl (y_ge rfl rfl) <| V rfl (y_mv rfl) ?_
  refine' Jn 14 18 4 rfl (fun h3 => ?_) (fun h3 => ?_) _ rfl ?_
  rotate_left 2
  ·
   refine Gt rfl rfl <| V rfl (y_mv rfl) <| Gt rfl rfl <| V rfl (y_mv rfl) <| Gt rfl rfl <| V rfl (y_le rfl rfl) <| V rfl (y_pick (b := true) rfl rfl) <| tl_end ?_
   exact tx_loop rfl (back (rw := []) (sl := [(18, _)]) 0 0 4 rfl rfl rfl ⟨rfl, trivial⟩ trivial rfl rfl)
  ·
   refine Gf rfl rfl rfl rfl <| Gf rfl rfl rfl rfl <| Gf rfl rfl rfl rfl <| V rfl (y_pick (b := false) rfl rfl) <| tl_end ?_
   exact tx_loop rfl (back (rw := []) (sl := [(18, _)]) 0 0 4 rfl rfl rfl ⟨rfl, trivial⟩ trivial rfl rfl)
  refine V rfl (y_as rfl) <| go rfl <| t_ret ?_
  refine tx_end rfl (ret (res1 rfl (rv_t rfl)) fun hI => ⟨?_, rfl⟩)
  grind [inR]

theorem c_parts_right {I : Imm} (p : Part) (i : Int) (hi0 : 0 ≤ i) (hi1 : i ≤ 100000) : PAt Try.prog I 52 [.agg #[.int .u8 p.kind, .int .i64 p.size, .int .i64 p.a, .int .i64 p.b, .int .i64 p.c, .int .i64 p.rate, .int .i64 p.limit], .int .i64 i] (.bool (rightB p i)) := by
 refine pat_of fun L => fn_enter Try.func52 rfl rfl rfl ?_
 refine sr ?_
 refine Ef (e_box 0 rfl rfl rfl rfl rfl rfl fun b0 => ?_)
 refine V rfl (y_as rfl) <| go rfl <| sr <| V rfl (y_fal rfl fo83_0 rfl) <| V rfl (y_ld (i := 0) rfl rfl rfl tc81) ?_
 refine Ef (e_call rfl en86 rfl (c_parts_rowOf _) ?_)
 refine V rfl (y_mv rfl) <| V rfl (y_ext rfl rfl) <| V rfl (y_ext rfl rfl) ?_
 refine Ef (e_alloc 1 rfl Try.zeroValue154 rfl rfl rfl rfl fun b1 => ?_)
 refine Ef (e_sta 1 rfl rfl rfl rfl rfl rfl ta154 ?_)
 refine V rfl (y_as rfl) <| go rfl <| sr <| V rfl (y_as rfl) <| go rfl <| t_seq <| sr <| V rfl (y_mv rfl) <| V rfl (y_not rfl) <| V rfl (y_mv rfl) ?_
 refine Spl 16 rfl (fun h1 => ?_) (fun h1 => ?_)
 ·
  try have hxh1 := part_ext h1
  try have hyh1 := part_ne h1
  try have hwh1 := inR_le h1
  refine Gf rfl rfl rfl rfl <| Gf rfl rfl rfl rfl <| Gf rfl rfl rfl rfl <| Gf rfl rfl rfl rfl <| Gf rfl rfl rfl rfl <| Gf rfl rfl rfl rfl <| Gf rfl rfl rfl rfl <| Gf rfl rfl rfl rfl <| Gf rfl rfl rfl rfl <| Gf rfl rfl rfl rfl ?_
  refine Gf rfl rfl rfl rfl <| Gf rfl rfl rfl rfl <| V rfl (y_pick (b := true) rfl rfl) <| V rfl (y_mv rfl) <| Gf rfl rfl rfl rfl <| Gf rfl rfl rfl rfl <| Gf rfl rfl rfl rfl <| Gf rfl rfl rfl rfl <| Gf rfl rfl rfl rfl <| Gf rfl rfl rfl rfl ?_
  refine Gf rfl rfl rfl rfl <| Gf rfl rfl rfl rfl <| Gf rfl rfl rfl rfl <| Gf rfl rfl rfl rfl <| Gf rfl rfl rfl rfl <| Gf rfl rfl rfl rfl <| V rfl (y_pick (b := true) rfl rfl) <| V rfl (y_mv rfl) <| Gf rfl rfl rfl rfl <| Gf rfl rfl rfl rfl ?_
  refine Gf rfl rfl rfl rfl <| Gf rfl rfl rfl rfl <| Gf rfl rfl rfl rfl <| Gf rfl rfl rfl rfl <| Gf rfl rfl rfl rfl <| V rfl (y_pick (b := true) rfl rfl) <| V rfl (y_mv rfl) <| Gf rfl rfl rfl rfl <| Gf rfl rfl rfl rfl <| Gf rfl rfl rfl rfl ?_
  refine Gf rfl rfl rfl rfl <| Gf rfl rfl rfl rfl <| Gf rfl rfl rfl rfl <| Gf rfl rfl rfl rfl <| V rfl (y_pick (b := true) rfl rfl) <| V rfl (y_mv rfl) <| Gf rfl rfl rfl rfl <| Gf rfl rfl rfl rfl <| Gf rfl rfl rfl rfl <| Gf rfl rfl rfl rfl ?_
  refine Gf rfl rfl rfl rfl <| Gf rfl rfl rfl rfl <| Gf rfl rfl rfl rfl <| Gf rfl rfl rfl rfl <| Gf rfl rfl rfl rfl <| V rfl (y_pick (b := true) rfl rfl) <| go rfl <| t_ift rfl <| sr <| V rfl (y_as rfl) ?_
  refine go rfl <| t_ret ?_
  refine tx_end rfl (ret (res1 rfl (rv_t rfl)) fun hI => ⟨?_, rfl⟩)
  first | grind [rightB] | (rw [part_zero]; grind [rightB])
 ·
  try have hxh1 := part_ext h1
  try have hyh1 := part_ne h1
  try have hwh1 := inR_le h1
  refine Gt rfl rfl <| V rfl (y_mv rfl) <| Gt rfl rfl <| V rfl (y_fal rfl fo83_1 rfl) <| Gt rfl rfl <| V rfl (y_ld (i := 0) rfl rfl rfl tc3) <| Gt rfl rfl <| V rfl (y_fal rfl fo154_0 rfl) <| Gt rfl rfl <| V rfl (y_ld (i := 1) rfl rfl rfl tc3) ?_
  refine Gt rfl rfl <| V rfl (y_fal rfl fo154_1 rfl) <| Gt rfl rfl <| V rfl (y_ld (i := 1) rfl rfl rfl tc3) <| Gt rfl rfl <| V rfl (y_fal rfl fo154_1 rfl) <| Gt rfl rfl <| V rfl (y_ld (i := 1) rfl rfl rfl tc3) <| Gt rfl rfl <| V rfl (y_ge rfl rfl) ?_
  refine Gt rfl rfl ?_
  refine Ef (e_callv rfl rfl en87 rfl (c_parts_right_1 _ _ _ _) ?_)
  refine Gt rfl rfl <| V rfl (y_not rfl) <| V rfl (y_pick (b := false) rfl rfl) <| V rfl (y_mv rfl) ?_
  refine Spl 30 rfl (fun h2 => ?_) (fun h2 => ?_)
  ·
   try have hxh2 := part_ext h2
   try have hyh2 := part_ne h2
   try have hwh2 := inR_le h2
   refine Gf rfl rfl rfl rfl <| Gf rfl rfl rfl rfl <| Gf rfl rfl rfl rfl <| Gf rfl rfl rfl rfl <| Gf rfl rfl rfl rfl <| Gf rfl rfl rfl rfl <| Gf rfl rfl rfl rfl <| Gf rfl rfl rfl rfl <| Gf rfl rfl rfl rfl <| Gf rfl rfl rfl rfl ?_
   refine Gf rfl rfl rfl rfl <| Gf rfl rfl rfl rfl <| V rfl (y_pick (b := true) rfl rfl) <| V rfl (y_mv rfl) <| Gf rfl rfl rfl rfl <| Gf rfl rfl rfl rfl <| Gf rfl rfl rfl rfl <| Gf rfl rfl rfl rfl <| Gf rfl rfl rfl rfl <| Gf rfl rfl rfl rfl ?_
   refine Gf rfl rfl rfl rfl <| V rfl (y_pick (b := true) rfl rfl) <| V rfl (y_mv rfl) <| Gf rfl rfl rfl rfl <| Gf rfl rfl rfl rfl <| Gf rfl rfl rfl rfl <| Gf rfl rfl rfl rfl <| Gf rfl rfl rfl rfl <| Gf rfl rfl rfl rfl <| Gf rfl rfl rfl rfl ?_
   refine V rfl (y_pick (b := true) rfl rfl) <| V rfl (y_mv rfl) <| Gf rfl rfl rfl rfl <| Gf rfl rfl rfl rfl <| Gf rfl rfl rfl rfl <| Gf rfl rfl rfl rfl <| Gf rfl rfl rfl rfl <| Gf rfl rfl rfl rfl <| Gf rfl rfl rfl rfl <| Gf rfl rfl rfl rfl ?_
   refine Gf rfl rfl rfl rfl <| V rfl (y_pick (b := true) rfl rfl) <| go rfl <| t_ift rfl <| sr <| V rfl (y_as rfl) <| go rfl <| t_ret ?_
   refine tx_end rfl (ret (res1 rfl (rv_t rfl)) fun hI => ⟨?_, rfl⟩)
   first | grind [rightB] | (rw [part_zero]; grind [rightB])
  ·
   try have hxh2 := part_ext h2
   try have hyh2 := part_ne h2
   try have hwh2 := inR_le h2
   refine Gt rfl rfl <| V rfl (y_mv rfl) <| Gt rfl rfl <| V rfl (y_fal rfl fo83_4 rfl) <| Gt rfl rfl <| V rfl (y_ld (i := 0) rfl rfl rfl tc3) <| Gt rfl rfl <| V rfl (y_fal rfl fo154_4 rfl) <| Gt rfl rfl <| V rfl (y_ld (i := 1) rfl rfl rfl tc3) ?_
   refine Gt rfl rfl <| V rfl (y_fal rfl fo154_5 rfl) <| Gt rfl rfl <| V rfl (y_ld (i := 1) rfl rfl rfl tc3) <| Gt rfl rfl <| V rfl (y_fal rfl fo154_5 rfl) <| Gt rfl rfl <| V rfl (y_ld (i := 1) rfl rfl rfl tc3) <| Gt rfl rfl <| V rfl (y_gt rfl rfl) ?_
   refine Gt rfl rfl ?_
   refine Ef (e_callv rfl rfl en87 rfl (c_parts_right_1 _ _ _ _) ?_)
   refine Gt rfl rfl <| V rfl (y_not rfl) <| V rfl (y_pick (b := false) rfl rfl) <| V rfl (y_mv rfl) ?_
   refine Spl 44 rfl (fun h3 => ?_) (fun h3 => ?_)
   ·
    try have hxh3 := part_ext h3
    try have hyh3 := part_ne h3
    try have hwh3 := inR_le h3
    refine Gf rfl rfl rfl rfl <| Gf rfl rfl rfl rfl <| Gf rfl rfl rfl rfl <| Gf rfl rfl rfl rfl <| Gf rfl rfl rfl rfl <| Gf rfl rfl rfl rfl <| Gf rfl rfl rfl rfl <| V rfl (y_pick (b := true) rfl rfl) <| V rfl (y_mv rfl) <| Gf rfl rfl rfl rfl ?_
    refine Gf rfl rfl rfl rfl <| Gf rfl rfl rfl rfl <| Gf rfl rfl rfl rfl <| Gf rfl rfl rfl rfl <| Gf rfl rfl rfl rfl <| Gf rfl rfl rfl rfl <| V rfl (y_pick (b := true) rfl rfl) <| V rfl (y_mv rfl) <| Gf rfl rfl rfl rfl <| Gf rfl rfl rfl rfl ?_
    refine Gf rfl rfl rfl rfl <| Gf rfl rfl rfl rfl <| Gf rfl rfl rfl rfl <| Gf rfl rfl rfl rfl <| Gf rfl rfl rfl rfl <| Gf rfl rfl rfl rfl <| Gf rfl rfl rfl rfl <| V rfl (y_pick (b := true) rfl rfl) <| go rfl <| t_ift rfl ?_
    refine sr <| V rfl (y_as rfl) <| go rfl <| t_ret ?_
    refine tx_end rfl (ret (res1 rfl (rv_t rfl)) fun hI => ⟨?_, rfl⟩)
    first | grind [rightB] | (rw [part_zero]; grind [rightB])
   ·
    try have hxh3 := part_ext h3
    try have hyh3 := part_ne h3
    try have hwh3 := inR_le h3
    refine Gt rfl rfl <| V rfl (y_mv rfl) <| Gt rfl rfl <| V rfl (y_fal rfl fo83_5 rfl) <| Gt rfl rfl <| V rfl (y_ld (i := 0) rfl rfl rfl tc3) <| Gt rfl rfl <| V rfl (y_fal rfl fo154_6 rfl) <| Gt rfl rfl <| V rfl (y_ld (i := 1) rfl rfl rfl tc4) ?_
    refine Gt rfl rfl ?_
    refine Ef (e_callv rfl rfl en87 rfl (c_parts_right_1 _ _ _ _) ?_)
    refine Gt rfl rfl <| V rfl (y_not rfl) <| V rfl (y_pick (b := false) rfl rfl) <| V rfl (y_mv rfl) ?_
    refine Spl 53 rfl (fun h4 => ?_) (fun h4 => ?_)
    ·
     try have hxh4 := part_ext h4
     try have hyh4 := part_ne h4
     try have hwh4 := inR_le h4
     refine Gf rfl rfl rfl rfl <| Gf rfl rfl rfl rfl <| Gf rfl rfl rfl rfl <| Gf rfl rfl rfl rfl <| Gf rfl rfl rfl rfl <| Gf rfl rfl rfl rfl <| Gf rfl rfl rfl rfl <| V rfl (y_pick (b := true) rfl rfl) <| V rfl (y_mv rfl) <| Gf rfl rfl rfl rfl ?_
     refine Gf rfl rfl rfl rfl <| Gf rfl rfl rfl rfl <| Gf rfl rfl rfl rfl <| Gf rfl rfl rfl rfl <| Gf rfl rfl rfl rfl <| Gf rfl rfl rfl rfl <| Gf rfl rfl rfl rfl <| Gf rfl rfl rfl rfl <| V rfl (y_pick (b := true) rfl rfl) <| go rfl ?_
     refine t_ift rfl <| sr <| V rfl (y_as rfl) <| go rfl <| t_ret ?_
     refine tx_end rfl (ret (res1 rfl (rv_t rfl)) fun hI => ⟨?_, rfl⟩)
     first | grind [rightB] | (rw [part_zero]; grind [rightB])
    ·
     try have hxh4 := part_ext h4
     try have hyh4 := part_ne h4
     try have hwh4 := inR_le h4
     refine Gt rfl rfl <| V rfl (y_mv rfl) <| Gt rfl rfl <| V rfl (y_fal rfl fo83_6 rfl) <| Gt rfl rfl <| V rfl (y_ld (i := 0) rfl rfl rfl tc3) <| Gt rfl rfl <| V rfl (y_fal rfl fo154_7 rfl) <| Gt rfl rfl <| V rfl (y_ld (i := 1) rfl rfl rfl tc4) ?_
     refine Gt rfl rfl ?_
     refine Ef (e_callv rfl rfl en87 rfl (c_parts_right_1 _ _ _ _) ?_)
     refine Gt rfl rfl <| V rfl (y_not rfl) <| V rfl (y_pick (b := false) rfl rfl) <| V rfl (y_mv rfl) ?_
     refine Spl 62 rfl (fun h5 => ?_) (fun h5 => ?_)
     ·
      try have hxh5 := part_ext h5
      try have hyh5 := part_ne h5
      try have hwh5 := inR_le h5
      refine Gf rfl rfl rfl rfl <| Gf rfl rfl rfl rfl <| Gf rfl rfl rfl rfl <| Gf rfl rfl rfl rfl <| Gf rfl rfl rfl rfl <| Gf rfl rfl rfl rfl <| Gf rfl rfl rfl rfl <| Gf rfl rfl rfl rfl <| Gf rfl rfl rfl rfl <| V rfl (y_pick (b := true) rfl rfl) ?_
      refine go rfl <| t_ift rfl <| sr <| V rfl (y_as rfl) <| go rfl <| t_ret ?_
      refine tx_end rfl (ret (res1 rfl (rv_t rfl)) fun hI => ⟨?_, rfl⟩)
      first | grind [rightB] | (rw [part_zero]; grind [rightB])
     ·
      try have hxh5 := part_ext h5
      try have hyh5 := part_ne h5
      try have hwh5 := inR_le h5
      refine Gt rfl rfl <| V rfl (y_mv rfl) <| Gt rfl rfl <| V rfl (y_fal rfl fo83_2 rfl) <| Gt rfl rfl <| V rfl (y_ld (i := 0) rfl rfl rfl tc3) <| Gt rfl rfl <| V rfl (y_mv rfl) <| Gt rfl rfl <| V rfl (y_sub rfl rfl (by first | omega | (have hz := inR_le ‹inR p.a _ _ _ = true›; omega))) ?_
      refine Gt rfl rfl <| V rfl (y_fal rfl fo154_2 rfl) <| Gt rfl rfl <| V rfl (y_ld (i := 1) rfl rfl rfl tc4) <| Gt rfl rfl ?_
      refine Ef (e_callv rfl rfl en87 rfl (c_parts_right_1 _ _ _ _) ?_)
      refine Gt rfl rfl <| V rfl (y_not rfl) <| V rfl (y_pick (b := false) rfl rfl) <| go rfl ?_
      refine If rfl (fun h6 => ?_) (fun h6 => ?_)
      ·
       try have hxh6 := part_ext h6
       try have hyh6 := part_ne h6
       try have hwh6 := inR_le h6
       refine sr <| V rfl (y_as rfl) <| go rfl <| t_ret ?_
       refine tx_end rfl (ret (res1 rfl (rv_t rfl)) fun hI => ⟨?_, rfl⟩)
       first | grind [rightB] | (rw [part_zero]; grind [rightB])
      ·
       try have hxh6 := part_ext h6
       try have hyh6 := part_ne h6
       try have hwh6 := inR_le h6
       refine skipgo rfl <| t_seq <| sr <| V rfl (y_fal rfl fo83_0 rfl) <| V rfl (y_ld (i := 0) rfl rfl rfl tc81) <| V rfl (y_eq rfl rfl) <| go rfl ?_
       refine If rfl (fun h7 => ?_) (fun h7 => ?_)
       ·
        try have hxh7 := part_ext h7
        try have hyh7 := part_ne h7
        try have hwh7 := inR_le h7
        refine sr <| V rfl (y_mv rfl) <| V rfl (y_fal rfl fo83_3 rfl) <| V rfl (y_ld (i := 0) rfl rfl rfl tc3) <| V rfl (y_mv rfl) <| V rfl (y_fal rfl fo83_2 rfl) <| V rfl (y_ld (i := 0) rfl rfl rfl tc3) <| V rfl (y_sub rfl rfl (by first | omega | (have hz := inR_le ‹inR p.a _ _ _ = true›; omega))) <| V rfl (y_min rfl rfl) ?_
        refine Ef (e_callv rfl rfl en87 rfl (c_parts_right_1 _ _ _ _) ?_)
        refine V rfl (y_as rfl) <| go rfl <| t_ret ?_
        refine tx_end rfl (ret (res1 rfl (rv_t rfl)) fun hI => ⟨?_, rfl⟩)
        first | grind [rightB] | (rw [part_zero]; grind [rightB])
       ·
        try have hxh7 := part_ext h7
        try have hyh7 := part_ne h7
        try have hwh7 := inR_le h7
        refine skipgo rfl <| sr <| V rfl (y_mv rfl) <| V rfl (y_fal rfl fo83_3 rfl) <| V rfl (y_ld (i := 0) rfl rfl rfl tc3) <| V rfl (y_mv rfl) <| V rfl (y_sub rfl rfl (by first | omega | (have hz := inR_le ‹inR p.a _ _ _ = true›; omega))) <| V rfl (y_fal rfl fo154_3 rfl) <| V rfl (y_ld (i := 1) rfl rfl rfl tc4) ?_
        refine Ef (e_callv rfl rfl en87 rfl (c_parts_right_1 _ _ _ _) ?_)
        refine V rfl (y_mv rfl) ?_
        refine Spl 93 rfl (fun h8 => ?_) (fun h8 => ?_)
        ·
         try have hxh8 := part_ext h8
         try have hyh8 := part_ne h8
         try have hwh8 := inR_le h8
         refine Gt rfl rfl <| V rfl (y_lda (i := 0) rfl rfl ta83 rfl) <| Gt rfl rfl <| V rfl (y_build (vs := [_, _, _, _, _, _, _]) rfl bp83 rfl) <| Gt rfl rfl <| V rfl (y_neqst rfl rfl Try.eqGuardType83 (se83 _ _ _ _ _ _ _ _ _ _ _ _ _ _)) <| V rfl (y_pick (b := true) rfl rfl) <| V rfl (y_as rfl) <| go rfl <| t_ret ?_
         refine tx_end rfl (ret (res1 rfl (rv_t rfl)) fun hI => ⟨?_, rfl⟩)
         first | grind [rightB] | (rw [part_zero]; grind [rightB])
        ·
         try have hxh8 := part_ext h8
         try have hyh8 := part_ne h8
         try have hwh8 := inR_le h8
         refine Gf rfl rfl rfl rfl <| Gf rfl rfl rfl rfl <| Gf rfl rfl rfl rfl <| V rfl (y_pick (b := false) rfl rfl) <| V rfl (y_as rfl) <| go rfl <| t_ret ?_
         refine tx_end rfl (ret (res1 rfl (rv_t rfl)) fun hI => ⟨?_, rfl⟩)
         first | grind [rightB] | (rw [part_zero]; grind [rightB])

theorem c_parts_Places {I : Imm} (p : Part)  : PAt Try.prog I 88 [.agg #[.int .u8 p.kind, .int .i64 p.size, .int .i64 p.a, .int .i64 p.b, .int .i64 p.c, .int .i64 p.rate, .int .i64 p.limit]] (.int .i64 (places p)) := by
 have hr := places_row p
 have hrow := row_bd p.kind
 refine pat_of fun L => fn_enter Try.func88 rfl rfl rfl ?_
 refine sr ?_
 refine Ef (e_box 0 rfl rfl rfl rfl rfl rfl fun b0 => ?_)
 refine V rfl (y_as rfl) <| go rfl <| sr <| V rfl (y_fal rfl fo83_0 rfl) <| V rfl (y_ld (i := 0) rfl rfl rfl tc81) ?_
 refine Ef (e_call rfl en86 rfl (c_parts_rowOf _) ?_)
 refine V rfl (y_mv rfl) <| V rfl (y_ext rfl rfl) <| V rfl (y_ext rfl rfl) ?_
 refine Ef (e_alloc 1 rfl Try.zeroValue154 rfl rfl rfl rfl fun b1 => ?_)
 refine Ef (e_sta 1 rfl rfl rfl rfl rfl rfl ta154 ?_)
 refine V rfl (y_as rfl) <| go rfl <| t_seq <| sr <| V rfl (y_mv rfl) <| V rfl (y_not rfl) <| V rfl (y_mv rfl) ?_
 refine' Jn 14 20 6 rfl (fun h1 => ?_) (fun h1 => ?_) _ rfl ?_
 rotate_left 2
 ·
  refine Gf rfl rfl rfl rfl <| Gf rfl rfl rfl rfl <| Gf rfl rfl rfl rfl <| Gf rfl rfl rfl rfl <| Gf rfl rfl rfl rfl <| V rfl (y_pick (b := true) rfl rfl) <| tl_end ?_
  exact tx_loop rfl (back (rw := []) (sl := [(20, _)]) 0 0 6 rfl rfl rfl ⟨rfl, trivial⟩ trivial rfl rfl)
 ·
  refine Gt rfl rfl <| V rfl (y_fal rfl fo83_1 rfl) <| Gt rfl rfl <| V rfl (y_ld (i := 0) rfl rfl rfl tc3) <| Gt rfl rfl <| V rfl (y_fal rfl fo154_0 rfl) <| Gt rfl rfl <| V rfl (y_ld (i := 1) rfl rfl rfl tc3) <| Gt rfl rfl <| V rfl (y_lt rfl rfl) ?_
  refine V rfl (y_pick (b := false) rfl rfl) <| tl_end ?_
  exact tx_loop rfl (back (rw := []) (sl := [(20, _)]) 0 0 6 rfl rfl rfl ⟨rfl, trivial⟩ trivial rfl rfl)
 refine V rfl (y_mv rfl) ?_
 refine' Jn 21 27 6 rfl (fun h2 => ?_) (fun h2 => ?_) _ rfl ?_
 rotate_left 2
 ·
  refine Gf rfl rfl rfl rfl <| Gf rfl rfl rfl rfl <| Gf rfl rfl rfl rfl <| Gf rfl rfl rfl rfl <| Gf rfl rfl rfl rfl <| V rfl (y_pick (b := true) rfl rfl) <| tl_end ?_
  exact tx_loop rfl (back (rw := []) (sl := [(27, _)]) 0 0 6 rfl rfl rfl ⟨rfl, trivial⟩ trivial rfl rfl)
 ·
  refine Gt rfl rfl <| V rfl (y_fal rfl fo83_1 rfl) <| Gt rfl rfl <| V rfl (y_ld (i := 0) rfl rfl rfl tc3) <| Gt rfl rfl <| V rfl (y_fal rfl fo154_1 rfl) <| Gt rfl rfl <| V rfl (y_ld (i := 1) rfl rfl rfl tc3) <| Gt rfl rfl <| V rfl (y_gt rfl rfl) ?_
  refine V rfl (y_pick (b := false) rfl rfl) <| tl_end ?_
  exact tx_loop rfl (back (rw := []) (sl := [(27, _)]) 0 0 6 rfl rfl rfl ⟨rfl, trivial⟩ trivial rfl rfl)
 refine go rfl ?_
 refine If rfl (fun h3 => ?_) (fun h3 => ?_)
 ·
  refine sr <| V rfl (y_as rfl) <| go rfl <| t_ret ?_
  refine tx_end rfl (ret (res1 rfl (rv_t rfl)) fun hI => ⟨?_, rfl⟩)
  grind
 ·
  refine skipgo rfl <| sr <| V rfl (y_fal rfl fo83_1 rfl) <| V rfl (y_ld (i := 0) rfl rfl rfl tc3) <| V rfl (y_shl rfl rfl (by omega) (by omega) (pow2_two _) (by have hq := pow_le (n := p.size) (by omega); omega)) <| V rfl (y_as rfl) <| go rfl <| t_seq <| sr <| V rfl (y_fal rfl fo83_0 rfl) ?_
  refine V rfl (y_ld (i := 0) rfl rfl rfl tc81) <| go rfl <| t_block <| sr <| V rfl (y_eq rfl rfl) <| V rfl (y_as rfl) <| go rfl ?_
  refine If rfl (fun h4 => ?_) (fun h4 => ?_)
  ·
   refine sr <| V rfl (y_mv rfl) <| V rfl (y_add rfl rfl (by have hq := pow_le (n := p.size) (by omega); first | omega | (have hz := mul_bd (b := p.b) (by omega) (by omega) hq.2 hq.1; have hc := Int.mul_comm p.b (pow2 p.size.toNat); omega))) <| V rfl (y_as rfl) <| go rfl <| t_ret ?_
   refine tx_end rfl (ret (res1 rfl (rv_t rfl)) fun hI => ⟨?_, rfl⟩)
   grind
  ·
   refine sr <| V rfl (y_eq rfl rfl) <| V rfl (y_as rfl) <| go rfl ?_
   refine If rfl (fun h5 => ?_) (fun h5 => ?_)
   ·
    refine sr <| V rfl (y_mv rfl) <| V rfl (y_mul rfl rfl (by have hq := pow_le (n := p.size) (by omega); first | omega | (have hz := mul_bd (b := p.b) (by omega) (by omega) hq.2 hq.1; have hc := Int.mul_comm p.b (pow2 p.size.toNat); omega))) <| V rfl (y_as rfl) <| go rfl <| t_ret ?_
    refine tx_end rfl (ret (res1 rfl (rv_t rfl)) fun hI => ⟨?_, rfl⟩)
    grind
   ·
    refine sr <| V rfl (y_eq rfl rfl) <| V rfl (y_as rfl) <| go rfl ?_
    refine If rfl (fun h6 => ?_) (fun h6 => ?_)
    ·
     refine t_seq <| sr <| V rfl (y_fal rfl fo83_3 rfl) <| V rfl (y_ld (i := 0) rfl rfl rfl tc3) <| V rfl (y_lt rfl rfl) <| V rfl (y_mv rfl) ?_
     refine' Jn 46 50 4 rfl (fun h7 => ?_) (fun h7 => ?_) _ rfl ?_
     rotate_left 2
     ·
      refine Gf rfl rfl rfl rfl <| Gf rfl rfl rfl rfl <| Gf rfl rfl rfl rfl <| V rfl (y_pick (b := true) rfl rfl) <| tl_end ?_
      exact tx_loop rfl (back (rw := []) (sl := [(50, _)]) 0 0 4 rfl rfl rfl ⟨rfl, trivial⟩ trivial rfl rfl)
     ·
      refine Gt rfl rfl <| V rfl (y_fal rfl fo83_3 rfl) <| Gt rfl rfl <| V rfl (y_ld (i := 0) rfl rfl rfl tc3) <| Gt rfl rfl <| V rfl (y_gt rfl rfl) <| V rfl (y_pick (b := false) rfl rfl) <| tl_end ?_
      exact tx_loop rfl (back (rw := []) (sl := [(50, _)]) 0 0 4 rfl rfl rfl ⟨rfl, trivial⟩ trivial rfl rfl)
     refine go rfl ?_
     refine If rfl (fun h8 => ?_) (fun h8 => ?_)
     ·
      refine sr <| V rfl (y_as rfl) <| go rfl <| t_ret ?_
      refine tx_end rfl (ret (res1 rfl (rv_t rfl)) fun hI => ⟨?_, rfl⟩)
      grind
     ·
      refine skipgo rfl <| sr <| V rfl (y_mv rfl) <| V rfl (y_fal rfl fo83_3 rfl) <| V rfl (y_ld (i := 0) rfl rfl rfl tc3) <| V rfl (y_mul rfl rfl (by have hq := pow_le (n := p.size) (by omega); first | omega | (have hz := mul_bd (b := p.b) (by omega) (by omega) hq.2 hq.1; have hc := Int.mul_comm p.b (pow2 p.size.toNat); omega))) <| V rfl (y_as rfl) <| go rfl <| t_ret ?_
      refine tx_end rfl (ret (res1 rfl (rv_t rfl)) fun hI => ⟨?_, rfl⟩)
      grind
    ·
     refine sr <| V rfl (y_eq rfl rfl) <| V rfl (y_as rfl) <| go rfl ?_
     refine If rfl (fun h9 => ?_) (fun h9 => ?_)
     ·
      refine sr <| V rfl (y_mv rfl) <| V rfl (y_add rfl rfl (by have hq := pow_le (n := p.size) (by omega); first | omega | (have hz := mul_bd (b := p.b) (by omega) (by omega) hq.2 hq.1; have hc := Int.mul_comm p.b (pow2 p.size.toNat); omega))) <| V rfl (y_as rfl) <| go rfl <| t_ret ?_
      refine tx_end rfl (ret (res1 rfl (rv_t rfl)) fun hI => ⟨?_, rfl⟩)
      grind
     ·
      refine sr <| V rfl (y_eq rfl rfl) <| V rfl (y_as rfl) <| go rfl ?_
      refine If rfl (fun h10 => ?_) (fun h10 => ?_)
      ·
       refine sr <| V rfl (y_mv rfl) <| V rfl (y_mul rfl rfl (by have hq := pow_le (n := p.size) (by omega); first | omega | (have hz := mul_bd (b := p.b) (by omega) (by omega) hq.2 hq.1; have hc := Int.mul_comm p.b (pow2 p.size.toNat); omega))) <| V rfl (y_as rfl) <| go rfl <| t_ret ?_
       refine tx_end rfl (ret (res1 rfl (rv_t rfl)) fun hI => ⟨?_, rfl⟩)
       grind
      ·
       refine skipgo rfl <| sr <| V rfl (y_mv rfl) <| V rfl (y_as rfl) <| go rfl <| t_ret ?_
       refine tx_end rfl (ret (res1 rfl (rv_t rfl)) fun hI => ⟨?_, rfl⟩)
       grind

theorem c_parts_Memory {I : Imm} (A : Option Addr) (cap : Nat) (l : List Part) (hl : SlI I 7 A (l.map Part.cells)) (hn : l.length ≤ 100000) : PAt Try.prog I 53 [.slice A l.length cap] (.int .i64 (memory l)) := by
 refine pat_of fun L => fn_enter Try.func53 rfl rfl rfl ?_
 refine sr <| V rfl (y_as rfl) <| go rfl <| sr <| V rfl (y_as rfl) <| go rfl <| t_seq <| sr <| V rfl (y_mv rfl) <| V rfl (y_lens Try.underlying22 rfl) ?_
 refine V rfl (y_mv rfl) <| go rfl <| t_block ?_
 refine t_loopG (α := Nat) (fun (k : Nat) => I) (fun (k : Nat) => []) (fun (k : Nat) => [(3, .int .i64 (memory (l.take k))), (8, .int .i64 (k : Int))]) (fun (k : Nat) => k ≤ l.length) (fun (k : Nat) => l.length - k) 0 ?_ ?_ ?_ ?_ ?_
 · omega
 · rfl
 · exact ⟨rfl, rfl, trivial⟩
 · exact trivial
 intro k hinv
 refine sr <| V rfl (y_lt rfl rfl) <| go rfl <| t_seq ?_
 refine If rfl (fun h1 => ?_) (fun h1 => ?_)
 ·
  refine skipgo rfl <| t_seq <| t_block <| sr ?_
  obtain ⟨p, rfl, hc⟩ := hl.at k (by omega)
  refine V rfl (y_ix rfl rfl ix22 (by omega) (by omega)) <| V rfl (y_ldia rfl ta83 rfl hc) ?_
  refine Ef (e_alloc 0 rfl Try.zeroValue83 rfl rfl rfl rfl fun b0 => ?_)
  refine Ef (e_sta 0 rfl rfl rfl rfl rfl rfl ta83 ?_)
  refine go rfl <| t_region <| V rfl (y_mv rfl) <| V rfl (y_lda (i := 0) rfl rfl ta83 rfl) ?_
  refine Ef (e_call rfl en88 rfl (c_parts_Places _) ?_)
  refine V rfl (y_add rfl rfl (by have hb := memory_bd (l.take k); have hp := places_bd l[k]; have ht := List.length_take_le k l; omega)) <| V rfl (y_as rfl) <| go rfl <| t_region <| V rfl (y_add rfl rfl (by have hb := memory_bd (l.take k); have hp := places_bd l[k]; have ht := List.length_take_le k l; omega)) <| V rfl (y_mv rfl) <| tl_end ?_
  refine tx_loop rfl (again (k + 1) 1 2 12 ?_ ?_ rfl rfl rfl rfl ?_ ?_ rfl rfl rfl)
  · omega
  · omega
  · exact ⟨by rw [memory_take l k (by omega)]; rfl, rfl, trivial⟩
  · exact trivial
 ·
  refine exitgo rfl <| sr <| V rfl (y_mv rfl) <| V rfl (y_as rfl) <| go rfl <| t_ret ?_
  refine tx_end rfl (ret (res1 rfl (rv_t rfl)) fun hI => ⟨?_, rfl⟩)
  rw [List.take_of_length_le (by omega)]

theorem c_parts_Right {I : Imm} (A : Option Addr) (cap : Nat) (l : List Part) (hl : SlI I 7 A (l.map Part.cells)) (hkind : ∀ p ∈ l, 0 ≤ p.kind) : PAt Try.prog I 30 [.slice A l.length cap] (.int .i64 (rightParts l)) := by
 have hro := allRight_one l hkind 0
 refine pat_of fun L => fn_enter Try.func30 rfl rfl rfl ?_
 refine sr <| V rfl (y_as rfl) <| go rfl <| t_seq <| sr <| V rfl (y_mv rfl) <| V rfl (y_lens Try.underlying22 rfl) <| V rfl (y_eq rfl rfl) <| V rfl (y_mv rfl) ?_
 refine' Jn 8 12 4 rfl (fun h1 => ?_) (fun h1 => ?_) _ rfl ?_
 rotate_left 2
 ·
  refine Gf rfl rfl rfl rfl <| Gf rfl rfl rfl rfl <| Gf rfl rfl rfl rfl <| V rfl (y_pick (b := true) rfl rfl) <| tl_end ?_
  exact tx_loop rfl (back (rw := []) (sl := [(12, _)]) 0 0 4 rfl rfl rfl ⟨rfl, trivial⟩ trivial rfl rfl)
 ·
  refine Gt rfl rfl <| V rfl (y_mv rfl) <| Gt rfl rfl <| V rfl (y_lens Try.underlying22 rfl) <| Gt rfl rfl <| V rfl (y_gt rfl rfl) <| V rfl (y_pick (b := false) rfl rfl) <| tl_end ?_
  exact tx_loop rfl (back (rw := []) (sl := [(12, _)]) 0 0 4 rfl rfl rfl ⟨rfl, trivial⟩ trivial rfl rfl)
 refine go rfl ?_
 refine If rfl (fun h2 => ?_) (fun h2 => ?_)
 ·
  refine sr <| V rfl (y_as rfl) <| go rfl <| t_ret ?_
  refine tx_end rfl (ret (res1 rfl (rv_t rfl)) fun hI => ⟨?_, rfl⟩)
  first | (rw [allRight_drop l k (by omega)] at hall; grind [rightParts]) | (rw [List.drop_of_length_le (by omega)] at hall; grind [rightParts, allRight]) | grind [rightParts]
 ·
  refine skipgo rfl <| t_seq <| sr <| V rfl (y_mv rfl) <| V rfl (y_lens Try.underlying22 rfl) <| V rfl (y_mv rfl) <| go rfl <| t_block ?_
  refine t_loopG (α := Nat) (fun (k : Nat) => I) (fun (k : Nat) => []) (fun (k : Nat) => [(15, .int .i64 (k : Int))]) (fun (k : Nat) => k ≤ l.length ∧ allRight l 0 = allRight (l.drop k) k) (fun (k : Nat) => l.length - k) 0 ?_ ?_ ?_ ?_ ?_
  · exact ⟨by omega, rfl⟩
  · rfl
  · exact ⟨rfl, trivial⟩
  · exact trivial
  intro k hinv
  obtain ⟨hk, hall⟩ := hinv
  refine sr <| V rfl (y_lt rfl rfl) <| go rfl <| t_seq ?_
  refine If rfl (fun h3 => ?_) (fun h3 => ?_)
  ·
   refine skipgo rfl <| t_seq <| t_block <| sr <| V rfl (y_mv rfl) ?_
   obtain ⟨p, rfl, hc⟩ := hl.at k (by omega)
   refine V rfl (y_ix rfl rfl ix22 (by omega) (by omega)) <| V rfl (y_ldia rfl ta83 rfl hc) ?_
   refine Ef (e_alloc 0 rfl Try.zeroValue83 rfl rfl rfl rfl fun b0 => ?_)
   refine V rfl (y_as rfl) ?_
   refine Ef (e_sta 0 rfl rfl rfl rfl rfl rfl ta83 ?_)
   refine go rfl <| sr <| V rfl (y_lda (i := 0) rfl rfl ta83 rfl) <| V rfl (y_mv rfl) ?_
   refine Ef (e_call rfl en52 rfl (c_parts_right _ _ (by omega) (by omega)) ?_)
   refine V rfl (y_not rfl) <| go rfl ?_
   refine If rfl (fun h4 => ?_) (fun h4 => ?_)
   ·
    refine sr <| V rfl (y_as rfl) <| go rfl <| t_ret ?_
    refine tx_end rfl (ret (res1 rfl (rv_t rfl)) fun hI => ⟨?_, rfl⟩)
    first | (rw [allRight_drop l k (by omega)] at hall; grind [rightParts]) | (rw [List.drop_of_length_le (by omega)] at hall; grind [rightParts, allRight]) | grind [rightParts]
   ·
    refine skipgo rfl <| t_region <| V rfl (y_add rfl rfl (by omega)) <| V rfl (y_mv rfl) <| tl_end ?_
    refine tx_loop rfl (again (k + 1) 1 2 14 ?_ ?_ rfl rfl rfl rfl ?_ ?_ rfl rfl rfl)
    · omega
    · exact ⟨by omega, by rw [hall, allRight_drop l k (by omega)]; simp_all⟩
    · exact ⟨rfl, trivial⟩
    · exact trivial
  ·
   refine exitgo rfl <| t_seq <| sr <| V rfl (y_mv rfl) ?_
   refine Ef (e_call rfl en53 rfl (c_parts_Memory _ _ l hl (by omega)) ?_)
   refine V rfl (y_gt rfl rfl) <| go rfl ?_
   refine If rfl (fun h5 => ?_) (fun h5 => ?_)
   ·
    refine sr <| V rfl (y_as rfl) <| go rfl <| t_ret ?_
    refine tx_end rfl (ret (res1 rfl (rv_t rfl)) fun hI => ⟨?_, rfl⟩)
    first | (rw [allRight_drop l k (by omega)] at hall; grind [rightParts]) | (rw [List.drop_of_length_le (by omega)] at hall; grind [rightParts, allRight]) | grind [rightParts]
   ·
    refine skipgo rfl <| sr <| V rfl (y_as rfl) <| go rfl <| t_ret ?_
    refine tx_end rfl (ret (res1 rfl (rv_t rfl)) fun hI => ⟨?_, rfl⟩)
    first | (rw [allRight_drop l k (by omega)] at hall; grind [rightParts]) | (rw [List.drop_of_length_le (by omega)] at hall; grind [rightParts, allRight]) | grind [rightParts]

end Go.Proofs.Ytngdkgddeobiiaa
