/- A part of the proof that the evaluator in GnC, and the driver in GnZ, answer as the model does; no conditions. -/
import Derived.Test.YtaiahmkpobdafaaGreatDoorGnGc
import Derived.Test.YtaiahmkpobdafaaGreatDoorGnLd
import Derived.Test.YtaiahmkpobdafaaGreatDoorGnGa
import Derived.Test.YtaiahmkpobdafaaGreatDoorGnX
import Derived.Test.YtaiahmkpobdafaaGreatDoorRows
namespace Go.Eng
open Go.RowKit Go.Proofs
theorem s22 (J : Jmp) (to tw tv tq tn tp w : Nat) (tl : List AV) : (compY Tryz.prog 25 (fun _ => none) (finY Tryz.prog [.cell 4 26, .tmp 5] [26, 31]) J [] (bodyC Tryz.f22) (finY Tryz.prog [.cell 4 26, .tmp 5] [26, 31]) []).run RG (setArgs 0 [tmV to tw tv tq tn tp tl, i64 w] noFr) (baseH Tryz.prog) =
  (bi (nbeq (bi (nb (nble 9223372036854775809 (biased 3 w))) 1 0) 0)
    (bi (nbeq (bi (nb (nble (biased 3 w) 9223372036854775872)) 1 0) 1)
      (ansY { tag := 16, p := 0, q := 0, r := 0, s := 0, cs := [(aggV [(i64 0), (i64 0), (u64 0), (stA 0 0), (slP 0 5 [])]), (i64 2)] })
      (bi (nbeq (okN (PureAt Tryz.prog 49 [(aggV [(i64 to), (i64 tw), (u64 tv), (stA tq tn), (slP tp 5 tl)]), (i64 w)] { tag := 16, p := 0, q := 0, r := 0, s := 0, cs := [(aggV [(i64 ((atO (unTm (aggV [(i64 to), (i64 tw), (u64 tv), (stA tq tn), (slP tp 5 tl)])) w).op)), (i64 ((atO (unTm (aggV [(i64 to), (i64 tw), (u64 tv), (stA tq tn), (slP tp 5 tl)])) w).w)), (u64 ((atO (unTm (aggV [(i64 to), (i64 tw), (u64 tv), (stA tq tn), (slP tp 5 tl)])) w).v)), (stA ((atO (unTm (aggV [(i64 to), (i64 tw), (u64 tv), (stA tq tn), (slP tp 5 tl)])) w).nq) ((atO (unTm (aggV [(i64 to), (i64 tw), (u64 tv), (stA tq tn), (slP tp 5 tl)])) w).np)), (slP ((atO (unTm (aggV [(i64 to), (i64 tw), (u64 tv), (stA tq tn), (slP tp 5 tl)])) w).p) 5 (List.map tmA (atO (unTm (aggV [(i64 to), (i64 tw), (u64 tv), (stA tq tn), (slP tp 5 tl)])) w).as))]), { tag := 8, p := bi (atB (unTm (aggV [(i64 to), (i64 tw), (u64 tv), (stA tq tn), (slP tp 5 tl)])) w) 1 0, q := 0, r := 0, s := 0, cs := [] }] })) 1)
        (bi (nbeq (Nat.sub 1 (bi (atB (unTm (aggV [(i64 to), (i64 tw), (u64 tv), (stA tq tn), (slP tp 5 tl)])) w) 1 0)) 1)
          (ansY { tag := 16, p := 0, q := 0, r := 0, s := 0, cs := [(aggV [(i64 0), (i64 0), (u64 0), (stA 0 0), (slP 0 5 [])]), (i64 3)] })
          (ansY { tag := 16, p := 0, q := 0, r := 0, s := 0, cs := [(aggV [(i64 ((atO (unTm (aggV [(i64 to), (i64 tw), (u64 tv), (stA tq tn), (slP tp 5 tl)])) w).op)), (i64 ((atO (unTm (aggV [(i64 to), (i64 tw), (u64 tv), (stA tq tn), (slP tp 5 tl)])) w).w)), (u64 ((atO (unTm (aggV [(i64 to), (i64 tw), (u64 tv), (stA tq tn), (slP tp 5 tl)])) w).v)), (stA ((atO (unTm (aggV [(i64 to), (i64 tw), (u64 tv), (stA tq tn), (slP tp 5 tl)])) w).nq) ((atO (unTm (aggV [(i64 to), (i64 tw), (u64 tv), (stA tq tn), (slP tp 5 tl)])) w).np)), (slP ((atO (unTm (aggV [(i64 to), (i64 tw), (u64 tv), (stA tq tn), (slP tp 5 tl)])) w).p) 5 (List.map tmA (atO (unTm (aggV [(i64 to), (i64 tw), (u64 tv), (stA tq tn), (slP tp 5 tl)])) w).as))]), (i64 0)] }))
        (failR 301)))
    (ansY { tag := 16, p := 0, q := 0, r := 0, s := 0, cs := [(aggV [(i64 0), (i64 0), (u64 0), (stA 0 0), (slP 0 5 [])]), (i64 2)] })) := by kernel_rfl
theorem s24 (J : Jmp) (to tw tv tq tn tp w : Nat) (tl : List AV) : (compY Tryz.prog 18 (fun _ => none) (finY Tryz.prog [.cell 4 26, .tmp 5] [26, 31]) J [] (bodyC Tryz.f24) (finY Tryz.prog [.cell 4 26, .tmp 5] [26, 31]) []).run RG (setArgs 0 [tmV to tw tv tq tn tp tl, i64 w] noFr) (baseH Tryz.prog) =
  (bi (nbeq (bi (nb (nble 9223372036854775809 (biased 3 w))) 1 0) 0)
    (bi (nbeq (bi (nb (nble (biased 3 w) 9223372036854775872)) 1 0) 1)
      (ansY { tag := 16, p := 0, q := 0, r := 0, s := 0, cs := [(aggV [(i64 0), (i64 0), (u64 0), (stA 0 0), (slP 0 5 [])]), (i64 2)] })
      (bi (nbeq (okN (PureAt Tryz.prog 50 [(aggV [(i64 to), (i64 tw), (u64 tv), (stA tq tn), (slP tp 5 tl)]), (i64 w)] { tag := 16, p := 0, q := 0, r := 0, s := 0, cs := [(aggV [(i64 ((atRO (unTm (aggV [(i64 to), (i64 tw), (u64 tv), (stA tq tn), (slP tp 5 tl)])) w).op)), (i64 ((atRO (unTm (aggV [(i64 to), (i64 tw), (u64 tv), (stA tq tn), (slP tp 5 tl)])) w).w)), (u64 ((atRO (unTm (aggV [(i64 to), (i64 tw), (u64 tv), (stA tq tn), (slP tp 5 tl)])) w).v)), (stA ((atRO (unTm (aggV [(i64 to), (i64 tw), (u64 tv), (stA tq tn), (slP tp 5 tl)])) w).nq) ((atRO (unTm (aggV [(i64 to), (i64 tw), (u64 tv), (stA tq tn), (slP tp 5 tl)])) w).np)), (slP ((atRO (unTm (aggV [(i64 to), (i64 tw), (u64 tv), (stA tq tn), (slP tp 5 tl)])) w).p) 5 (List.map tmA (atRO (unTm (aggV [(i64 to), (i64 tw), (u64 tv), (stA tq tn), (slP tp 5 tl)])) w).as))]), (i64 (atRE (unTm (aggV [(i64 to), (i64 tw), (u64 tv), (stA tq tn), (slP tp 5 tl)])) w))] })) 1)
        (ansY { tag := 16, p := 0, q := 0, r := 0, s := 0, cs := [(aggV [(i64 ((atRO (unTm (aggV [(i64 to), (i64 tw), (u64 tv), (stA tq tn), (slP tp 5 tl)])) w).op)), (i64 ((atRO (unTm (aggV [(i64 to), (i64 tw), (u64 tv), (stA tq tn), (slP tp 5 tl)])) w).w)), (u64 ((atRO (unTm (aggV [(i64 to), (i64 tw), (u64 tv), (stA tq tn), (slP tp 5 tl)])) w).v)), (stA ((atRO (unTm (aggV [(i64 to), (i64 tw), (u64 tv), (stA tq tn), (slP tp 5 tl)])) w).nq) ((atRO (unTm (aggV [(i64 to), (i64 tw), (u64 tv), (stA tq tn), (slP tp 5 tl)])) w).np)), (slP ((atRO (unTm (aggV [(i64 to), (i64 tw), (u64 tv), (stA tq tn), (slP tp 5 tl)])) w).p) 5 (List.map tmA (atRO (unTm (aggV [(i64 to), (i64 tw), (u64 tv), (stA tq tn), (slP tp 5 tl)])) w).as))]), (i64 (atRE (unTm (aggV [(i64 to), (i64 tw), (u64 tv), (stA tq tn), (slP tp 5 tl)])) w))] })
        (failR 301)))
    (ansY { tag := 16, p := 0, q := 0, r := 0, s := 0, cs := [(aggV [(i64 0), (i64 0), (u64 0), (stA 0 0), (slP 0 5 [])]), (i64 2)] })) := by kernel_rfl
theorem s6 (J : Jmp) (k ao aw av aq an ap bo bw bv bq bn bp w : Nat) (al bl : List AV) : (compY Tryz.prog 51 (fun _ => none) (finY Tryz.prog [.cell 4 28, .tmp 5] [28, 31]) J [] (bodyC Tryz.f6) (finY Tryz.prog [.cell 4 28, .tmp 5] [28, 31]) []).run RH (setArgs 0 [aggV [i64 k, i64 ao, i64 aw, u64 av, stA aq an, slP ap 5 al, i64 bo, i64 bw, u64 bv, stA bq bn, slP bp 5 bl], i64 w] noFr) (baseH Tryz.prog) =
  (bi (nbeq (bi (nb (nble 9223372036854775809 (biased 3 k))) 1 0) 0)
    (bi (nbeq (bi (nb (nble (biased 3 k) 9223372036854775812)) 1 0) 1)
      (ansY { tag := 16, p := 0, q := 0, r := 0, s := 0, cs := [(aggV [(i64 0), (i64 0), (i64 0), (u64 0), (stA 0 0), (slP 0 5 []), (i64 0), (i64 0), (u64 0), (stA 0 0), (slP 0 5 [])]), (i64 1)] })
      (bi (nbeq (okN (PureAt Tryz.prog 22 [(aggV [(i64 ao), (i64 aw), (u64 av), (stA aq an), (slP ap 5 al)]), (i64 w)] { tag := 16, p := 0, q := 0, r := 0, s := 0, cs := [(aggV [(i64 ((AtO (unTm (aggV [(i64 ao), (i64 aw), (u64 av), (stA aq an), (slP ap 5 al)])) w).op)), (i64 ((AtO (unTm (aggV [(i64 ao), (i64 aw), (u64 av), (stA aq an), (slP ap 5 al)])) w).w)), (u64 ((AtO (unTm (aggV [(i64 ao), (i64 aw), (u64 av), (stA aq an), (slP ap 5 al)])) w).v)), (stA ((AtO (unTm (aggV [(i64 ao), (i64 aw), (u64 av), (stA aq an), (slP ap 5 al)])) w).nq) ((AtO (unTm (aggV [(i64 ao), (i64 aw), (u64 av), (stA aq an), (slP ap 5 al)])) w).np)), (slP ((AtO (unTm (aggV [(i64 ao), (i64 aw), (u64 av), (stA aq an), (slP ap 5 al)])) w).p) 5 (List.map tmA (AtO (unTm (aggV [(i64 ao), (i64 aw), (u64 av), (stA aq an), (slP ap 5 al)])) w).as))]), (i64 (AtE (unTm (aggV [(i64 ao), (i64 aw), (u64 av), (stA aq an), (slP ap 5 al)])) w))] })) 1)
        (bi (nbeq (bi (nb (nbeq (AtE (unTm (aggV [(i64 ao), (i64 aw), (u64 av), (stA aq an), (slP ap 5 al)])) w) 0)) 1 0) 1)
          (ansY { tag := 16, p := 0, q := 0, r := 0, s := 0, cs := [(aggV [(i64 0), (i64 0), (i64 0), (u64 0), (stA 0 0), (slP 0 5 []), (i64 0), (i64 0), (u64 0), (stA 0 0), (slP 0 5 [])]), (i64 (AtE (unTm (aggV [(i64 ao), (i64 aw), (u64 av), (stA aq an), (slP ap 5 al)])) w))] })
          (bi (nbeq (okN (PureAt Tryz.prog 23 [(aggV [(i64 bo), (i64 bw), (u64 bv), (stA bq bn), (slP bp 5 bl)])] (aggV [(i64 ((cpT (unTm (aggV [(i64 bo), (i64 bw), (u64 bv), (stA bq bn), (slP bp 5 bl)]))).op)), (i64 ((cpT (unTm (aggV [(i64 bo), (i64 bw), (u64 bv), (stA bq bn), (slP bp 5 bl)]))).w)), (u64 ((cpT (unTm (aggV [(i64 bo), (i64 bw), (u64 bv), (stA bq bn), (slP bp 5 bl)]))).v)), (stA ((cpT (unTm (aggV [(i64 bo), (i64 bw), (u64 bv), (stA bq bn), (slP bp 5 bl)]))).nq) ((cpT (unTm (aggV [(i64 bo), (i64 bw), (u64 bv), (stA bq bn), (slP bp 5 bl)]))).np)), (slP ((cpT (unTm (aggV [(i64 bo), (i64 bw), (u64 bv), (stA bq bn), (slP bp 5 bl)]))).p) 5 (List.map tmA (cpT (unTm (aggV [(i64 bo), (i64 bw), (u64 bv), (stA bq bn), (slP bp 5 bl)]))).as))]))) 1)
            (bi (nbeq (bi (nb (nbeq k 1)) 1 0) 1)
              (bi (nbeq (okN (PureAt Tryz.prog 22 [(aggV [(i64 bo), (i64 bw), (u64 bv), (stA bq bn), (slP bp 5 bl)]), (i64 w)] { tag := 16, p := 0, q := 0, r := 0, s := 0, cs := [(aggV [(i64 ((AtO (unTm (aggV [(i64 bo), (i64 bw), (u64 bv), (stA bq bn), (slP bp 5 bl)])) w).op)), (i64 ((AtO (unTm (aggV [(i64 bo), (i64 bw), (u64 bv), (stA bq bn), (slP bp 5 bl)])) w).w)), (u64 ((AtO (unTm (aggV [(i64 bo), (i64 bw), (u64 bv), (stA bq bn), (slP bp 5 bl)])) w).v)), (stA ((AtO (unTm (aggV [(i64 bo), (i64 bw), (u64 bv), (stA bq bn), (slP bp 5 bl)])) w).nq) ((AtO (unTm (aggV [(i64 bo), (i64 bw), (u64 bv), (stA bq bn), (slP bp 5 bl)])) w).np)), (slP ((AtO (unTm (aggV [(i64 bo), (i64 bw), (u64 bv), (stA bq bn), (slP bp 5 bl)])) w).p) 5 (List.map tmA (AtO (unTm (aggV [(i64 bo), (i64 bw), (u64 bv), (stA bq bn), (slP bp 5 bl)])) w).as))]), (i64 (AtE (unTm (aggV [(i64 bo), (i64 bw), (u64 bv), (stA bq bn), (slP bp 5 bl)])) w))] })) 1)
                (bi (nbeq (bi (nb (nbeq (AtE (unTm (aggV [(i64 bo), (i64 bw), (u64 bv), (stA bq bn), (slP bp 5 bl)])) w) 0)) 1 0) 1)
                  (ansY { tag := 16, p := 0, q := 0, r := 0, s := 0, cs := [(aggV [(i64 0), (i64 0), (i64 0), (u64 0), (stA 0 0), (slP 0 5 []), (i64 0), (i64 0), (u64 0), (stA 0 0), (slP 0 5 [])]), (i64 (AtE (unTm (aggV [(i64 bo), (i64 bw), (u64 bv), (stA bq bn), (slP bp 5 bl)])) w))] })
                  (ansY { tag := 16, p := 0, q := 0, r := 0, s := 0, cs := [(aggV [(i64 k), (i64 ((AtO (unTm (aggV [(i64 ao), (i64 aw), (u64 av), (stA aq an), (slP ap 5 al)])) w).op)), (i64 ((AtO (unTm (aggV [(i64 ao), (i64 aw), (u64 av), (stA aq an), (slP ap 5 al)])) w).w)), (u64 ((AtO (unTm (aggV [(i64 ao), (i64 aw), (u64 av), (stA aq an), (slP ap 5 al)])) w).v)), (stA ((AtO (unTm (aggV [(i64 ao), (i64 aw), (u64 av), (stA aq an), (slP ap 5 al)])) w).nq) ((AtO (unTm (aggV [(i64 ao), (i64 aw), (u64 av), (stA aq an), (slP ap 5 al)])) w).np)), (slP ((AtO (unTm (aggV [(i64 ao), (i64 aw), (u64 av), (stA aq an), (slP ap 5 al)])) w).p) 5 (List.map tmA (AtO (unTm (aggV [(i64 ao), (i64 aw), (u64 av), (stA aq an), (slP ap 5 al)])) w).as)), (i64 ((AtO (unTm (aggV [(i64 bo), (i64 bw), (u64 bv), (stA bq bn), (slP bp 5 bl)])) w).op)), (i64 ((AtO (unTm (aggV [(i64 bo), (i64 bw), (u64 bv), (stA bq bn), (slP bp 5 bl)])) w).w)), (u64 ((AtO (unTm (aggV [(i64 bo), (i64 bw), (u64 bv), (stA bq bn), (slP bp 5 bl)])) w).v)), (stA ((AtO (unTm (aggV [(i64 bo), (i64 bw), (u64 bv), (stA bq bn), (slP bp 5 bl)])) w).nq) ((AtO (unTm (aggV [(i64 bo), (i64 bw), (u64 bv), (stA bq bn), (slP bp 5 bl)])) w).np)), (slP ((AtO (unTm (aggV [(i64 bo), (i64 bw), (u64 bv), (stA bq bn), (slP bp 5 bl)])) w).p) 5 (List.map tmA (AtO (unTm (aggV [(i64 bo), (i64 bw), (u64 bv), (stA bq bn), (slP bp 5 bl)])) w).as))]), (i64 0)] }))
                (failR 301))
              (ansY { tag := 16, p := 0, q := 0, r := 0, s := 0, cs := [(aggV [(i64 k), (i64 ((AtO (unTm (aggV [(i64 ao), (i64 aw), (u64 av), (stA aq an), (slP ap 5 al)])) w).op)), (i64 ((AtO (unTm (aggV [(i64 ao), (i64 aw), (u64 av), (stA aq an), (slP ap 5 al)])) w).w)), (u64 ((AtO (unTm (aggV [(i64 ao), (i64 aw), (u64 av), (stA aq an), (slP ap 5 al)])) w).v)), (stA ((AtO (unTm (aggV [(i64 ao), (i64 aw), (u64 av), (stA aq an), (slP ap 5 al)])) w).nq) ((AtO (unTm (aggV [(i64 ao), (i64 aw), (u64 av), (stA aq an), (slP ap 5 al)])) w).np)), (slP ((AtO (unTm (aggV [(i64 ao), (i64 aw), (u64 av), (stA aq an), (slP ap 5 al)])) w).p) 5 (List.map tmA (AtO (unTm (aggV [(i64 ao), (i64 aw), (u64 av), (stA aq an), (slP ap 5 al)])) w).as)), (i64 ((cpT (unTm (aggV [(i64 bo), (i64 bw), (u64 bv), (stA bq bn), (slP bp 5 bl)]))).op)), (i64 ((cpT (unTm (aggV [(i64 bo), (i64 bw), (u64 bv), (stA bq bn), (slP bp 5 bl)]))).w)), (u64 ((cpT (unTm (aggV [(i64 bo), (i64 bw), (u64 bv), (stA bq bn), (slP bp 5 bl)]))).v)), (stA ((cpT (unTm (aggV [(i64 bo), (i64 bw), (u64 bv), (stA bq bn), (slP bp 5 bl)]))).nq) ((cpT (unTm (aggV [(i64 bo), (i64 bw), (u64 bv), (stA bq bn), (slP bp 5 bl)]))).np)), (slP ((cpT (unTm (aggV [(i64 bo), (i64 bw), (u64 bv), (stA bq bn), (slP bp 5 bl)]))).p) 5 (List.map tmA (cpT (unTm (aggV [(i64 bo), (i64 bw), (u64 bv), (stA bq bn), (slP bp 5 bl)]))).as))]), (i64 0)] }))
            (failR 301)))
        (failR 301)))
    (ansY { tag := 16, p := 0, q := 0, r := 0, s := 0, cs := [(aggV [(i64 0), (i64 0), (i64 0), (u64 0), (stA 0 0), (slP 0 5 []), (i64 0), (i64 0), (u64 0), (stA 0 0), (slP 0 5 [])]), (i64 1)] })) := by kernel_rfl
theorem s7 (J : Jmp) (k ao aw av aq an ap bo bw bv bq bn bp w : Nat) (al bl : List AV) : (compY Tryz.prog 54 (fun _ => none) (finY Tryz.prog [.cell 4 28, .tmp 5] [28, 31]) J [] (bodyC Tryz.f7) (finY Tryz.prog [.cell 4 28, .tmp 5] [28, 31]) []).run RH (setArgs 0 [aggV [i64 k, i64 ao, i64 aw, u64 av, stA aq an, slP ap 5 al, i64 bo, i64 bw, u64 bv, stA bq bn, slP bp 5 bl], i64 w] noFr) (baseH Tryz.prog) =
  (bi (nbeq (bi (nb (nble 9223372036854775809 (biased 3 k))) 1 0) 0)
    (bi (nbeq (bi (nb (nble (biased 3 k) 9223372036854775812)) 1 0) 1)
      (ansY { tag := 16, p := 0, q := 0, r := 0, s := 0, cs := [(aggV [(i64 0), (i64 0), (i64 0), (u64 0), (stA 0 0), (slP 0 5 []), (i64 0), (i64 0), (u64 0), (stA 0 0), (slP 0 5 [])]), (i64 1)] })
      (bi (nbeq (okN (PureAt Tryz.prog 24 [(aggV [(i64 ao), (i64 aw), (u64 av), (stA aq an), (slP ap 5 al)]), (i64 w)] { tag := 16, p := 0, q := 0, r := 0, s := 0, cs := [(aggV [(i64 ((AtO (unTm (aggV [(i64 ao), (i64 aw), (u64 av), (stA aq an), (slP ap 5 al)])) w).op)), (i64 ((AtO (unTm (aggV [(i64 ao), (i64 aw), (u64 av), (stA aq an), (slP ap 5 al)])) w).w)), (u64 ((AtO (unTm (aggV [(i64 ao), (i64 aw), (u64 av), (stA aq an), (slP ap 5 al)])) w).v)), (stA ((AtO (unTm (aggV [(i64 ao), (i64 aw), (u64 av), (stA aq an), (slP ap 5 al)])) w).nq) ((AtO (unTm (aggV [(i64 ao), (i64 aw), (u64 av), (stA aq an), (slP ap 5 al)])) w).np)), (slP ((AtO (unTm (aggV [(i64 ao), (i64 aw), (u64 av), (stA aq an), (slP ap 5 al)])) w).p) 5 (List.map tmA (AtO (unTm (aggV [(i64 ao), (i64 aw), (u64 av), (stA aq an), (slP ap 5 al)])) w).as))]), (i64 (AtE (unTm (aggV [(i64 ao), (i64 aw), (u64 av), (stA aq an), (slP ap 5 al)])) w))] })) 1)
        (bi (nbeq (bi (nb (nbeq (AtE (unTm (aggV [(i64 ao), (i64 aw), (u64 av), (stA aq an), (slP ap 5 al)])) w) 0)) 1 0) 1)
          (ansY { tag := 16, p := 0, q := 0, r := 0, s := 0, cs := [(aggV [(i64 0), (i64 0), (i64 0), (u64 0), (stA 0 0), (slP 0 5 []), (i64 0), (i64 0), (u64 0), (stA 0 0), (slP 0 5 [])]), (i64 (AtE (unTm (aggV [(i64 ao), (i64 aw), (u64 av), (stA aq an), (slP ap 5 al)])) w))] })
          (bi (nbeq (bi (nbeq k 1) 1 0) 1)
            (ansY { tag := 16, p := 0, q := 0, r := 0, s := 0, cs := [(aggV [(i64 k), (i64 ((AtO (unTm (aggV [(i64 ao), (i64 aw), (u64 av), (stA aq an), (slP ap 5 al)])) w).op)), (i64 ((AtO (unTm (aggV [(i64 ao), (i64 aw), (u64 av), (stA aq an), (slP ap 5 al)])) w).w)), (u64 ((AtO (unTm (aggV [(i64 ao), (i64 aw), (u64 av), (stA aq an), (slP ap 5 al)])) w).v)), (stA ((AtO (unTm (aggV [(i64 ao), (i64 aw), (u64 av), (stA aq an), (slP ap 5 al)])) w).nq) ((AtO (unTm (aggV [(i64 ao), (i64 aw), (u64 av), (stA aq an), (slP ap 5 al)])) w).np)), (slP ((AtO (unTm (aggV [(i64 ao), (i64 aw), (u64 av), (stA aq an), (slP ap 5 al)])) w).p) 5 (List.map tmA (AtO (unTm (aggV [(i64 ao), (i64 aw), (u64 av), (stA aq an), (slP ap 5 al)])) w).as)), (i64 bo), (i64 bw), (u64 bv), (stA bq bn), (slP bp 5 bl)]), (i64 0)] })
            (bi (nbeq (okN (PureAt Tryz.prog 24 [(aggV [(i64 bo), (i64 bw), (u64 bv), (stA bq bn), (slP bp 5 bl)]), (i64 w)] { tag := 16, p := 0, q := 0, r := 0, s := 0, cs := [(aggV [(i64 ((AtO (unTm (aggV [(i64 bo), (i64 bw), (u64 bv), (stA bq bn), (slP bp 5 bl)])) w).op)), (i64 ((AtO (unTm (aggV [(i64 bo), (i64 bw), (u64 bv), (stA bq bn), (slP bp 5 bl)])) w).w)), (u64 ((AtO (unTm (aggV [(i64 bo), (i64 bw), (u64 bv), (stA bq bn), (slP bp 5 bl)])) w).v)), (stA ((AtO (unTm (aggV [(i64 bo), (i64 bw), (u64 bv), (stA bq bn), (slP bp 5 bl)])) w).nq) ((AtO (unTm (aggV [(i64 bo), (i64 bw), (u64 bv), (stA bq bn), (slP bp 5 bl)])) w).np)), (slP ((AtO (unTm (aggV [(i64 bo), (i64 bw), (u64 bv), (stA bq bn), (slP bp 5 bl)])) w).p) 5 (List.map tmA (AtO (unTm (aggV [(i64 bo), (i64 bw), (u64 bv), (stA bq bn), (slP bp 5 bl)])) w).as))]), (i64 (AtE (unTm (aggV [(i64 bo), (i64 bw), (u64 bv), (stA bq bn), (slP bp 5 bl)])) w))] })) 1)
              (bi (nbeq (bi (nb (nbeq (AtE (unTm (aggV [(i64 bo), (i64 bw), (u64 bv), (stA bq bn), (slP bp 5 bl)])) w) 0)) 1 0) 1)
                (ansY { tag := 16, p := 0, q := 0, r := 0, s := 0, cs := [(aggV [(i64 0), (i64 0), (i64 0), (u64 0), (stA 0 0), (slP 0 5 []), (i64 0), (i64 0), (u64 0), (stA 0 0), (slP 0 5 [])]), (i64 (AtE (unTm (aggV [(i64 bo), (i64 bw), (u64 bv), (stA bq bn), (slP bp 5 bl)])) w))] })
                (ansY { tag := 16, p := 0, q := 0, r := 0, s := 0, cs := [(aggV [(i64 k), (i64 ((AtO (unTm (aggV [(i64 ao), (i64 aw), (u64 av), (stA aq an), (slP ap 5 al)])) w).op)), (i64 ((AtO (unTm (aggV [(i64 ao), (i64 aw), (u64 av), (stA aq an), (slP ap 5 al)])) w).w)), (u64 ((AtO (unTm (aggV [(i64 ao), (i64 aw), (u64 av), (stA aq an), (slP ap 5 al)])) w).v)), (stA ((AtO (unTm (aggV [(i64 ao), (i64 aw), (u64 av), (stA aq an), (slP ap 5 al)])) w).nq) ((AtO (unTm (aggV [(i64 ao), (i64 aw), (u64 av), (stA aq an), (slP ap 5 al)])) w).np)), (slP ((AtO (unTm (aggV [(i64 ao), (i64 aw), (u64 av), (stA aq an), (slP ap 5 al)])) w).p) 5 (List.map tmA (AtO (unTm (aggV [(i64 ao), (i64 aw), (u64 av), (stA aq an), (slP ap 5 al)])) w).as)), (i64 ((AtO (unTm (aggV [(i64 bo), (i64 bw), (u64 bv), (stA bq bn), (slP bp 5 bl)])) w).op)), (i64 ((AtO (unTm (aggV [(i64 bo), (i64 bw), (u64 bv), (stA bq bn), (slP bp 5 bl)])) w).w)), (u64 ((AtO (unTm (aggV [(i64 bo), (i64 bw), (u64 bv), (stA bq bn), (slP bp 5 bl)])) w).v)), (stA ((AtO (unTm (aggV [(i64 bo), (i64 bw), (u64 bv), (stA bq bn), (slP bp 5 bl)])) w).nq) ((AtO (unTm (aggV [(i64 bo), (i64 bw), (u64 bv), (stA bq bn), (slP bp 5 bl)])) w).np)), (slP ((AtO (unTm (aggV [(i64 bo), (i64 bw), (u64 bv), (stA bq bn), (slP bp 5 bl)])) w).p) 5 (List.map tmA (AtO (unTm (aggV [(i64 bo), (i64 bw), (u64 bv), (stA bq bn), (slP bp 5 bl)])) w).as))]), (i64 0)] }))
              (failR 301))))
        (failR 301)))
    (ansY { tag := 16, p := 0, q := 0, r := 0, s := 0, cs := [(aggV [(i64 0), (i64 0), (i64 0), (u64 0), (stA 0 0), (slP 0 5 []), (i64 0), (i64 0), (u64 0), (stA 0 0), (slP 0 5 [])]), (i64 1)] })) := by kernel_rfl
theorem body22 : Tryz.f22.body = some (bodyC Tryz.f22) := by kernel_rfl
theorem fn22 : Tryz.prog.funcs[22]? = some Tryz.f22 := by kernel_rfl
theorem nt22 : Tryz.f22.ntmps = 25 := by kernel_rfl
theorem rs22 : Tryz.f22.results.toList = [.cell 4 26, .tmp 5] := by kernel_rfl
theorem body24 : Tryz.f24.body = some (bodyC Tryz.f24) := by kernel_rfl
theorem fn24 : Tryz.prog.funcs[24]? = some Tryz.f24 := by kernel_rfl
theorem nt24 : Tryz.f24.ntmps = 18 := by kernel_rfl
theorem rs24 : Tryz.f24.results.toList = [.cell 4 26, .tmp 5] := by kernel_rfl
theorem body6 : Tryz.f6.body = some (bodyC Tryz.f6) := by kernel_rfl
theorem fn6 : Tryz.prog.funcs[6]? = some Tryz.f6 := by kernel_rfl
theorem nt6 : Tryz.f6.ntmps = 51 := by kernel_rfl
theorem rs6 : Tryz.f6.results.toList = [.cell 4 28, .tmp 5] := by kernel_rfl
theorem body7 : Tryz.f7.body = some (bodyC Tryz.f7) := by kernel_rfl
theorem fn7 : Tryz.prog.funcs[7]? = some Tryz.f7 := by kernel_rfl
theorem nt7 : Tryz.f7.ntmps = 54 := by kernel_rfl
theorem rs7 : Tryz.f7.results.toList = [.cell 4 28, .tmp 5] := by kernel_rfl
theorem pure22 (t : Tm) (w : Nat) (hs : t.Sm 40) (hok : t.ok) (hw : w < 2 ^ 64) : PureAt Tryz.prog 22 [tmA t, i64 w] (tupV [tmA (AtO t w), i64 (AtE t w)]) := by
  have q := okN_one.2 (pure49 40 t hs (by omega) hok w hw)
  simp only [tupV, bV, mk1, mk_ls] at q
  rw [tmA_V t]
  refine pure_fn mixed globs fn22 body22 nt22 rs22 RG_ok (fun _ => none) [26, 31] 0 ((s22 _ t.op t.w t.v t.nq t.np t.p w _).trans ?_)
  simp only [mk_i64, mk_u64, mk_stA, mk_slP, mk_agg, mk_tm, unTm_A, mk_ls, b0, bl_bi, bS, q, n11, bi_tt, bi_ff]
  unfold AtO AtE atRO atRE inW
  cases nble 9223372036854775809 (biased 3 w) <;> cases nble (biased 3 w) 9223372036854775872 <;> cases atB t w <;> first | rfl | (show ansY _ = ansY (tupV [tmA zeroT, _]); rw [← tm_zero]; rfl)
theorem pure24 (t : Tm) (w : Nat) (hs : t.Sm 40) (hok : t.ok) (hw : w < 2 ^ 64) : PureAt Tryz.prog 24 [tmA t, i64 w] (tupV [tmA (AtO t w), i64 (AtE t w)]) := by
  have q := okN_one.2 (pure50 40 t hs (by omega) hok w hw)
  simp only [tupV, bV, mk1, mk_ls] at q
  rw [tmA_V t]
  refine pure_fn mixed globs fn24 body24 nt24 rs24 RG_ok (fun _ => none) [26, 31] 0 ((s24 _ t.op t.w t.v t.nq t.np t.p w _).trans ?_)
  simp only [mk_i64, mk_u64, mk_stA, mk_slP, mk_agg, mk_tm, unTm_A, mk_ls, b0, bl_bi, bS, q, n11, bi_tt, bi_ff]
  unfold AtO AtE inW
  cases nble 9223372036854775809 (biased 3 w) <;> cases nble (biased 3 w) 9223372036854775872 <;> first | rfl | (show ansY _ = ansY (tupV [tmA zeroT, _]); rw [← tm_zero]; rfl)
theorem pure6 (k : Nat) (a b : Tm) (w : Nat) (ha : a.Sm 40) (hb : b.Sm 40) (hoa : a.ok) (hob : b.ok) (hw : w < 2 ^ 64) : PureAt Tryz.prog 6 [gdA k a b, i64 w] (tupV [gdA (gK k a b w) (gAa k a b w) (gBp k a b w), i64 (gE k a b w)]) := by
  have qa := okN_one.2 (pure22 a w ha hoa hw)
  have qb := okN_one.2 (pure22 b w hb hob hw)
  have qc := okN_one.2 (pure23 40 b hb (by omega))
  simp only [tupV, mk_ls] at qa qb
  rw [show gdA k a b = aggV [i64 k, i64 a.op, i64 a.w, u64 a.v, stA a.nq a.np, slP a.p 5 (a.as.map tmA), i64 b.op, i64 b.w, u64 b.v, stA b.nq b.np, slP b.p 5 (b.as.map tmA)] from rfl]
  refine pure_fn mixed globs fn6 body6 nt6 rs6 RH_ok (fun _ => none) [28, 31] 0 ((s6 _ k a.op a.w a.v a.nq a.np a.p b.op b.w b.v b.nq b.np b.p w (a.as.map tmA) (b.as.map tmA)).trans ?_)
  simp only [mk_i64, mk_u64, mk_stA, mk_slP, mk_agg, mk_tm, unTm_A, mk_ls, b0, bl_bi, bS, qa, qb, qc, n11, bi_tt, bi_ff]
  simp only [nbeq_dec]
  have fin0 : ∀ e, gE k a b w = e → e ≠ 0 → ansY (lsD 0 [aggV [i64 0, i64 0, i64 0, u64 0, stA 0 0, slP 0 5 [], i64 0, i64 0, u64 0, stA 0 0, slP 0 5 []], i64 e]) = ansY (tupV [gdA (gK k a b w) (gAa k a b w) (gBp k a b w), i64 (gE k a b w)]) := by
    intro e he h0
    unfold gK gAa gBp
    rw [he, if_neg h0, if_neg h0, if_neg h0]; rfl
  cases h1 : nble 9223372036854775809 (biased 3 k)
  · exact fin0 1 (by unfold gE kindB; rw [h1]; rfl) (by decide)
  cases h2 : nble (biased 3 k) 9223372036854775812
  · exact fin0 1 (by unfold gE kindB; rw [h1, h2]; rfl) (by decide)
  have hk : kindB k = true := by unfold kindB; rw [h1, h2]; rfl
  by_cases h3 : AtE a w = 0
  rotate_left
  · rw [decide_eq_false h3]
    exact fin0 _ (by unfold gE; rw [if_pos hk, if_neg h3]) h3
  rw [decide_eq_true h3]
  by_cases h4 : k = 1
  · rw [decide_eq_true h4]
    have e : gE k a b w = 0 := by unfold gE; rw [if_pos hk, if_pos h3, if_pos h4]
    unfold gK gAa gBp
    rw [e, if_pos rfl, if_pos rfl, if_pos rfl, if_pos h4]; rfl
  rw [decide_eq_false h4]
  by_cases h5 : AtE b w = 0
  · rw [decide_eq_true h5]
    have e : gE k a b w = 0 := by unfold gE; rw [if_pos hk, if_pos h3, if_neg h4, h5]
    unfold gK gAa gBp
    rw [e, if_pos rfl, if_pos rfl, if_pos rfl, if_neg h4]; rfl
  · rw [decide_eq_false h5]
    exact fin0 _ (by unfold gE; rw [if_pos hk, if_pos h3, if_neg h4]) h5
theorem pure7 (k : Nat) (a b : Tm) (w : Nat) (ha : a.Sm 40) (hb : b.Sm 40) (hoa : a.ok) (hob : b.ok) (hw : w < 2 ^ 64) : PureAt Tryz.prog 7 [gdA k a b, i64 w] (tupV [gdA (gK k a b w) (gAa k a b w) (gBr k a b w), i64 (gE k a b w)]) := by
  have qa := okN_one.2 (pure24 a w ha hoa hw)
  have qb := okN_one.2 (pure24 b w hb hob hw)
  simp only [tupV, mk_ls] at qa qb
  rw [show gdA k a b = aggV [i64 k, i64 a.op, i64 a.w, u64 a.v, stA a.nq a.np, slP a.p 5 (a.as.map tmA), i64 b.op, i64 b.w, u64 b.v, stA b.nq b.np, slP b.p 5 (b.as.map tmA)] from rfl]
  refine pure_fn mixed globs fn7 body7 nt7 rs7 RH_ok (fun _ => none) [28, 31] 0 ((s7 _ k a.op a.w a.v a.nq a.np a.p b.op b.w b.v b.nq b.np b.p w (a.as.map tmA) (b.as.map tmA)).trans ?_)
  simp only [mk_i64, mk_u64, mk_stA, mk_slP, mk_agg, mk_tm, unTm_A, mk_ls, b0, bl_bi, bS, qa, qb, n11, bi_tt, bi_ff]
  simp only [nbeq_dec]
  have fin0 : ∀ e, gE k a b w = e → e ≠ 0 → ansY (lsD 0 [aggV [i64 0, i64 0, i64 0, u64 0, stA 0 0, slP 0 5 [], i64 0, i64 0, u64 0, stA 0 0, slP 0 5 []], i64 e]) = ansY (tupV [gdA (gK k a b w) (gAa k a b w) (gBr k a b w), i64 (gE k a b w)]) := by
    intro e he h0
    unfold gK gAa gBr
    rw [he, if_neg h0, if_neg h0, if_neg h0]; rfl
  cases h1 : nble 9223372036854775809 (biased 3 k)
  · exact fin0 1 (by unfold gE kindB; rw [h1]; rfl) (by decide)
  cases h2 : nble (biased 3 k) 9223372036854775812
  · exact fin0 1 (by unfold gE kindB; rw [h1, h2]; rfl) (by decide)
  have hk : kindB k = true := by unfold kindB; rw [h1, h2]; rfl
  by_cases h3 : AtE a w = 0
  rotate_left
  · rw [decide_eq_false h3]
    exact fin0 _ (by unfold gE; rw [if_pos hk, if_neg h3]) h3
  rw [decide_eq_true h3]
  by_cases h4 : k = 1
  · rw [decide_eq_true h4]
    have e : gE k a b w = 0 := by unfold gE; rw [if_pos hk, if_pos h3, if_pos h4]
    unfold gK gAa gBr
    rw [e, if_pos rfl, if_pos rfl, if_pos rfl, if_pos h4]; rfl
  rw [decide_eq_false h4]
  by_cases h5 : AtE b w = 0
  · rw [decide_eq_true h5]
    have e : gE k a b w = 0 := by unfold gE; rw [if_pos hk, if_pos h3, if_neg h4, h5]
    unfold gK gAa gBr
    rw [e, if_pos rfl, if_pos rfl, if_pos rfl, if_neg h4]; rfl
  · rw [decide_eq_false h5]
    exact fin0 _ (by unfold gE; rw [if_pos hk, if_pos h3, if_neg h4]) h5
end Go.Eng
namespace Go.Eng
open Go.RowKit Go.Proofs Go.Proofs.YtaiahmkpobdafaaGreatDoor
noncomputable section
def cellsD (d : DataW Unit) : List AV := (dav 4 d).getD []
def L27 : List (Nat × List AV) := [(2, cellsD Rows.laid_math_bits_deBruijn32tab), (3, cellsD Rows.laid_math_bits_deBruijn64tab), (1, cellsD Rows.laid_internal_strconv_uint64pow10)]
def mg27 (f : Nat) : Bool := bi (nbeq f 81) true (nbeq f 123)
end
theorem eval_lives : isTrueR (evN Tryz.prog (ntL [(1255, add64N)]) mg27 3000 (mk1 13 5) [] (globH Tryz.prog L27)) = true := by kernel_rfl
end Go.Eng
namespace Go.Eng
open Go.RowKit Go.Proofs
/-! the law: its natives -/
noncomputable section
def g6V (x : AV) (w : Nat) : AV := gdA (gK (gk x) (ga x) (gb x) w) (gAa (gk x) (ga x) (gb x) w) (gBp (gk x) (ga x) (gb x) w)
def g7V (x : AV) (w : Nat) : AV := gdA (gK (gk x) (ga x) (gb x) w) (gAa (gk x) (ga x) (gb x) w) (gBr (gk x) (ga x) (gb x) w)
def p6 (i : Nat) (x : AV) (w : Nat) : Nat := (nthL (g6V x w).cs i).p
def q6 (i : Nat) (x : AV) (w : Nat) : Nat := (nthL (g6V x w).cs i).q
def s6c (i : Nat) (x : AV) (w : Nat) : List AV := (nthL (g6V x w).cs i).cs
def p7 (i : Nat) (x : AV) (w : Nat) : Nat := (nthL (g7V x w).cs i).p
def q7 (i : Nat) (x : AV) (w : Nat) : Nat := (nthL (g7V x w).cs i).q
def s7c (i : Nat) (x : AV) (w : Nat) : List AV := (nthL (g7V x w).cs i).cs
def e67 (x : AV) (w : Nat) : Nat := gE (gk x) (ga x) (gb x) w
def v6 (x : AV) (w : Nat) : AV := aggV [i64 (p6 0 x w), i64 (p6 1 x w), i64 (p6 2 x w), u64 (p6 3 x w), stA (q6 4 x w) (p6 4 x w), slP (p6 5 x w) 5 (s6c 5 x w), i64 (p6 6 x w), i64 (p6 7 x w), u64 (p6 8 x w), stA (q6 9 x w) (p6 9 x w), slP (p6 10 x w) 5 (s6c 10 x w)]
def v7 (x : AV) (w : Nat) : AV := aggV [i64 (p7 0 x w), i64 (p7 1 x w), i64 (p7 2 x w), u64 (p7 3 x w), stA (q7 4 x w) (p7 4 x w), slP (p7 5 x w) 5 (s7c 5 x w), i64 (p7 6 x w), i64 (p7 7 x w), u64 (p7 8 x w), stA (q7 9 x w) (p7 9 x w), slP (p7 10 x w) 5 (s7c 10 x w)]
def lt27 (x : AV) : Bool := lightB (ga x) 12 20 && lightB (gb x) 12 20
def t9 (x : AV) : Tm := gTermA (gk x) (ga x) (gb x)
def t10 (x : AV) : Tm := gTermR (gk x) (ga x) (gb x)
def same11 (x y : AV) : Bool := decide (gk x = gk y) && (eqT (ga x) (ga y) && eqT (gb x) (gb y))
def Nt27 : Nat → Option Native := ntL [(5, livesN L27), (4, natP Tryz.prog 4 [28] fun l => bV (lt27 (nthL l 0))), (6, natP Tryz.prog 6 [28, 3] fun l => tupV [v6 (nthL l 0) (nthL l 1).p, i64 (e67 (nthL l 0) (nthL l 1).p)]),
  (7, natP Tryz.prog 7 [28, 3] fun l => tupV [v7 (nthL l 0) (nthL l 1).p, i64 (e67 (nthL l 0) (nthL l 1).p)]), (9, natP Tryz.prog 9 [28] fun l => tmE (t9 (nthL l 0))), (10, natP Tryz.prog 10 [28] fun l => tmE (t10 (nthL l 0))),
  (8, natP Tryz.prog 8 [26, 26] fun l => bV (eqT (unTm (nthL l 0)) (unTm (nthL l 1)))), (11, natP Tryz.prog 11 [28, 28] fun l => bV (same11 (nthL l 0) (nthL l 1)))]
def R27 : Rec := evN Tryz.prog Nt27 (fun _ => false) 2
end
theorem v6_eq (x : AV) (w : Nat) : v6 x w = g6V x w := rfl
theorem v7_eq (x : AV) (w : Nat) : v7 x w = g7V x w := rfl
theorem fn255 : Tryz.prog.funcs[255]? = some Tryz.f255 := by kernel_rfl
theorem ext255 : ExtOk Tryz.prog 255 add64N := add64_ok fn255 (by kernel_rfl) (by kernel_rfl) (by kernel_rfl) (by kernel_rfl)
theorem globs27 : Tryz.prog.globals.size = 4 := by kernel_rfl
theorem L27_lt : ∀ g ∈ L27, g.1 < Tryz.prog.globals.size := by
  have h : (L27.all fun g => nble (Nat.succ g.1) 4) = true := by kernel_rfl
  intro g hg
  rw [globs27]
  exact ble_true.1 (List.all_eq_true.1 h g hg)
theorem L27_low : ∀ g ∈ L27, ∀ c ∈ g.2, c.tag < 10 := by
  have h : (L27.all fun g => g.2.all fun c => nble (Nat.succ c.tag) 10) = true := by kernel_rfl
  intro g hg c hc
  exact ble_true.1 (List.all_eq_true.1 (List.all_eq_true.1 h g hg) c hc)
theorem fn5 : ∃ fn, Tryz.prog.funcs[5]? = some fn ∧ fn.body.isNone = false := ⟨Tryz.f5, by kernel_rfl, by kernel_rfl⟩
theorem R27_ok : RecOk Tryz.prog R27 := evN_ok mixed (ntL_consN (livesN_ok mixed noGor (ntL_consX ext255 ntL_nil) globs L27_lt L27_low fn5 eval_lives) (ntL_cons (ntL_cons (ntL_cons (ntL_cons (ntL_cons (ntL_cons (ntL_cons ntL_nil)))))))) noGor 2
end Go.Eng
namespace Go.Eng
open Go.RowKit Go.Proofs
/-! the plain law: both sides' terms and guards are the same but for what a copy changes -/
theorem len_of_cnt : ∀ (t : Tm) (d n k : Nat), cnt t d n = some k → d ≤ 1000 → n ≤ 1000 → t.Sm d := by
  intro t
  induction t using Tm.ind with
  | h op w v nq np p l ih =>
    intro d n k h hd hn
    rw [cnt] at h
    split at h
    · cases h
    · rename_i h0
      obtain ⟨m, rfl⟩ : ∃ m, d = m + 1 := ⟨d - 1, by omega⟩
      have key : ∀ (l : List Tm) (n k : Nat), cnts l m n = some k → n ≤ 1000 → (∀ t ∈ l, ∀ d n k, cnt t d n = some k → d ≤ 1000 → n ≤ 1000 → t.Sm d) → l.length + k ≤ n ∧ ∀ t ∈ l, t.Sm m := by
        intro l
        induction l with
        | nil => intro n k h _ _; rw [cnts] at h; cases h; exact ⟨by simp, fun t ht => by cases ht⟩
        | cons a l ihl =>
          intro n k h hn ht
          rw [cnts] at h
          cases hc : cnt a m n with
          | none => rw [hc] at h; cases h
          | some j =>
            rw [hc] at h
            have hj : j < n := by
              obtain ⟨op, w, v, nq, np, p, bs⟩ := a
              rw [cnt] at hc
              split at hc
              · cases hc
              · have := cnts_le _ _ _ _ hc
                omega
            obtain ⟨g1, g2⟩ := ihl j k h (by omega) fun t h => ht t (by simp [h])
            refine ⟨by simp only [List.length_cons]; omega, fun t h => ?_⟩
            rcases List.mem_cons.1 h with rfl | h
            · exact ht t (by simp) m n j hc (by omega) hn
            · exact g2 t h
      have h' : cnts l m (n - 1) = some k := by simpa using h
      obtain ⟨g1, g2⟩ := key l (n - 1) k h' (by omega) ih
      exact .mk (by omega) g2
theorem Tm.Sm.up {t : Tm} : ∀ {d : Nat}, t.Sm d → ∀ {e : Nat}, d ≤ e → t.Sm e := by
  induction t using Tm.ind with
  | h op w v nq np p l ih =>
    intro d h e he
    cases h with
    | mk h1 h2 =>
      obtain ⟨m, rfl⟩ : ∃ m, e = m + 1 := ⟨e - 1, by omega⟩
      exact .mk h1 fun t ht => ih t ht (h2 t ht) (by omega)
theorem Tm.Sm.len {t : Tm} {d : Nat} (h : t.Sm d) : Len63 t := by
  induction h with
  | mk h1 _ ih => exact .mk (by omega) ih
theorem sm_light {t : Tm} (h : lightB t 12 20 = true) : t.Sm 12 := by
  unfold lightB at h
  cases hc : cnt t 12 20 with
  | none => rw [hc] at h; cases h
  | some k => exact len_of_cnt t 12 20 k hc (by omega) (by omega)
theorem Tm.ok.len {t : Tm} (h : t.ok) : Len63 t := by
  have hr : reachBytes < 2 ^ 48 := by decide +kernel
  induction h with
  | mk h1 _ ih => exact .mk (by have := h1.2.2.2.2.2; omega) ih
theorem sm_cp {t : Tm} {d : Nat} (h : t.Sm d) : (cpT t).Sm d := by
  induction h with
  | mk h1 _ ih =>
    rw [cpT, cpTs_map]
    exact .mk (by simpa using h1) fun t ht => by obtain ⟨s, hs, rfl⟩ := List.mem_map.1 ht; exact ih s hs
theorem eqT_sym : ∀ a b : Tm, eqT a b = eqT b a := by
  intro a
  induction a using Tm.ind with
  | h op w v nq np p l ih =>
    intro b
    obtain ⟨op', w', v', nq', np', p', l'⟩ := b
    have key : ∀ l l' : List Tm, (∀ t ∈ l, ∀ b, eqT t b = eqT b t) → eqTs l l' = eqTs l' l := by
      intro l
      induction l with
      | nil => intro l' _; cases l' <;> rfl
      | cons a l ihl =>
        intro l' h
        cases l' with
        | nil => rfl
        | cons b l' => rw [eqTs, eqTs, h a (by simp), ihl l' fun t ht => h t (by simp [ht])]
    rw [eqT, eqT, key l l' ih]
    simp only [eq_comm]
theorem eqT_cp2 (t : Tm) : eqT (cpT t) t = true := by rw [eqT_sym]; exact eqT_cp t
theorem cp_w (t : Tm) : (cpT t).w = t.w := by cases t; rw [cpT]; rfl
theorem eqT_refl (t : Tm) : eqT t t = true := by
  induction t using Tm.ind with
  | h op w v nq np p bs ih =>
    have key : ∀ l : List Tm, (∀ t ∈ l, eqT t t = true) → eqTs l l = true := by
      intro l
      induction l with
      | nil => intro _; rfl
      | cons a l ihl => intro h; rw [eqTs, h a (by simp), ihl fun t ht => h t (by simp [ht])]; rfl
    rw [eqT, key bs ih]; simp
theorem same_term (k : Nat) (a b : Tm) : eqT (gTermA k a b) (gTermR k a b) = true := by
  unfold gTermA gTermR
  rw [cp_w]
  repeat' split
  all_goals first
    | exact eqT_cp2 _
    | exact eqT_refl _
    | (simp only [eqT, eqTs, eqT_cp2, Bool.and_true, decide_true])
theorem same_guard (k : Nat) (a b : Tm) (w : Nat) : (decide (gK k a b w = gK k a b w) && (eqT (gAa k a b w) (gAa k a b w) && eqT (gBp k a b w) (gBr k a b w))) = true := by
  rw [eqT_refl, decide_eq_true rfl, Bool.true_and, Bool.true_and]
  unfold gBp gBr
  repeat' split
  all_goals first
    | exact eqT_cp2 _
    | exact eqT_refl _
end Go.Eng
namespace Go.Eng
open Go.RowKit Go.Proofs
theorem s3 (J : Jmp) (k ao aw av aq an ap bo bw bv bq bn bp w : Nat) (al bl : List AV) : (compY Tryz.prog 43 (fun _ => none) (finY Tryz.prog [.tmp 4] [4]) J [] (bodyC Tryz.f3) (finY Tryz.prog [.tmp 4] [4]) []).run R27 (setArgs 0 [aggV [i64 k, i64 ao, i64 aw, u64 av, stA aq an, slP ap 5 al, i64 bo, i64 bw, u64 bv, stA bq bn, slP bp 5 bl], i64 w] noFr) (globH Tryz.prog L27) =
  (bi (nbeq (okN (PureAt Tryz.prog 4 [(aggV [(i64 k), (i64 ao), (i64 aw), (u64 av), (stA aq an), (slP ap 5 al), (i64 bo), (i64 bw), (u64 bv), (stA bq bn), (slP bp 5 bl)])] { tag := 8, p := bi (lt27 (aggV [(i64 k), (i64 ao), (i64 aw), (u64 av), (stA aq an), (slP ap 5 al), (i64 bo), (i64 bw), (u64 bv), (stA bq bn), (slP bp 5 bl)])) 1 0, q := 0, r := 0, s := 0, cs := [] })) 1)
    (bi (nbeq (Nat.sub 1 (bi (lt27 (aggV [(i64 k), (i64 ao), (i64 aw), (u64 av), (stA aq an), (slP ap 5 al), (i64 bo), (i64 bw), (u64 bv), (stA bq bn), (slP bp 5 bl)])) 1 0)) 1)
      (ansY { tag := 8, p := 1, q := 0, r := 0, s := 0, cs := [] })
      (bi (nbeq (okN (PureAt Tryz.prog 6 [(aggV [(i64 k), (i64 ao), (i64 aw), (u64 av), (stA aq an), (slP ap 5 al), (i64 bo), (i64 bw), (u64 bv), (stA bq bn), (slP bp 5 bl)]), (i64 w)] { tag := 16, p := 0, q := 0, r := 0, s := 0, cs := [(aggV [(i64 (p6 0 (aggV [(i64 k), (i64 ao), (i64 aw), (u64 av), (stA aq an), (slP ap 5 al), (i64 bo), (i64 bw), (u64 bv), (stA bq bn), (slP bp 5 bl)]) w)), (i64 (p6 1 (aggV [(i64 k), (i64 ao), (i64 aw), (u64 av), (stA aq an), (slP ap 5 al), (i64 bo), (i64 bw), (u64 bv), (stA bq bn), (slP bp 5 bl)]) w)), (i64 (p6 2 (aggV [(i64 k), (i64 ao), (i64 aw), (u64 av), (stA aq an), (slP ap 5 al), (i64 bo), (i64 bw), (u64 bv), (stA bq bn), (slP bp 5 bl)]) w)), (u64 (p6 3 (aggV [(i64 k), (i64 ao), (i64 aw), (u64 av), (stA aq an), (slP ap 5 al), (i64 bo), (i64 bw), (u64 bv), (stA bq bn), (slP bp 5 bl)]) w)), (stA (q6 4 (aggV [(i64 k), (i64 ao), (i64 aw), (u64 av), (stA aq an), (slP ap 5 al), (i64 bo), (i64 bw), (u64 bv), (stA bq bn), (slP bp 5 bl)]) w) (p6 4 (aggV [(i64 k), (i64 ao), (i64 aw), (u64 av), (stA aq an), (slP ap 5 al), (i64 bo), (i64 bw), (u64 bv), (stA bq bn), (slP bp 5 bl)]) w)), (slP (p6 5 (aggV [(i64 k), (i64 ao), (i64 aw), (u64 av), (stA aq an), (slP ap 5 al), (i64 bo), (i64 bw), (u64 bv), (stA bq bn), (slP bp 5 bl)]) w) 5 (s6c 5 (aggV [(i64 k), (i64 ao), (i64 aw), (u64 av), (stA aq an), (slP ap 5 al), (i64 bo), (i64 bw), (u64 bv), (stA bq bn), (slP bp 5 bl)]) w)), (i64 (p6 6 (aggV [(i64 k), (i64 ao), (i64 aw), (u64 av), (stA aq an), (slP ap 5 al), (i64 bo), (i64 bw), (u64 bv), (stA bq bn), (slP bp 5 bl)]) w)), (i64 (p6 7 (aggV [(i64 k), (i64 ao), (i64 aw), (u64 av), (stA aq an), (slP ap 5 al), (i64 bo), (i64 bw), (u64 bv), (stA bq bn), (slP bp 5 bl)]) w)), (u64 (p6 8 (aggV [(i64 k), (i64 ao), (i64 aw), (u64 av), (stA aq an), (slP ap 5 al), (i64 bo), (i64 bw), (u64 bv), (stA bq bn), (slP bp 5 bl)]) w)), (stA (q6 9 (aggV [(i64 k), (i64 ao), (i64 aw), (u64 av), (stA aq an), (slP ap 5 al), (i64 bo), (i64 bw), (u64 bv), (stA bq bn), (slP bp 5 bl)]) w) (p6 9 (aggV [(i64 k), (i64 ao), (i64 aw), (u64 av), (stA aq an), (slP ap 5 al), (i64 bo), (i64 bw), (u64 bv), (stA bq bn), (slP bp 5 bl)]) w)), (slP (p6 10 (aggV [(i64 k), (i64 ao), (i64 aw), (u64 av), (stA aq an), (slP ap 5 al), (i64 bo), (i64 bw), (u64 bv), (stA bq bn), (slP bp 5 bl)]) w) 5 (s6c 10 (aggV [(i64 k), (i64 ao), (i64 aw), (u64 av), (stA aq an), (slP ap 5 al), (i64 bo), (i64 bw), (u64 bv), (stA bq bn), (slP bp 5 bl)]) w))]), (i64 (e67 (aggV [(i64 k), (i64 ao), (i64 aw), (u64 av), (stA aq an), (slP ap 5 al), (i64 bo), (i64 bw), (u64 bv), (stA bq bn), (slP bp 5 bl)]) w))] })) 1)
        (bi (nbeq (okN (PureAt Tryz.prog 7 [(aggV [(i64 k), (i64 ao), (i64 aw), (u64 av), (stA aq an), (slP ap 5 al), (i64 bo), (i64 bw), (u64 bv), (stA bq bn), (slP bp 5 bl)]), (i64 w)] { tag := 16, p := 0, q := 0, r := 0, s := 0, cs := [(aggV [(i64 (p7 0 (aggV [(i64 k), (i64 ao), (i64 aw), (u64 av), (stA aq an), (slP ap 5 al), (i64 bo), (i64 bw), (u64 bv), (stA bq bn), (slP bp 5 bl)]) w)), (i64 (p7 1 (aggV [(i64 k), (i64 ao), (i64 aw), (u64 av), (stA aq an), (slP ap 5 al), (i64 bo), (i64 bw), (u64 bv), (stA bq bn), (slP bp 5 bl)]) w)), (i64 (p7 2 (aggV [(i64 k), (i64 ao), (i64 aw), (u64 av), (stA aq an), (slP ap 5 al), (i64 bo), (i64 bw), (u64 bv), (stA bq bn), (slP bp 5 bl)]) w)), (u64 (p7 3 (aggV [(i64 k), (i64 ao), (i64 aw), (u64 av), (stA aq an), (slP ap 5 al), (i64 bo), (i64 bw), (u64 bv), (stA bq bn), (slP bp 5 bl)]) w)), (stA (q7 4 (aggV [(i64 k), (i64 ao), (i64 aw), (u64 av), (stA aq an), (slP ap 5 al), (i64 bo), (i64 bw), (u64 bv), (stA bq bn), (slP bp 5 bl)]) w) (p7 4 (aggV [(i64 k), (i64 ao), (i64 aw), (u64 av), (stA aq an), (slP ap 5 al), (i64 bo), (i64 bw), (u64 bv), (stA bq bn), (slP bp 5 bl)]) w)), (slP (p7 5 (aggV [(i64 k), (i64 ao), (i64 aw), (u64 av), (stA aq an), (slP ap 5 al), (i64 bo), (i64 bw), (u64 bv), (stA bq bn), (slP bp 5 bl)]) w) 5 (s7c 5 (aggV [(i64 k), (i64 ao), (i64 aw), (u64 av), (stA aq an), (slP ap 5 al), (i64 bo), (i64 bw), (u64 bv), (stA bq bn), (slP bp 5 bl)]) w)), (i64 (p7 6 (aggV [(i64 k), (i64 ao), (i64 aw), (u64 av), (stA aq an), (slP ap 5 al), (i64 bo), (i64 bw), (u64 bv), (stA bq bn), (slP bp 5 bl)]) w)), (i64 (p7 7 (aggV [(i64 k), (i64 ao), (i64 aw), (u64 av), (stA aq an), (slP ap 5 al), (i64 bo), (i64 bw), (u64 bv), (stA bq bn), (slP bp 5 bl)]) w)), (u64 (p7 8 (aggV [(i64 k), (i64 ao), (i64 aw), (u64 av), (stA aq an), (slP ap 5 al), (i64 bo), (i64 bw), (u64 bv), (stA bq bn), (slP bp 5 bl)]) w)), (stA (q7 9 (aggV [(i64 k), (i64 ao), (i64 aw), (u64 av), (stA aq an), (slP ap 5 al), (i64 bo), (i64 bw), (u64 bv), (stA bq bn), (slP bp 5 bl)]) w) (p7 9 (aggV [(i64 k), (i64 ao), (i64 aw), (u64 av), (stA aq an), (slP ap 5 al), (i64 bo), (i64 bw), (u64 bv), (stA bq bn), (slP bp 5 bl)]) w)), (slP (p7 10 (aggV [(i64 k), (i64 ao), (i64 aw), (u64 av), (stA aq an), (slP ap 5 al), (i64 bo), (i64 bw), (u64 bv), (stA bq bn), (slP bp 5 bl)]) w) 5 (s7c 10 (aggV [(i64 k), (i64 ao), (i64 aw), (u64 av), (stA aq an), (slP ap 5 al), (i64 bo), (i64 bw), (u64 bv), (stA bq bn), (slP bp 5 bl)]) w))]), (i64 (e67 (aggV [(i64 k), (i64 ao), (i64 aw), (u64 av), (stA aq an), (slP ap 5 al), (i64 bo), (i64 bw), (u64 bv), (stA bq bn), (slP bp 5 bl)]) w))] })) 1)
          (bi (nbeq (okN (PureAt Tryz.prog 9 [(aggV [(i64 k), (i64 ao), (i64 aw), (u64 av), (stA aq an), (slP ap 5 al), (i64 bo), (i64 bw), (u64 bv), (stA bq bn), (slP bp 5 bl)])] (aggV [(i64 ((t9 (aggV [(i64 k), (i64 ao), (i64 aw), (u64 av), (stA aq an), (slP ap 5 al), (i64 bo), (i64 bw), (u64 bv), (stA bq bn), (slP bp 5 bl)])).op)), (i64 ((t9 (aggV [(i64 k), (i64 ao), (i64 aw), (u64 av), (stA aq an), (slP ap 5 al), (i64 bo), (i64 bw), (u64 bv), (stA bq bn), (slP bp 5 bl)])).w)), (u64 ((t9 (aggV [(i64 k), (i64 ao), (i64 aw), (u64 av), (stA aq an), (slP ap 5 al), (i64 bo), (i64 bw), (u64 bv), (stA bq bn), (slP bp 5 bl)])).v)), (stA ((t9 (aggV [(i64 k), (i64 ao), (i64 aw), (u64 av), (stA aq an), (slP ap 5 al), (i64 bo), (i64 bw), (u64 bv), (stA bq bn), (slP bp 5 bl)])).nq) ((t9 (aggV [(i64 k), (i64 ao), (i64 aw), (u64 av), (stA aq an), (slP ap 5 al), (i64 bo), (i64 bw), (u64 bv), (stA bq bn), (slP bp 5 bl)])).np)), (slP ((t9 (aggV [(i64 k), (i64 ao), (i64 aw), (u64 av), (stA aq an), (slP ap 5 al), (i64 bo), (i64 bw), (u64 bv), (stA bq bn), (slP bp 5 bl)])).p) 5 (List.map tmA (t9 (aggV [(i64 k), (i64 ao), (i64 aw), (u64 av), (stA aq an), (slP ap 5 al), (i64 bo), (i64 bw), (u64 bv), (stA bq bn), (slP bp 5 bl)])).as))]))) 1)
            (bi (eqA 1000 (aggV [(i64 k), (i64 ao), (i64 aw), (u64 av), (stA aq an), (slP ap 5 al), (i64 bo), (i64 bw), (u64 bv), (stA bq bn), (slP bp 5 bl)]) (aggV [(i64 k), (i64 ao), (i64 aw), (u64 av), (stA aq an), (slP ap 5 al), (i64 bo), (i64 bw), (u64 bv), (stA bq bn), (slP bp 5 bl)]))
              (bi (nbeq (okN (PureAt Tryz.prog 10 [(aggV [(i64 k), (i64 ao), (i64 aw), (u64 av), (stA aq an), (slP ap 5 al), (i64 bo), (i64 bw), (u64 bv), (stA bq bn), (slP bp 5 bl)])] (aggV [(i64 ((t10 (aggV [(i64 k), (i64 ao), (i64 aw), (u64 av), (stA aq an), (slP ap 5 al), (i64 bo), (i64 bw), (u64 bv), (stA bq bn), (slP bp 5 bl)])).op)), (i64 ((t10 (aggV [(i64 k), (i64 ao), (i64 aw), (u64 av), (stA aq an), (slP ap 5 al), (i64 bo), (i64 bw), (u64 bv), (stA bq bn), (slP bp 5 bl)])).w)), (u64 ((t10 (aggV [(i64 k), (i64 ao), (i64 aw), (u64 av), (stA aq an), (slP ap 5 al), (i64 bo), (i64 bw), (u64 bv), (stA bq bn), (slP bp 5 bl)])).v)), (stA ((t10 (aggV [(i64 k), (i64 ao), (i64 aw), (u64 av), (stA aq an), (slP ap 5 al), (i64 bo), (i64 bw), (u64 bv), (stA bq bn), (slP bp 5 bl)])).nq) ((t10 (aggV [(i64 k), (i64 ao), (i64 aw), (u64 av), (stA aq an), (slP ap 5 al), (i64 bo), (i64 bw), (u64 bv), (stA bq bn), (slP bp 5 bl)])).np)), (slP ((t10 (aggV [(i64 k), (i64 ao), (i64 aw), (u64 av), (stA aq an), (slP ap 5 al), (i64 bo), (i64 bw), (u64 bv), (stA bq bn), (slP bp 5 bl)])).p) 5 (List.map tmA (t10 (aggV [(i64 k), (i64 ao), (i64 aw), (u64 av), (stA aq an), (slP ap 5 al), (i64 bo), (i64 bw), (u64 bv), (stA bq bn), (slP bp 5 bl)])).as))]))) 1)
                (bi (nbeq (okN (PureAt Tryz.prog 8 [(aggV [(i64 ((t9 (aggV [(i64 k), (i64 ao), (i64 aw), (u64 av), (stA aq an), (slP ap 5 al), (i64 bo), (i64 bw), (u64 bv), (stA bq bn), (slP bp 5 bl)])).op)), (i64 ((t9 (aggV [(i64 k), (i64 ao), (i64 aw), (u64 av), (stA aq an), (slP ap 5 al), (i64 bo), (i64 bw), (u64 bv), (stA bq bn), (slP bp 5 bl)])).w)), (u64 ((t9 (aggV [(i64 k), (i64 ao), (i64 aw), (u64 av), (stA aq an), (slP ap 5 al), (i64 bo), (i64 bw), (u64 bv), (stA bq bn), (slP bp 5 bl)])).v)), (stA ((t9 (aggV [(i64 k), (i64 ao), (i64 aw), (u64 av), (stA aq an), (slP ap 5 al), (i64 bo), (i64 bw), (u64 bv), (stA bq bn), (slP bp 5 bl)])).nq) ((t9 (aggV [(i64 k), (i64 ao), (i64 aw), (u64 av), (stA aq an), (slP ap 5 al), (i64 bo), (i64 bw), (u64 bv), (stA bq bn), (slP bp 5 bl)])).np)), (slP ((t9 (aggV [(i64 k), (i64 ao), (i64 aw), (u64 av), (stA aq an), (slP ap 5 al), (i64 bo), (i64 bw), (u64 bv), (stA bq bn), (slP bp 5 bl)])).p) 5 (List.map tmA (t9 (aggV [(i64 k), (i64 ao), (i64 aw), (u64 av), (stA aq an), (slP ap 5 al), (i64 bo), (i64 bw), (u64 bv), (stA bq bn), (slP bp 5 bl)])).as))]), (aggV [(i64 ((t10 (aggV [(i64 k), (i64 ao), (i64 aw), (u64 av), (stA aq an), (slP ap 5 al), (i64 bo), (i64 bw), (u64 bv), (stA bq bn), (slP bp 5 bl)])).op)), (i64 ((t10 (aggV [(i64 k), (i64 ao), (i64 aw), (u64 av), (stA aq an), (slP ap 5 al), (i64 bo), (i64 bw), (u64 bv), (stA bq bn), (slP bp 5 bl)])).w)), (u64 ((t10 (aggV [(i64 k), (i64 ao), (i64 aw), (u64 av), (stA aq an), (slP ap 5 al), (i64 bo), (i64 bw), (u64 bv), (stA bq bn), (slP bp 5 bl)])).v)), (stA ((t10 (aggV [(i64 k), (i64 ao), (i64 aw), (u64 av), (stA aq an), (slP ap 5 al), (i64 bo), (i64 bw), (u64 bv), (stA bq bn), (slP bp 5 bl)])).nq) ((t10 (aggV [(i64 k), (i64 ao), (i64 aw), (u64 av), (stA aq an), (slP ap 5 al), (i64 bo), (i64 bw), (u64 bv), (stA bq bn), (slP bp 5 bl)])).np)), (slP ((t10 (aggV [(i64 k), (i64 ao), (i64 aw), (u64 av), (stA aq an), (slP ap 5 al), (i64 bo), (i64 bw), (u64 bv), (stA bq bn), (slP bp 5 bl)])).p) 5 (List.map tmA (t10 (aggV [(i64 k), (i64 ao), (i64 aw), (u64 av), (stA aq an), (slP ap 5 al), (i64 bo), (i64 bw), (u64 bv), (stA bq bn), (slP bp 5 bl)])).as))])] { tag := 8, p := bi (eqT (unTm (aggV [(i64 ((t9 (aggV [(i64 k), (i64 ao), (i64 aw), (u64 av), (stA aq an), (slP ap 5 al), (i64 bo), (i64 bw), (u64 bv), (stA bq bn), (slP bp 5 bl)])).op)), (i64 ((t9 (aggV [(i64 k), (i64 ao), (i64 aw), (u64 av), (stA aq an), (slP ap 5 al), (i64 bo), (i64 bw), (u64 bv), (stA bq bn), (slP bp 5 bl)])).w)), (u64 ((t9 (aggV [(i64 k), (i64 ao), (i64 aw), (u64 av), (stA aq an), (slP ap 5 al), (i64 bo), (i64 bw), (u64 bv), (stA bq bn), (slP bp 5 bl)])).v)), (stA ((t9 (aggV [(i64 k), (i64 ao), (i64 aw), (u64 av), (stA aq an), (slP ap 5 al), (i64 bo), (i64 bw), (u64 bv), (stA bq bn), (slP bp 5 bl)])).nq) ((t9 (aggV [(i64 k), (i64 ao), (i64 aw), (u64 av), (stA aq an), (slP ap 5 al), (i64 bo), (i64 bw), (u64 bv), (stA bq bn), (slP bp 5 bl)])).np)), (slP ((t9 (aggV [(i64 k), (i64 ao), (i64 aw), (u64 av), (stA aq an), (slP ap 5 al), (i64 bo), (i64 bw), (u64 bv), (stA bq bn), (slP bp 5 bl)])).p) 5 (List.map tmA (t9 (aggV [(i64 k), (i64 ao), (i64 aw), (u64 av), (stA aq an), (slP ap 5 al), (i64 bo), (i64 bw), (u64 bv), (stA bq bn), (slP bp 5 bl)])).as))])) (unTm (aggV [(i64 ((t10 (aggV [(i64 k), (i64 ao), (i64 aw), (u64 av), (stA aq an), (slP ap 5 al), (i64 bo), (i64 bw), (u64 bv), (stA bq bn), (slP bp 5 bl)])).op)), (i64 ((t10 (aggV [(i64 k), (i64 ao), (i64 aw), (u64 av), (stA aq an), (slP ap 5 al), (i64 bo), (i64 bw), (u64 bv), (stA bq bn), (slP bp 5 bl)])).w)), (u64 ((t10 (aggV [(i64 k), (i64 ao), (i64 aw), (u64 av), (stA aq an), (slP ap 5 al), (i64 bo), (i64 bw), (u64 bv), (stA bq bn), (slP bp 5 bl)])).v)), (stA ((t10 (aggV [(i64 k), (i64 ao), (i64 aw), (u64 av), (stA aq an), (slP ap 5 al), (i64 bo), (i64 bw), (u64 bv), (stA bq bn), (slP bp 5 bl)])).nq) ((t10 (aggV [(i64 k), (i64 ao), (i64 aw), (u64 av), (stA aq an), (slP ap 5 al), (i64 bo), (i64 bw), (u64 bv), (stA bq bn), (slP bp 5 bl)])).np)), (slP ((t10 (aggV [(i64 k), (i64 ao), (i64 aw), (u64 av), (stA aq an), (slP ap 5 al), (i64 bo), (i64 bw), (u64 bv), (stA bq bn), (slP bp 5 bl)])).p) 5 (List.map tmA (t10 (aggV [(i64 k), (i64 ao), (i64 aw), (u64 av), (stA aq an), (slP ap 5 al), (i64 bo), (i64 bw), (u64 bv), (stA bq bn), (slP bp 5 bl)])).as))]))) 1 0, q := 0, r := 0, s := 0, cs := [] })) 1)
                  (bi (nbeq (bi (eqT (unTm (aggV [(i64 ((t9 (aggV [(i64 k), (i64 ao), (i64 aw), (u64 av), (stA aq an), (slP ap 5 al), (i64 bo), (i64 bw), (u64 bv), (stA bq bn), (slP bp 5 bl)])).op)), (i64 ((t9 (aggV [(i64 k), (i64 ao), (i64 aw), (u64 av), (stA aq an), (slP ap 5 al), (i64 bo), (i64 bw), (u64 bv), (stA bq bn), (slP bp 5 bl)])).w)), (u64 ((t9 (aggV [(i64 k), (i64 ao), (i64 aw), (u64 av), (stA aq an), (slP ap 5 al), (i64 bo), (i64 bw), (u64 bv), (stA bq bn), (slP bp 5 bl)])).v)), (stA ((t9 (aggV [(i64 k), (i64 ao), (i64 aw), (u64 av), (stA aq an), (slP ap 5 al), (i64 bo), (i64 bw), (u64 bv), (stA bq bn), (slP bp 5 bl)])).nq) ((t9 (aggV [(i64 k), (i64 ao), (i64 aw), (u64 av), (stA aq an), (slP ap 5 al), (i64 bo), (i64 bw), (u64 bv), (stA bq bn), (slP bp 5 bl)])).np)), (slP ((t9 (aggV [(i64 k), (i64 ao), (i64 aw), (u64 av), (stA aq an), (slP ap 5 al), (i64 bo), (i64 bw), (u64 bv), (stA bq bn), (slP bp 5 bl)])).p) 5 (List.map tmA (t9 (aggV [(i64 k), (i64 ao), (i64 aw), (u64 av), (stA aq an), (slP ap 5 al), (i64 bo), (i64 bw), (u64 bv), (stA bq bn), (slP bp 5 bl)])).as))])) (unTm (aggV [(i64 ((t10 (aggV [(i64 k), (i64 ao), (i64 aw), (u64 av), (stA aq an), (slP ap 5 al), (i64 bo), (i64 bw), (u64 bv), (stA bq bn), (slP bp 5 bl)])).op)), (i64 ((t10 (aggV [(i64 k), (i64 ao), (i64 aw), (u64 av), (stA aq an), (slP ap 5 al), (i64 bo), (i64 bw), (u64 bv), (stA bq bn), (slP bp 5 bl)])).w)), (u64 ((t10 (aggV [(i64 k), (i64 ao), (i64 aw), (u64 av), (stA aq an), (slP ap 5 al), (i64 bo), (i64 bw), (u64 bv), (stA bq bn), (slP bp 5 bl)])).v)), (stA ((t10 (aggV [(i64 k), (i64 ao), (i64 aw), (u64 av), (stA aq an), (slP ap 5 al), (i64 bo), (i64 bw), (u64 bv), (stA bq bn), (slP bp 5 bl)])).nq) ((t10 (aggV [(i64 k), (i64 ao), (i64 aw), (u64 av), (stA aq an), (slP ap 5 al), (i64 bo), (i64 bw), (u64 bv), (stA bq bn), (slP bp 5 bl)])).np)), (slP ((t10 (aggV [(i64 k), (i64 ao), (i64 aw), (u64 av), (stA aq an), (slP ap 5 al), (i64 bo), (i64 bw), (u64 bv), (stA bq bn), (slP bp 5 bl)])).p) 5 (List.map tmA (t10 (aggV [(i64 k), (i64 ao), (i64 aw), (u64 av), (stA aq an), (slP ap 5 al), (i64 bo), (i64 bw), (u64 bv), (stA bq bn), (slP bp 5 bl)])).as))]))) 1 0) 1)
                    (bi (nbeq (okN (PureAt Tryz.prog 11 [(aggV [(i64 (p6 0 (aggV [(i64 k), (i64 ao), (i64 aw), (u64 av), (stA aq an), (slP ap 5 al), (i64 bo), (i64 bw), (u64 bv), (stA bq bn), (slP bp 5 bl)]) w)), (i64 (p6 1 (aggV [(i64 k), (i64 ao), (i64 aw), (u64 av), (stA aq an), (slP ap 5 al), (i64 bo), (i64 bw), (u64 bv), (stA bq bn), (slP bp 5 bl)]) w)), (i64 (p6 2 (aggV [(i64 k), (i64 ao), (i64 aw), (u64 av), (stA aq an), (slP ap 5 al), (i64 bo), (i64 bw), (u64 bv), (stA bq bn), (slP bp 5 bl)]) w)), (u64 (p6 3 (aggV [(i64 k), (i64 ao), (i64 aw), (u64 av), (stA aq an), (slP ap 5 al), (i64 bo), (i64 bw), (u64 bv), (stA bq bn), (slP bp 5 bl)]) w)), (stA (q6 4 (aggV [(i64 k), (i64 ao), (i64 aw), (u64 av), (stA aq an), (slP ap 5 al), (i64 bo), (i64 bw), (u64 bv), (stA bq bn), (slP bp 5 bl)]) w) (p6 4 (aggV [(i64 k), (i64 ao), (i64 aw), (u64 av), (stA aq an), (slP ap 5 al), (i64 bo), (i64 bw), (u64 bv), (stA bq bn), (slP bp 5 bl)]) w)), (slP (p6 5 (aggV [(i64 k), (i64 ao), (i64 aw), (u64 av), (stA aq an), (slP ap 5 al), (i64 bo), (i64 bw), (u64 bv), (stA bq bn), (slP bp 5 bl)]) w) 5 (s6c 5 (aggV [(i64 k), (i64 ao), (i64 aw), (u64 av), (stA aq an), (slP ap 5 al), (i64 bo), (i64 bw), (u64 bv), (stA bq bn), (slP bp 5 bl)]) w)), (i64 (p6 6 (aggV [(i64 k), (i64 ao), (i64 aw), (u64 av), (stA aq an), (slP ap 5 al), (i64 bo), (i64 bw), (u64 bv), (stA bq bn), (slP bp 5 bl)]) w)), (i64 (p6 7 (aggV [(i64 k), (i64 ao), (i64 aw), (u64 av), (stA aq an), (slP ap 5 al), (i64 bo), (i64 bw), (u64 bv), (stA bq bn), (slP bp 5 bl)]) w)), (u64 (p6 8 (aggV [(i64 k), (i64 ao), (i64 aw), (u64 av), (stA aq an), (slP ap 5 al), (i64 bo), (i64 bw), (u64 bv), (stA bq bn), (slP bp 5 bl)]) w)), (stA (q6 9 (aggV [(i64 k), (i64 ao), (i64 aw), (u64 av), (stA aq an), (slP ap 5 al), (i64 bo), (i64 bw), (u64 bv), (stA bq bn), (slP bp 5 bl)]) w) (p6 9 (aggV [(i64 k), (i64 ao), (i64 aw), (u64 av), (stA aq an), (slP ap 5 al), (i64 bo), (i64 bw), (u64 bv), (stA bq bn), (slP bp 5 bl)]) w)), (slP (p6 10 (aggV [(i64 k), (i64 ao), (i64 aw), (u64 av), (stA aq an), (slP ap 5 al), (i64 bo), (i64 bw), (u64 bv), (stA bq bn), (slP bp 5 bl)]) w) 5 (s6c 10 (aggV [(i64 k), (i64 ao), (i64 aw), (u64 av), (stA aq an), (slP ap 5 al), (i64 bo), (i64 bw), (u64 bv), (stA bq bn), (slP bp 5 bl)]) w))]), (aggV [(i64 (p7 0 (aggV [(i64 k), (i64 ao), (i64 aw), (u64 av), (stA aq an), (slP ap 5 al), (i64 bo), (i64 bw), (u64 bv), (stA bq bn), (slP bp 5 bl)]) w)), (i64 (p7 1 (aggV [(i64 k), (i64 ao), (i64 aw), (u64 av), (stA aq an), (slP ap 5 al), (i64 bo), (i64 bw), (u64 bv), (stA bq bn), (slP bp 5 bl)]) w)), (i64 (p7 2 (aggV [(i64 k), (i64 ao), (i64 aw), (u64 av), (stA aq an), (slP ap 5 al), (i64 bo), (i64 bw), (u64 bv), (stA bq bn), (slP bp 5 bl)]) w)), (u64 (p7 3 (aggV [(i64 k), (i64 ao), (i64 aw), (u64 av), (stA aq an), (slP ap 5 al), (i64 bo), (i64 bw), (u64 bv), (stA bq bn), (slP bp 5 bl)]) w)), (stA (q7 4 (aggV [(i64 k), (i64 ao), (i64 aw), (u64 av), (stA aq an), (slP ap 5 al), (i64 bo), (i64 bw), (u64 bv), (stA bq bn), (slP bp 5 bl)]) w) (p7 4 (aggV [(i64 k), (i64 ao), (i64 aw), (u64 av), (stA aq an), (slP ap 5 al), (i64 bo), (i64 bw), (u64 bv), (stA bq bn), (slP bp 5 bl)]) w)), (slP (p7 5 (aggV [(i64 k), (i64 ao), (i64 aw), (u64 av), (stA aq an), (slP ap 5 al), (i64 bo), (i64 bw), (u64 bv), (stA bq bn), (slP bp 5 bl)]) w) 5 (s7c 5 (aggV [(i64 k), (i64 ao), (i64 aw), (u64 av), (stA aq an), (slP ap 5 al), (i64 bo), (i64 bw), (u64 bv), (stA bq bn), (slP bp 5 bl)]) w)), (i64 (p7 6 (aggV [(i64 k), (i64 ao), (i64 aw), (u64 av), (stA aq an), (slP ap 5 al), (i64 bo), (i64 bw), (u64 bv), (stA bq bn), (slP bp 5 bl)]) w)), (i64 (p7 7 (aggV [(i64 k), (i64 ao), (i64 aw), (u64 av), (stA aq an), (slP ap 5 al), (i64 bo), (i64 bw), (u64 bv), (stA bq bn), (slP bp 5 bl)]) w)), (u64 (p7 8 (aggV [(i64 k), (i64 ao), (i64 aw), (u64 av), (stA aq an), (slP ap 5 al), (i64 bo), (i64 bw), (u64 bv), (stA bq bn), (slP bp 5 bl)]) w)), (stA (q7 9 (aggV [(i64 k), (i64 ao), (i64 aw), (u64 av), (stA aq an), (slP ap 5 al), (i64 bo), (i64 bw), (u64 bv), (stA bq bn), (slP bp 5 bl)]) w) (p7 9 (aggV [(i64 k), (i64 ao), (i64 aw), (u64 av), (stA aq an), (slP ap 5 al), (i64 bo), (i64 bw), (u64 bv), (stA bq bn), (slP bp 5 bl)]) w)), (slP (p7 10 (aggV [(i64 k), (i64 ao), (i64 aw), (u64 av), (stA aq an), (slP ap 5 al), (i64 bo), (i64 bw), (u64 bv), (stA bq bn), (slP bp 5 bl)]) w) 5 (s7c 10 (aggV [(i64 k), (i64 ao), (i64 aw), (u64 av), (stA aq an), (slP ap 5 al), (i64 bo), (i64 bw), (u64 bv), (stA bq bn), (slP bp 5 bl)]) w))])] { tag := 8, p := bi (same11 (aggV [(i64 (p6 0 (aggV [(i64 k), (i64 ao), (i64 aw), (u64 av), (stA aq an), (slP ap 5 al), (i64 bo), (i64 bw), (u64 bv), (stA bq bn), (slP bp 5 bl)]) w)), (i64 (p6 1 (aggV [(i64 k), (i64 ao), (i64 aw), (u64 av), (stA aq an), (slP ap 5 al), (i64 bo), (i64 bw), (u64 bv), (stA bq bn), (slP bp 5 bl)]) w)), (i64 (p6 2 (aggV [(i64 k), (i64 ao), (i64 aw), (u64 av), (stA aq an), (slP ap 5 al), (i64 bo), (i64 bw), (u64 bv), (stA bq bn), (slP bp 5 bl)]) w)), (u64 (p6 3 (aggV [(i64 k), (i64 ao), (i64 aw), (u64 av), (stA aq an), (slP ap 5 al), (i64 bo), (i64 bw), (u64 bv), (stA bq bn), (slP bp 5 bl)]) w)), (stA (q6 4 (aggV [(i64 k), (i64 ao), (i64 aw), (u64 av), (stA aq an), (slP ap 5 al), (i64 bo), (i64 bw), (u64 bv), (stA bq bn), (slP bp 5 bl)]) w) (p6 4 (aggV [(i64 k), (i64 ao), (i64 aw), (u64 av), (stA aq an), (slP ap 5 al), (i64 bo), (i64 bw), (u64 bv), (stA bq bn), (slP bp 5 bl)]) w)), (slP (p6 5 (aggV [(i64 k), (i64 ao), (i64 aw), (u64 av), (stA aq an), (slP ap 5 al), (i64 bo), (i64 bw), (u64 bv), (stA bq bn), (slP bp 5 bl)]) w) 5 (s6c 5 (aggV [(i64 k), (i64 ao), (i64 aw), (u64 av), (stA aq an), (slP ap 5 al), (i64 bo), (i64 bw), (u64 bv), (stA bq bn), (slP bp 5 bl)]) w)), (i64 (p6 6 (aggV [(i64 k), (i64 ao), (i64 aw), (u64 av), (stA aq an), (slP ap 5 al), (i64 bo), (i64 bw), (u64 bv), (stA bq bn), (slP bp 5 bl)]) w)), (i64 (p6 7 (aggV [(i64 k), (i64 ao), (i64 aw), (u64 av), (stA aq an), (slP ap 5 al), (i64 bo), (i64 bw), (u64 bv), (stA bq bn), (slP bp 5 bl)]) w)), (u64 (p6 8 (aggV [(i64 k), (i64 ao), (i64 aw), (u64 av), (stA aq an), (slP ap 5 al), (i64 bo), (i64 bw), (u64 bv), (stA bq bn), (slP bp 5 bl)]) w)), (stA (q6 9 (aggV [(i64 k), (i64 ao), (i64 aw), (u64 av), (stA aq an), (slP ap 5 al), (i64 bo), (i64 bw), (u64 bv), (stA bq bn), (slP bp 5 bl)]) w) (p6 9 (aggV [(i64 k), (i64 ao), (i64 aw), (u64 av), (stA aq an), (slP ap 5 al), (i64 bo), (i64 bw), (u64 bv), (stA bq bn), (slP bp 5 bl)]) w)), (slP (p6 10 (aggV [(i64 k), (i64 ao), (i64 aw), (u64 av), (stA aq an), (slP ap 5 al), (i64 bo), (i64 bw), (u64 bv), (stA bq bn), (slP bp 5 bl)]) w) 5 (s6c 10 (aggV [(i64 k), (i64 ao), (i64 aw), (u64 av), (stA aq an), (slP ap 5 al), (i64 bo), (i64 bw), (u64 bv), (stA bq bn), (slP bp 5 bl)]) w))]) (aggV [(i64 (p7 0 (aggV [(i64 k), (i64 ao), (i64 aw), (u64 av), (stA aq an), (slP ap 5 al), (i64 bo), (i64 bw), (u64 bv), (stA bq bn), (slP bp 5 bl)]) w)), (i64 (p7 1 (aggV [(i64 k), (i64 ao), (i64 aw), (u64 av), (stA aq an), (slP ap 5 al), (i64 bo), (i64 bw), (u64 bv), (stA bq bn), (slP bp 5 bl)]) w)), (i64 (p7 2 (aggV [(i64 k), (i64 ao), (i64 aw), (u64 av), (stA aq an), (slP ap 5 al), (i64 bo), (i64 bw), (u64 bv), (stA bq bn), (slP bp 5 bl)]) w)), (u64 (p7 3 (aggV [(i64 k), (i64 ao), (i64 aw), (u64 av), (stA aq an), (slP ap 5 al), (i64 bo), (i64 bw), (u64 bv), (stA bq bn), (slP bp 5 bl)]) w)), (stA (q7 4 (aggV [(i64 k), (i64 ao), (i64 aw), (u64 av), (stA aq an), (slP ap 5 al), (i64 bo), (i64 bw), (u64 bv), (stA bq bn), (slP bp 5 bl)]) w) (p7 4 (aggV [(i64 k), (i64 ao), (i64 aw), (u64 av), (stA aq an), (slP ap 5 al), (i64 bo), (i64 bw), (u64 bv), (stA bq bn), (slP bp 5 bl)]) w)), (slP (p7 5 (aggV [(i64 k), (i64 ao), (i64 aw), (u64 av), (stA aq an), (slP ap 5 al), (i64 bo), (i64 bw), (u64 bv), (stA bq bn), (slP bp 5 bl)]) w) 5 (s7c 5 (aggV [(i64 k), (i64 ao), (i64 aw), (u64 av), (stA aq an), (slP ap 5 al), (i64 bo), (i64 bw), (u64 bv), (stA bq bn), (slP bp 5 bl)]) w)), (i64 (p7 6 (aggV [(i64 k), (i64 ao), (i64 aw), (u64 av), (stA aq an), (slP ap 5 al), (i64 bo), (i64 bw), (u64 bv), (stA bq bn), (slP bp 5 bl)]) w)), (i64 (p7 7 (aggV [(i64 k), (i64 ao), (i64 aw), (u64 av), (stA aq an), (slP ap 5 al), (i64 bo), (i64 bw), (u64 bv), (stA bq bn), (slP bp 5 bl)]) w)), (u64 (p7 8 (aggV [(i64 k), (i64 ao), (i64 aw), (u64 av), (stA aq an), (slP ap 5 al), (i64 bo), (i64 bw), (u64 bv), (stA bq bn), (slP bp 5 bl)]) w)), (stA (q7 9 (aggV [(i64 k), (i64 ao), (i64 aw), (u64 av), (stA aq an), (slP ap 5 al), (i64 bo), (i64 bw), (u64 bv), (stA bq bn), (slP bp 5 bl)]) w) (p7 9 (aggV [(i64 k), (i64 ao), (i64 aw), (u64 av), (stA aq an), (slP ap 5 al), (i64 bo), (i64 bw), (u64 bv), (stA bq bn), (slP bp 5 bl)]) w)), (slP (p7 10 (aggV [(i64 k), (i64 ao), (i64 aw), (u64 av), (stA aq an), (slP ap 5 al), (i64 bo), (i64 bw), (u64 bv), (stA bq bn), (slP bp 5 bl)]) w) 5 (s7c 10 (aggV [(i64 k), (i64 ao), (i64 aw), (u64 av), (stA aq an), (slP ap 5 al), (i64 bo), (i64 bw), (u64 bv), (stA bq bn), (slP bp 5 bl)]) w))])) 1 0, q := 0, r := 0, s := 0, cs := [] })) 1)
                      (bi (nbeq (bi (same11 (aggV [(i64 (p6 0 (aggV [(i64 k), (i64 ao), (i64 aw), (u64 av), (stA aq an), (slP ap 5 al), (i64 bo), (i64 bw), (u64 bv), (stA bq bn), (slP bp 5 bl)]) w)), (i64 (p6 1 (aggV [(i64 k), (i64 ao), (i64 aw), (u64 av), (stA aq an), (slP ap 5 al), (i64 bo), (i64 bw), (u64 bv), (stA bq bn), (slP bp 5 bl)]) w)), (i64 (p6 2 (aggV [(i64 k), (i64 ao), (i64 aw), (u64 av), (stA aq an), (slP ap 5 al), (i64 bo), (i64 bw), (u64 bv), (stA bq bn), (slP bp 5 bl)]) w)), (u64 (p6 3 (aggV [(i64 k), (i64 ao), (i64 aw), (u64 av), (stA aq an), (slP ap 5 al), (i64 bo), (i64 bw), (u64 bv), (stA bq bn), (slP bp 5 bl)]) w)), (stA (q6 4 (aggV [(i64 k), (i64 ao), (i64 aw), (u64 av), (stA aq an), (slP ap 5 al), (i64 bo), (i64 bw), (u64 bv), (stA bq bn), (slP bp 5 bl)]) w) (p6 4 (aggV [(i64 k), (i64 ao), (i64 aw), (u64 av), (stA aq an), (slP ap 5 al), (i64 bo), (i64 bw), (u64 bv), (stA bq bn), (slP bp 5 bl)]) w)), (slP (p6 5 (aggV [(i64 k), (i64 ao), (i64 aw), (u64 av), (stA aq an), (slP ap 5 al), (i64 bo), (i64 bw), (u64 bv), (stA bq bn), (slP bp 5 bl)]) w) 5 (s6c 5 (aggV [(i64 k), (i64 ao), (i64 aw), (u64 av), (stA aq an), (slP ap 5 al), (i64 bo), (i64 bw), (u64 bv), (stA bq bn), (slP bp 5 bl)]) w)), (i64 (p6 6 (aggV [(i64 k), (i64 ao), (i64 aw), (u64 av), (stA aq an), (slP ap 5 al), (i64 bo), (i64 bw), (u64 bv), (stA bq bn), (slP bp 5 bl)]) w)), (i64 (p6 7 (aggV [(i64 k), (i64 ao), (i64 aw), (u64 av), (stA aq an), (slP ap 5 al), (i64 bo), (i64 bw), (u64 bv), (stA bq bn), (slP bp 5 bl)]) w)), (u64 (p6 8 (aggV [(i64 k), (i64 ao), (i64 aw), (u64 av), (stA aq an), (slP ap 5 al), (i64 bo), (i64 bw), (u64 bv), (stA bq bn), (slP bp 5 bl)]) w)), (stA (q6 9 (aggV [(i64 k), (i64 ao), (i64 aw), (u64 av), (stA aq an), (slP ap 5 al), (i64 bo), (i64 bw), (u64 bv), (stA bq bn), (slP bp 5 bl)]) w) (p6 9 (aggV [(i64 k), (i64 ao), (i64 aw), (u64 av), (stA aq an), (slP ap 5 al), (i64 bo), (i64 bw), (u64 bv), (stA bq bn), (slP bp 5 bl)]) w)), (slP (p6 10 (aggV [(i64 k), (i64 ao), (i64 aw), (u64 av), (stA aq an), (slP ap 5 al), (i64 bo), (i64 bw), (u64 bv), (stA bq bn), (slP bp 5 bl)]) w) 5 (s6c 10 (aggV [(i64 k), (i64 ao), (i64 aw), (u64 av), (stA aq an), (slP ap 5 al), (i64 bo), (i64 bw), (u64 bv), (stA bq bn), (slP bp 5 bl)]) w))]) (aggV [(i64 (p7 0 (aggV [(i64 k), (i64 ao), (i64 aw), (u64 av), (stA aq an), (slP ap 5 al), (i64 bo), (i64 bw), (u64 bv), (stA bq bn), (slP bp 5 bl)]) w)), (i64 (p7 1 (aggV [(i64 k), (i64 ao), (i64 aw), (u64 av), (stA aq an), (slP ap 5 al), (i64 bo), (i64 bw), (u64 bv), (stA bq bn), (slP bp 5 bl)]) w)), (i64 (p7 2 (aggV [(i64 k), (i64 ao), (i64 aw), (u64 av), (stA aq an), (slP ap 5 al), (i64 bo), (i64 bw), (u64 bv), (stA bq bn), (slP bp 5 bl)]) w)), (u64 (p7 3 (aggV [(i64 k), (i64 ao), (i64 aw), (u64 av), (stA aq an), (slP ap 5 al), (i64 bo), (i64 bw), (u64 bv), (stA bq bn), (slP bp 5 bl)]) w)), (stA (q7 4 (aggV [(i64 k), (i64 ao), (i64 aw), (u64 av), (stA aq an), (slP ap 5 al), (i64 bo), (i64 bw), (u64 bv), (stA bq bn), (slP bp 5 bl)]) w) (p7 4 (aggV [(i64 k), (i64 ao), (i64 aw), (u64 av), (stA aq an), (slP ap 5 al), (i64 bo), (i64 bw), (u64 bv), (stA bq bn), (slP bp 5 bl)]) w)), (slP (p7 5 (aggV [(i64 k), (i64 ao), (i64 aw), (u64 av), (stA aq an), (slP ap 5 al), (i64 bo), (i64 bw), (u64 bv), (stA bq bn), (slP bp 5 bl)]) w) 5 (s7c 5 (aggV [(i64 k), (i64 ao), (i64 aw), (u64 av), (stA aq an), (slP ap 5 al), (i64 bo), (i64 bw), (u64 bv), (stA bq bn), (slP bp 5 bl)]) w)), (i64 (p7 6 (aggV [(i64 k), (i64 ao), (i64 aw), (u64 av), (stA aq an), (slP ap 5 al), (i64 bo), (i64 bw), (u64 bv), (stA bq bn), (slP bp 5 bl)]) w)), (i64 (p7 7 (aggV [(i64 k), (i64 ao), (i64 aw), (u64 av), (stA aq an), (slP ap 5 al), (i64 bo), (i64 bw), (u64 bv), (stA bq bn), (slP bp 5 bl)]) w)), (u64 (p7 8 (aggV [(i64 k), (i64 ao), (i64 aw), (u64 av), (stA aq an), (slP ap 5 al), (i64 bo), (i64 bw), (u64 bv), (stA bq bn), (slP bp 5 bl)]) w)), (stA (q7 9 (aggV [(i64 k), (i64 ao), (i64 aw), (u64 av), (stA aq an), (slP ap 5 al), (i64 bo), (i64 bw), (u64 bv), (stA bq bn), (slP bp 5 bl)]) w) (p7 9 (aggV [(i64 k), (i64 ao), (i64 aw), (u64 av), (stA aq an), (slP ap 5 al), (i64 bo), (i64 bw), (u64 bv), (stA bq bn), (slP bp 5 bl)]) w)), (slP (p7 10 (aggV [(i64 k), (i64 ao), (i64 aw), (u64 av), (stA aq an), (slP ap 5 al), (i64 bo), (i64 bw), (u64 bv), (stA bq bn), (slP bp 5 bl)]) w) 5 (s7c 10 (aggV [(i64 k), (i64 ao), (i64 aw), (u64 av), (stA aq an), (slP ap 5 al), (i64 bo), (i64 bw), (u64 bv), (stA bq bn), (slP bp 5 bl)]) w))])) 1 0) 1)
                        (bi (nbeq (bi (nbeq (e67 (aggV [(i64 k), (i64 ao), (i64 aw), (u64 av), (stA aq an), (slP ap 5 al), (i64 bo), (i64 bw), (u64 bv), (stA bq bn), (slP bp 5 bl)]) w) (e67 (aggV [(i64 k), (i64 ao), (i64 aw), (u64 av), (stA aq an), (slP ap 5 al), (i64 bo), (i64 bw), (u64 bv), (stA bq bn), (slP bp 5 bl)]) w)) 1 0) 1)
                          (ansY { tag := 8, p := 1, q := 0, r := 0, s := 0, cs := [] })
                          (bi (nbeq (bi (nbeq (e67 (aggV [(i64 k), (i64 ao), (i64 aw), (u64 av), (stA aq an), (slP ap 5 al), (i64 bo), (i64 bw), (u64 bv), (stA bq bn), (slP bp 5 bl)]) w) (e67 (aggV [(i64 k), (i64 ao), (i64 aw), (u64 av), (stA aq an), (slP ap 5 al), (i64 bo), (i64 bw), (u64 bv), (stA bq bn), (slP bp 5 bl)]) w)) 1 0) 0)
                            (ansY { tag := 8, p := 0, q := 0, r := 0, s := 0, cs := [] })
                            (failR 40)))
                        (bi (nbeq (bi (same11 (aggV [(i64 (p6 0 (aggV [(i64 k), (i64 ao), (i64 aw), (u64 av), (stA aq an), (slP ap 5 al), (i64 bo), (i64 bw), (u64 bv), (stA bq bn), (slP bp 5 bl)]) w)), (i64 (p6 1 (aggV [(i64 k), (i64 ao), (i64 aw), (u64 av), (stA aq an), (slP ap 5 al), (i64 bo), (i64 bw), (u64 bv), (stA bq bn), (slP bp 5 bl)]) w)), (i64 (p6 2 (aggV [(i64 k), (i64 ao), (i64 aw), (u64 av), (stA aq an), (slP ap 5 al), (i64 bo), (i64 bw), (u64 bv), (stA bq bn), (slP bp 5 bl)]) w)), (u64 (p6 3 (aggV [(i64 k), (i64 ao), (i64 aw), (u64 av), (stA aq an), (slP ap 5 al), (i64 bo), (i64 bw), (u64 bv), (stA bq bn), (slP bp 5 bl)]) w)), (stA (q6 4 (aggV [(i64 k), (i64 ao), (i64 aw), (u64 av), (stA aq an), (slP ap 5 al), (i64 bo), (i64 bw), (u64 bv), (stA bq bn), (slP bp 5 bl)]) w) (p6 4 (aggV [(i64 k), (i64 ao), (i64 aw), (u64 av), (stA aq an), (slP ap 5 al), (i64 bo), (i64 bw), (u64 bv), (stA bq bn), (slP bp 5 bl)]) w)), (slP (p6 5 (aggV [(i64 k), (i64 ao), (i64 aw), (u64 av), (stA aq an), (slP ap 5 al), (i64 bo), (i64 bw), (u64 bv), (stA bq bn), (slP bp 5 bl)]) w) 5 (s6c 5 (aggV [(i64 k), (i64 ao), (i64 aw), (u64 av), (stA aq an), (slP ap 5 al), (i64 bo), (i64 bw), (u64 bv), (stA bq bn), (slP bp 5 bl)]) w)), (i64 (p6 6 (aggV [(i64 k), (i64 ao), (i64 aw), (u64 av), (stA aq an), (slP ap 5 al), (i64 bo), (i64 bw), (u64 bv), (stA bq bn), (slP bp 5 bl)]) w)), (i64 (p6 7 (aggV [(i64 k), (i64 ao), (i64 aw), (u64 av), (stA aq an), (slP ap 5 al), (i64 bo), (i64 bw), (u64 bv), (stA bq bn), (slP bp 5 bl)]) w)), (u64 (p6 8 (aggV [(i64 k), (i64 ao), (i64 aw), (u64 av), (stA aq an), (slP ap 5 al), (i64 bo), (i64 bw), (u64 bv), (stA bq bn), (slP bp 5 bl)]) w)), (stA (q6 9 (aggV [(i64 k), (i64 ao), (i64 aw), (u64 av), (stA aq an), (slP ap 5 al), (i64 bo), (i64 bw), (u64 bv), (stA bq bn), (slP bp 5 bl)]) w) (p6 9 (aggV [(i64 k), (i64 ao), (i64 aw), (u64 av), (stA aq an), (slP ap 5 al), (i64 bo), (i64 bw), (u64 bv), (stA bq bn), (slP bp 5 bl)]) w)), (slP (p6 10 (aggV [(i64 k), (i64 ao), (i64 aw), (u64 av), (stA aq an), (slP ap 5 al), (i64 bo), (i64 bw), (u64 bv), (stA bq bn), (slP bp 5 bl)]) w) 5 (s6c 10 (aggV [(i64 k), (i64 ao), (i64 aw), (u64 av), (stA aq an), (slP ap 5 al), (i64 bo), (i64 bw), (u64 bv), (stA bq bn), (slP bp 5 bl)]) w))]) (aggV [(i64 (p7 0 (aggV [(i64 k), (i64 ao), (i64 aw), (u64 av), (stA aq an), (slP ap 5 al), (i64 bo), (i64 bw), (u64 bv), (stA bq bn), (slP bp 5 bl)]) w)), (i64 (p7 1 (aggV [(i64 k), (i64 ao), (i64 aw), (u64 av), (stA aq an), (slP ap 5 al), (i64 bo), (i64 bw), (u64 bv), (stA bq bn), (slP bp 5 bl)]) w)), (i64 (p7 2 (aggV [(i64 k), (i64 ao), (i64 aw), (u64 av), (stA aq an), (slP ap 5 al), (i64 bo), (i64 bw), (u64 bv), (stA bq bn), (slP bp 5 bl)]) w)), (u64 (p7 3 (aggV [(i64 k), (i64 ao), (i64 aw), (u64 av), (stA aq an), (slP ap 5 al), (i64 bo), (i64 bw), (u64 bv), (stA bq bn), (slP bp 5 bl)]) w)), (stA (q7 4 (aggV [(i64 k), (i64 ao), (i64 aw), (u64 av), (stA aq an), (slP ap 5 al), (i64 bo), (i64 bw), (u64 bv), (stA bq bn), (slP bp 5 bl)]) w) (p7 4 (aggV [(i64 k), (i64 ao), (i64 aw), (u64 av), (stA aq an), (slP ap 5 al), (i64 bo), (i64 bw), (u64 bv), (stA bq bn), (slP bp 5 bl)]) w)), (slP (p7 5 (aggV [(i64 k), (i64 ao), (i64 aw), (u64 av), (stA aq an), (slP ap 5 al), (i64 bo), (i64 bw), (u64 bv), (stA bq bn), (slP bp 5 bl)]) w) 5 (s7c 5 (aggV [(i64 k), (i64 ao), (i64 aw), (u64 av), (stA aq an), (slP ap 5 al), (i64 bo), (i64 bw), (u64 bv), (stA bq bn), (slP bp 5 bl)]) w)), (i64 (p7 6 (aggV [(i64 k), (i64 ao), (i64 aw), (u64 av), (stA aq an), (slP ap 5 al), (i64 bo), (i64 bw), (u64 bv), (stA bq bn), (slP bp 5 bl)]) w)), (i64 (p7 7 (aggV [(i64 k), (i64 ao), (i64 aw), (u64 av), (stA aq an), (slP ap 5 al), (i64 bo), (i64 bw), (u64 bv), (stA bq bn), (slP bp 5 bl)]) w)), (u64 (p7 8 (aggV [(i64 k), (i64 ao), (i64 aw), (u64 av), (stA aq an), (slP ap 5 al), (i64 bo), (i64 bw), (u64 bv), (stA bq bn), (slP bp 5 bl)]) w)), (stA (q7 9 (aggV [(i64 k), (i64 ao), (i64 aw), (u64 av), (stA aq an), (slP ap 5 al), (i64 bo), (i64 bw), (u64 bv), (stA bq bn), (slP bp 5 bl)]) w) (p7 9 (aggV [(i64 k), (i64 ao), (i64 aw), (u64 av), (stA aq an), (slP ap 5 al), (i64 bo), (i64 bw), (u64 bv), (stA bq bn), (slP bp 5 bl)]) w)), (slP (p7 10 (aggV [(i64 k), (i64 ao), (i64 aw), (u64 av), (stA aq an), (slP ap 5 al), (i64 bo), (i64 bw), (u64 bv), (stA bq bn), (slP bp 5 bl)]) w) 5 (s7c 10 (aggV [(i64 k), (i64 ao), (i64 aw), (u64 av), (stA aq an), (slP ap 5 al), (i64 bo), (i64 bw), (u64 bv), (stA bq bn), (slP bp 5 bl)]) w))])) 1 0) 0)
                          (ansY { tag := 8, p := 0, q := 0, r := 0, s := 0, cs := [] })
                          (failR 40)))
                      (failR 301))
                    (bi (nbeq (bi (eqT (unTm (aggV [(i64 ((t9 (aggV [(i64 k), (i64 ao), (i64 aw), (u64 av), (stA aq an), (slP ap 5 al), (i64 bo), (i64 bw), (u64 bv), (stA bq bn), (slP bp 5 bl)])).op)), (i64 ((t9 (aggV [(i64 k), (i64 ao), (i64 aw), (u64 av), (stA aq an), (slP ap 5 al), (i64 bo), (i64 bw), (u64 bv), (stA bq bn), (slP bp 5 bl)])).w)), (u64 ((t9 (aggV [(i64 k), (i64 ao), (i64 aw), (u64 av), (stA aq an), (slP ap 5 al), (i64 bo), (i64 bw), (u64 bv), (stA bq bn), (slP bp 5 bl)])).v)), (stA ((t9 (aggV [(i64 k), (i64 ao), (i64 aw), (u64 av), (stA aq an), (slP ap 5 al), (i64 bo), (i64 bw), (u64 bv), (stA bq bn), (slP bp 5 bl)])).nq) ((t9 (aggV [(i64 k), (i64 ao), (i64 aw), (u64 av), (stA aq an), (slP ap 5 al), (i64 bo), (i64 bw), (u64 bv), (stA bq bn), (slP bp 5 bl)])).np)), (slP ((t9 (aggV [(i64 k), (i64 ao), (i64 aw), (u64 av), (stA aq an), (slP ap 5 al), (i64 bo), (i64 bw), (u64 bv), (stA bq bn), (slP bp 5 bl)])).p) 5 (List.map tmA (t9 (aggV [(i64 k), (i64 ao), (i64 aw), (u64 av), (stA aq an), (slP ap 5 al), (i64 bo), (i64 bw), (u64 bv), (stA bq bn), (slP bp 5 bl)])).as))])) (unTm (aggV [(i64 ((t10 (aggV [(i64 k), (i64 ao), (i64 aw), (u64 av), (stA aq an), (slP ap 5 al), (i64 bo), (i64 bw), (u64 bv), (stA bq bn), (slP bp 5 bl)])).op)), (i64 ((t10 (aggV [(i64 k), (i64 ao), (i64 aw), (u64 av), (stA aq an), (slP ap 5 al), (i64 bo), (i64 bw), (u64 bv), (stA bq bn), (slP bp 5 bl)])).w)), (u64 ((t10 (aggV [(i64 k), (i64 ao), (i64 aw), (u64 av), (stA aq an), (slP ap 5 al), (i64 bo), (i64 bw), (u64 bv), (stA bq bn), (slP bp 5 bl)])).v)), (stA ((t10 (aggV [(i64 k), (i64 ao), (i64 aw), (u64 av), (stA aq an), (slP ap 5 al), (i64 bo), (i64 bw), (u64 bv), (stA bq bn), (slP bp 5 bl)])).nq) ((t10 (aggV [(i64 k), (i64 ao), (i64 aw), (u64 av), (stA aq an), (slP ap 5 al), (i64 bo), (i64 bw), (u64 bv), (stA bq bn), (slP bp 5 bl)])).np)), (slP ((t10 (aggV [(i64 k), (i64 ao), (i64 aw), (u64 av), (stA aq an), (slP ap 5 al), (i64 bo), (i64 bw), (u64 bv), (stA bq bn), (slP bp 5 bl)])).p) 5 (List.map tmA (t10 (aggV [(i64 k), (i64 ao), (i64 aw), (u64 av), (stA aq an), (slP ap 5 al), (i64 bo), (i64 bw), (u64 bv), (stA bq bn), (slP bp 5 bl)])).as))]))) 1 0) 0)
                      (ansY { tag := 8, p := 0, q := 0, r := 0, s := 0, cs := [] })
                      (failR 40)))
                  (failR 301))
                (failR 301))
              (failR 90))
            (failR 301))
          (failR 301))
        (failR 301)))
    (failR 301)) := by kernel_rfl
theorem body3 : Tryz.f3.body = some (bodyC Tryz.f3) := by kernel_rfl
theorem fn3' : Tryz.prog.funcs[3]? = some Tryz.f3 := by kernel_rfl
theorem nt3 : Tryz.f3.ntmps = 43 := by kernel_rfl
theorem rs3 : Tryz.f3.results.toList = [.tmp 4] := by kernel_rfl
theorem len_at (w : Nat) : ∀ t : Tm, Len63 t → Len63 (atO t w) := by
  intro t
  induction t using Tm.ind with
  | h op wd v nq np p l ih =>
    intro h
    obtain ⟨h1, h2⟩ : l.length < 2 ^ 63 ∧ ∀ t ∈ l, Len63 t := by cases h with | mk h1 h2 => exact ⟨h1, h2⟩
    have key : ∀ (l bs : List Tm), (∀ t ∈ l, Len63 t → Len63 (atO t w)) → (∀ t ∈ l, Len63 t) → atPs w l = some bs → bs.length = l.length ∧ ∀ t ∈ bs, Len63 t := by
      intro l
      induction l with
      | nil => intro bs _ _ h; rw [atPs] at h; cases h; exact ⟨rfl, fun t ht => by cases ht⟩
      | cons a l ihl =>
        intro bs hi hl h
        rw [atPs] at h
        split at h
        · cases hc : atPs w l with
          | none => rw [hc] at h; cases h
          | some cs =>
            rw [hc] at h
            cases h
            obtain ⟨g1, g2⟩ := ihl cs (fun t ht => hi t (by simp [ht])) (fun t ht => hl t (by simp [ht])) hc
            refine ⟨by simp [g1], fun t ht => ?_⟩
            rcases List.mem_cons.1 ht with rfl | ht
            · exact hi a (by simp) (hl a (by simp))
            · exact g2 t ht
        · cases h
    unfold atO
    rw [atP]
    split
    · exact .mk (by simp) fun t ht => by cases ht
    · cases hc : atPs w l with
      | none => exact .mk (by simp) fun t ht => by cases ht
      | some bs =>
        obtain ⟨g1, g2⟩ := key l bs ih h2 hc
        exact .mk (by omega) g2
theorem len_zero : Len63 zeroT := .mk (by simp) fun t ht => by cases ht
theorem len_AtO {t : Tm} {w : Nat} (h : Len63 t) : Len63 (AtO t w) := by
  unfold AtO atRO
  split
  · split
    · exact len_at w t h
    · exact len_zero
  · exact len_zero
theorem len_two {op w : Nat} {a b : Tm} (ha : Len63 a) (hb : Len63 b) : Len63 (.mk op w 0 0 0 1 [a, b]) := .mk (by simp) fun t ht => by
  simp only [List.mem_cons, List.not_mem_nil, or_false] at ht
  rcases ht with rfl | rfl
  · exact ha
  · exact hb
theorem len_con {w : Nat} : Len63 (.mk 2 w 0 0 0 0 []) := .mk (by simp) fun t ht => by cases ht
theorem len_term (k : Nat) {a b : Tm} (ha : a.Sm 40) (hb : b.Sm 40) : Len63 (gTermA k a b) ∧ Len63 (gTermR k a b) := by
  have ha' := ha.len
  have hb' := hb.len
  have ha2 := (sm_cp ha).len
  have hb2 := (sm_cp hb).len
  unfold gTermA gTermR
  constructor
  all_goals repeat' split
  all_goals first | assumption | exact len_zero | exact len_two ‹_› ‹_› | exact len_two (len_two ‹_› ‹_›) len_con
theorem mk_gd (k : Nat) (a b : Tm) : aggV [i64 k, i64 a.op, i64 a.w, u64 a.v, stA a.nq a.np, slP a.p 5 (a.as.map tmA), i64 b.op, i64 b.w, u64 b.v, stA b.nq b.np, slP b.p 5 (b.as.map tmA)] = gdA k a b := rfl
theorem mk_v6 (x : AV) (w : Nat) : aggV [i64 (p6 0 x w), i64 (p6 1 x w), i64 (p6 2 x w), u64 (p6 3 x w), stA (q6 4 x w) (p6 4 x w), slP (p6 5 x w) 5 (s6c 5 x w), i64 (p6 6 x w), i64 (p6 7 x w), u64 (p6 8 x w), stA (q6 9 x w) (p6 9 x w), slP (p6 10 x w) 5 (s6c 10 x w)] = v6 x w := rfl
theorem mk_v7 (x : AV) (w : Nat) : aggV [i64 (p7 0 x w), i64 (p7 1 x w), i64 (p7 2 x w), u64 (p7 3 x w), stA (q7 4 x w) (p7 4 x w), slP (p7 5 x w) 5 (s7c 5 x w), i64 (p7 6 x w), i64 (p7 7 x w), u64 (p7 8 x w), stA (q7 9 x w) (p7 9 x w), slP (p7 10 x w) 5 (s7c 10 x w)] = v7 x w := rfl
theorem gk_gd (k : Nat) (a b : Tm) : gk (gdA k a b) = k := rfl
theorem ga_gd (k : Nat) (a b : Tm) : ga (gdA k a b) = a := by
  have : ga (gdA k a b) = unTm (tmV a.op a.w a.v a.nq a.np a.p (a.as.map tmA)) := rfl
  rw [this, tmV_A, unTm_A]
theorem gb_gd (k : Nat) (a b : Tm) : gb (gdA k a b) = b := by
  have : gb (gdA k a b) = unTm (tmV b.op b.w b.v b.nq b.np b.p (b.as.map tmA)) := rfl
  rw [this, tmV_A, unTm_A]
theorem eqA_gd {k : Nat} {a b : Tm} (ha : a.Sm 40) (hb : b.Sm 40) : eqA 1000 (gdA k a b) (gdA k a b) = true := by
  unfold gdA
  refine eqA_agg 999 15 0 0 0 0 _ fun c hc => ?_
  have key : ∀ (t : Tm), t.Sm 40 → eqA 999 (slP t.p 5 (t.as.map tmA)) (slP t.p 5 (t.as.map tmA)) = true := fun t ht => eqA_agg 998 24 _ 0 5 0 _ fun c hc => by
    obtain ⟨s, hs, rfl⟩ := List.mem_map.1 hc
    cases ht with
    | mk h1 h2 => exact eqA_tm 39 s (h2 s hs) 998 (by omega)
  have key2 : ∀ t p q r s, eqA 999 ⟨t, p, q, r, s, []⟩ ⟨t, p, q, r, s, []⟩ = true := fun t p q r s => eqA_agg 998 _ _ _ _ _ _ fun c hc => by cases hc
  simp only [List.mem_cons, List.not_mem_nil, or_false] at hc
  rcases hc with rfl | rfl | rfl | rfl | rfl | rfl | rfl | rfl | rfl | rfl | rfl <;> first | exact key _ ha | exact key _ hb | exact key2 _ _ _ _ _
theorem law3 (J : Jmp) (k : Nat) (a b : Tm) (w : Nat) (hoa : a.ok) (hob : b.ok) (hw : w < 2 ^ 64) : (compY Tryz.prog 43 (fun _ => none) (finY Tryz.prog [.tmp 4] [4]) J [] (bodyC Tryz.f3) (finY Tryz.prog [.tmp 4] [4]) []).run R27 (setArgs 0 [gdA k a b, i64 w] noFr) (globH Tryz.prog L27) = ansY (bV true) := by
  have q4 := okN_one.2 (pure4 k a b hoa.len hob.len)
  have e4 : lt27 (gdA k a b) = (lightB a 12 20 && lightB b 12 20) := by unfold lt27; rw [ga_gd, gb_gd]
  rw [show gdA k a b = aggV [i64 k, i64 a.op, i64 a.w, u64 a.v, stA a.nq a.np, slP a.p 5 (a.as.map tmA), i64 b.op, i64 b.w, u64 b.v, stA b.nq b.np, slP b.p 5 (b.as.map tmA)] from rfl]
  refine (s3 J k a.op a.w a.v a.nq a.np a.p b.op b.w b.v b.nq b.np b.p w (a.as.map tmA) (b.as.map tmA)).trans ?_
  simp only [bV, mk1] at q4
  simp only [mk_i64, mk_u64, mk_stA, mk_slP, mk_agg, mk_ls, mk_gd, mk_v6, mk_v7, mk_tm, unTm_A, e4, q4, n11, bi_tt, bS]
  cases hl : lightB a 12 20 && lightB b 12 20
  · rfl
  obtain ⟨hla, hlb⟩ := Bool.and_eq_true _ _ ▸ hl
  have sa := (sm_light hla).up (show 12 ≤ 40 by omega)
  have sb := (sm_light hlb).up (show 12 ≤ 40 by omega)
  have e6 : v6 (gdA k a b) w = gdA (gK k a b w) (gAa k a b w) (gBp k a b w) := by rw [v6_eq]; unfold g6V; rw [gk_gd, ga_gd, gb_gd]
  have e7 : v7 (gdA k a b) w = gdA (gK k a b w) (gAa k a b w) (gBr k a b w) := by rw [v7_eq]; unfold g7V; rw [gk_gd, ga_gd, gb_gd]
  have e67' : e67 (gdA k a b) w = gE k a b w := by unfold e67; rw [gk_gd, ga_gd, gb_gd]
  have e9 : t9 (gdA k a b) = gTermA k a b := by unfold t9; rw [gk_gd, ga_gd, gb_gd]
  have e10 : t10 (gdA k a b) = gTermR k a b := by unfold t10; rw [gk_gd, ga_gd, gb_gd]
  have e11 : same11 (gdA (gK k a b w) (gAa k a b w) (gBp k a b w)) (gdA (gK k a b w) (gAa k a b w) (gBr k a b w)) = true := by
    unfold same11
    rw [gk_gd, gk_gd, ga_gd, ga_gd, gb_gd, gb_gd]
    exact same_guard k a b w
  have q6 := okN_one.2 (pure6 k a b w sa sb hoa hob hw)
  have q7 := okN_one.2 (pure7 k a b w sa sb hoa hob hw)
  have q9 := okN_one.2 (pure9 k a b sa sb)
  have q10 := okN_one.2 (pure10 k a b)
  have q8 := okN_one.2 (pure8 _ _ (len_term k sa sb).1 (len_term k sa sb).2)
  have la : Len63 (gAa k a b w) := by unfold gAa; split; exact len_AtO hoa.len; exact len_zero
  have lbp : Len63 (gBp k a b w) := by
    unfold gBp
    split
    · split
      · exact (sm_cp sb).len
      · exact len_AtO hob.len
    · exact len_zero
  have lbr : Len63 (gBr k a b w) := by
    unfold gBr
    split
    · split
      · exact hob.len
      · exact len_AtO hob.len
    · exact len_zero
  have q11 := okN_one.2 (pure11 (gK k a b w) (gK k a b w) _ _ _ _ la lbp la lbr)
  rw [same_guard] at q11
  rw [same_term] at q8
  have eg := eqA_gd (k := k) sa sb
  simp only [tupV, bV, mk1, mk_ls, bi_tt] at q6 q7 q8 q11
  simp only [e6, e7, e67', e9, e10, e11, same_term, q6, q7, q8, q9, q10, q11, eg, n11, bi_tt, bi_ff, nbeq_refl, bl_bi, unTm_A]
  rfl
theorem law_calls (k : Nat) (a b : Tm) (w : Nat) (hoa : a.ok) (hob : b.ok) (hw : w < 2 ^ 64) {W : World} {vals : List Value} (hW : LaidL W L27) (hsz : Tryz.prog.globals.size ≤ W.heap.size) (hargs : FVs (allZ W) [gdA k a b, i64 w] vals) : Calls Tryz.prog 3 vals.toArray W fun e W' => e = .returned (.bool true) ∧ Below W.heap.size W W' :=
  law_ok mixed fn3' body3 nt3 rs3 R27_ok globs L27_lt L27_low (lab := fun _ => none) (ts := [4]) (n := 0) (law3 _ k a b w hoa hob hw) hW hsz hargs
end Go.Eng
