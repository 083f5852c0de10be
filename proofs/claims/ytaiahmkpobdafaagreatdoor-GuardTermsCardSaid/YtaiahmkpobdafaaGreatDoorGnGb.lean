/- A part of the proof that the evaluator in GnC, and the driver in GnZ, answer as the model does; no conditions. -/
import Derived.Test.YtaiahmkpobdafaaGreatDoorGnGa
namespace Go.Eng
open Go.RowKit Go.Proofs
theorem s12 (J : Jmp) (to tw tv tq tn tp d n : Nat) (tl : List AV) : (compY Tryz.prog 15 (fun _ => none) (finY Tryz.prog [.cell 6 26, .tmp 7] [26, 4]) J [] (bodyC Tryz.f12) (finY Tryz.prog [.cell 6 26, .tmp 7] [26, 4]) []).run RF (setArgs 0 [tmV to tw tv tq tn tp tl, i64 d, i64 n] noFr) (baseH Tryz.prog) =
  (bi (nbeq (okN (PureAt Tryz.prog 28 [(aggV [(i64 to), (i64 tw), (u64 tv), (stA tq tn), (slP tp 5 tl)]), (i64 d), (i64 n)] (i64 (cntN (unTm (aggV [(i64 to), (i64 tw), (u64 tv), (stA tq tn), (slP tp 5 tl)])) d n)))) 1)
    (bi (nbeq (bi (nb (nble 9223372036854775808 (biased 3 (cntN (unTm (aggV [(i64 to), (i64 tw), (u64 tv), (stA tq tn), (slP tp 5 tl)])) d n)))) 1 0) 1)
      (ansY { tag := 16, p := 0, q := 0, r := 0, s := 0, cs := [(aggV [(i64 0), (i64 0), (u64 0), (stA 0 0), (slP 0 5 [])]), { tag := 8, p := 0, q := 0, r := 0, s := 0, cs := [] }] })
      (ansY { tag := 16, p := 0, q := 0, r := 0, s := 0, cs := [(aggV [(i64 to), (i64 tw), (u64 tv), (stA tq tn), (slP tp 5 tl)]), { tag := 8, p := 1, q := 0, r := 0, s := 0, cs := [] }] }))
    (failR 301)) := by kernel_rfl
theorem s4 (J : Jmp) (k ao aw av aq an ap bo bw bv bq bn bp : Nat) (al bl : List AV) : (compY Tryz.prog 23 (fun _ => none) (finY Tryz.prog [.tmp 2] [4]) J [] (bodyC Tryz.f4) (finY Tryz.prog [.tmp 2] [4]) []).run RF (setArgs 0 [aggV [i64 k, i64 ao, i64 aw, u64 av, stA aq an, slP ap 5 al, i64 bo, i64 bw, u64 bv, stA bq bn, slP bp 5 bl]] noFr) (baseH Tryz.prog) =
  (bi (nbeq (okN (PureAt Tryz.prog 12 [(aggV [(i64 ao), (i64 aw), (u64 av), (stA aq an), (slP ap 5 al)]), (i64 12), (i64 20)] { tag := 16, p := 0, q := 0, r := 0, s := 0, cs := [(aggV [(i64 ((lightO (unTm (aggV [(i64 ao), (i64 aw), (u64 av), (stA aq an), (slP ap 5 al)])) 12 20).op)), (i64 ((lightO (unTm (aggV [(i64 ao), (i64 aw), (u64 av), (stA aq an), (slP ap 5 al)])) 12 20).w)), (u64 ((lightO (unTm (aggV [(i64 ao), (i64 aw), (u64 av), (stA aq an), (slP ap 5 al)])) 12 20).v)), (stA ((lightO (unTm (aggV [(i64 ao), (i64 aw), (u64 av), (stA aq an), (slP ap 5 al)])) 12 20).nq) ((lightO (unTm (aggV [(i64 ao), (i64 aw), (u64 av), (stA aq an), (slP ap 5 al)])) 12 20).np)), (slP ((lightO (unTm (aggV [(i64 ao), (i64 aw), (u64 av), (stA aq an), (slP ap 5 al)])) 12 20).p) 5 (List.map tmA (lightO (unTm (aggV [(i64 ao), (i64 aw), (u64 av), (stA aq an), (slP ap 5 al)])) 12 20).as))]), { tag := 8, p := bi (lightB (unTm (aggV [(i64 ao), (i64 aw), (u64 av), (stA aq an), (slP ap 5 al)])) 12 20) 1 0, q := 0, r := 0, s := 0, cs := [] }] })) 1)
    (bi (nbeq (okN (PureAt Tryz.prog 12 [(aggV [(i64 bo), (i64 bw), (u64 bv), (stA bq bn), (slP bp 5 bl)]), (i64 12), (i64 20)] { tag := 16, p := 0, q := 0, r := 0, s := 0, cs := [(aggV [(i64 ((lightO (unTm (aggV [(i64 bo), (i64 bw), (u64 bv), (stA bq bn), (slP bp 5 bl)])) 12 20).op)), (i64 ((lightO (unTm (aggV [(i64 bo), (i64 bw), (u64 bv), (stA bq bn), (slP bp 5 bl)])) 12 20).w)), (u64 ((lightO (unTm (aggV [(i64 bo), (i64 bw), (u64 bv), (stA bq bn), (slP bp 5 bl)])) 12 20).v)), (stA ((lightO (unTm (aggV [(i64 bo), (i64 bw), (u64 bv), (stA bq bn), (slP bp 5 bl)])) 12 20).nq) ((lightO (unTm (aggV [(i64 bo), (i64 bw), (u64 bv), (stA bq bn), (slP bp 5 bl)])) 12 20).np)), (slP ((lightO (unTm (aggV [(i64 bo), (i64 bw), (u64 bv), (stA bq bn), (slP bp 5 bl)])) 12 20).p) 5 (List.map tmA (lightO (unTm (aggV [(i64 bo), (i64 bw), (u64 bv), (stA bq bn), (slP bp 5 bl)])) 12 20).as))]), { tag := 8, p := bi (lightB (unTm (aggV [(i64 bo), (i64 bw), (u64 bv), (stA bq bn), (slP bp 5 bl)])) 12 20) 1 0, q := 0, r := 0, s := 0, cs := [] }] })) 1)
      (bi (nbeq (bi (lightB (unTm (aggV [(i64 ao), (i64 aw), (u64 av), (stA aq an), (slP ap 5 al)])) 12 20) 1 0) 1)
        (ansY { tag := 8, p := bi (lightB (unTm (aggV [(i64 bo), (i64 bw), (u64 bv), (stA bq bn), (slP bp 5 bl)])) 12 20) 1 0, q := 0, r := 0, s := 0, cs := [] })
        (ansY { tag := 8, p := 0, q := 0, r := 0, s := 0, cs := [] }))
      (failR 301))
    (failR 301)) := by kernel_rfl
theorem s9 (J : Jmp) (k ao aw av aq an ap bo bw bv bq bn bp : Nat) (al bl : List AV) : (compY Tryz.prog 41 (fun _ => none) (finY Tryz.prog [.cell 2 26] [26]) J [] (bodyC Tryz.f9) (finY Tryz.prog [.cell 2 26] [26]) []).run RF (setArgs 0 [aggV [i64 k, i64 ao, i64 aw, u64 av, stA aq an, slP ap 5 al, i64 bo, i64 bw, u64 bv, stA bq bn, slP bp 5 bl]] noFr) (baseH Tryz.prog) =
  (bi (nbeq (okN (PureAt Tryz.prog 23 [(aggV [(i64 ao), (i64 aw), (u64 av), (stA aq an), (slP ap 5 al)])] (aggV [(i64 ((cpT (unTm (aggV [(i64 ao), (i64 aw), (u64 av), (stA aq an), (slP ap 5 al)]))).op)), (i64 ((cpT (unTm (aggV [(i64 ao), (i64 aw), (u64 av), (stA aq an), (slP ap 5 al)]))).w)), (u64 ((cpT (unTm (aggV [(i64 ao), (i64 aw), (u64 av), (stA aq an), (slP ap 5 al)]))).v)), (stA ((cpT (unTm (aggV [(i64 ao), (i64 aw), (u64 av), (stA aq an), (slP ap 5 al)]))).nq) ((cpT (unTm (aggV [(i64 ao), (i64 aw), (u64 av), (stA aq an), (slP ap 5 al)]))).np)), (slP ((cpT (unTm (aggV [(i64 ao), (i64 aw), (u64 av), (stA aq an), (slP ap 5 al)]))).p) 5 (List.map tmA (cpT (unTm (aggV [(i64 ao), (i64 aw), (u64 av), (stA aq an), (slP ap 5 al)]))).as))]))) 1)
    (bi (eqA 1000 (aggV [(i64 bo), (i64 bw), (u64 bv), (stA bq bn), (slP bp 5 bl)]) (aggV [(i64 bo), (i64 bw), (u64 bv), (stA bq bn), (slP bp 5 bl)]))
      (bi (nbeq (okN (PureAt Tryz.prog 23 [(aggV [(i64 bo), (i64 bw), (u64 bv), (stA bq bn), (slP bp 5 bl)])] (aggV [(i64 ((cpT (unTm (aggV [(i64 bo), (i64 bw), (u64 bv), (stA bq bn), (slP bp 5 bl)]))).op)), (i64 ((cpT (unTm (aggV [(i64 bo), (i64 bw), (u64 bv), (stA bq bn), (slP bp 5 bl)]))).w)), (u64 ((cpT (unTm (aggV [(i64 bo), (i64 bw), (u64 bv), (stA bq bn), (slP bp 5 bl)]))).v)), (stA ((cpT (unTm (aggV [(i64 bo), (i64 bw), (u64 bv), (stA bq bn), (slP bp 5 bl)]))).nq) ((cpT (unTm (aggV [(i64 bo), (i64 bw), (u64 bv), (stA bq bn), (slP bp 5 bl)]))).np)), (slP ((cpT (unTm (aggV [(i64 bo), (i64 bw), (u64 bv), (stA bq bn), (slP bp 5 bl)]))).p) 5 (List.map tmA (cpT (unTm (aggV [(i64 bo), (i64 bw), (u64 bv), (stA bq bn), (slP bp 5 bl)]))).as))]))) 1)
        (bi (nbeq (bi (nbeq k 1) 1 0) 1)
          (ansY (aggV [(i64 ((cpT (unTm (aggV [(i64 ao), (i64 aw), (u64 av), (stA aq an), (slP ap 5 al)]))).op)), (i64 ((cpT (unTm (aggV [(i64 ao), (i64 aw), (u64 av), (stA aq an), (slP ap 5 al)]))).w)), (u64 ((cpT (unTm (aggV [(i64 ao), (i64 aw), (u64 av), (stA aq an), (slP ap 5 al)]))).v)), (stA ((cpT (unTm (aggV [(i64 ao), (i64 aw), (u64 av), (stA aq an), (slP ap 5 al)]))).nq) ((cpT (unTm (aggV [(i64 ao), (i64 aw), (u64 av), (stA aq an), (slP ap 5 al)]))).np)), (slP ((cpT (unTm (aggV [(i64 ao), (i64 aw), (u64 av), (stA aq an), (slP ap 5 al)]))).p) 5 (List.map tmA (cpT (unTm (aggV [(i64 ao), (i64 aw), (u64 av), (stA aq an), (slP ap 5 al)]))).as))]))
          (bi (nbeq (bi (nbeq k 2) 1 0) 1)
            (bi (nbeq (okN (PureAt Tryz.prog 26 [(i64 16), (aggV [(i64 ((cpT (unTm (aggV [(i64 ao), (i64 aw), (u64 av), (stA aq an), (slP ap 5 al)]))).op)), (i64 ((cpT (unTm (aggV [(i64 ao), (i64 aw), (u64 av), (stA aq an), (slP ap 5 al)]))).w)), (u64 ((cpT (unTm (aggV [(i64 ao), (i64 aw), (u64 av), (stA aq an), (slP ap 5 al)]))).v)), (stA ((cpT (unTm (aggV [(i64 ao), (i64 aw), (u64 av), (stA aq an), (slP ap 5 al)]))).nq) ((cpT (unTm (aggV [(i64 ao), (i64 aw), (u64 av), (stA aq an), (slP ap 5 al)]))).np)), (slP ((cpT (unTm (aggV [(i64 ao), (i64 aw), (u64 av), (stA aq an), (slP ap 5 al)]))).p) 5 (List.map tmA (cpT (unTm (aggV [(i64 ao), (i64 aw), (u64 av), (stA aq an), (slP ap 5 al)]))).as))]), (aggV [(i64 ((cpT (unTm (aggV [(i64 bo), (i64 bw), (u64 bv), (stA bq bn), (slP bp 5 bl)]))).op)), (i64 ((cpT (unTm (aggV [(i64 bo), (i64 bw), (u64 bv), (stA bq bn), (slP bp 5 bl)]))).w)), (u64 ((cpT (unTm (aggV [(i64 bo), (i64 bw), (u64 bv), (stA bq bn), (slP bp 5 bl)]))).v)), (stA ((cpT (unTm (aggV [(i64 bo), (i64 bw), (u64 bv), (stA bq bn), (slP bp 5 bl)]))).nq) ((cpT (unTm (aggV [(i64 bo), (i64 bw), (u64 bv), (stA bq bn), (slP bp 5 bl)]))).np)), (slP ((cpT (unTm (aggV [(i64 bo), (i64 bw), (u64 bv), (stA bq bn), (slP bp 5 bl)]))).p) 5 (List.map tmA (cpT (unTm (aggV [(i64 bo), (i64 bw), (u64 bv), (stA bq bn), (slP bp 5 bl)]))).as))])] (aggV [(i64 16), (i64 1), (u64 0), (stA 0 0), (slP 1 5 [(aggV [(i64 ((cpT (unTm (aggV [(i64 ao), (i64 aw), (u64 av), (stA aq an), (slP ap 5 al)]))).op)), (i64 ((cpT (unTm (aggV [(i64 ao), (i64 aw), (u64 av), (stA aq an), (slP ap 5 al)]))).w)), (u64 ((cpT (unTm (aggV [(i64 ao), (i64 aw), (u64 av), (stA aq an), (slP ap 5 al)]))).v)), (stA ((cpT (unTm (aggV [(i64 ao), (i64 aw), (u64 av), (stA aq an), (slP ap 5 al)]))).nq) ((cpT (unTm (aggV [(i64 ao), (i64 aw), (u64 av), (stA aq an), (slP ap 5 al)]))).np)), (slP ((cpT (unTm (aggV [(i64 ao), (i64 aw), (u64 av), (stA aq an), (slP ap 5 al)]))).p) 5 (List.map tmA (cpT (unTm (aggV [(i64 ao), (i64 aw), (u64 av), (stA aq an), (slP ap 5 al)]))).as))]), (aggV [(i64 ((cpT (unTm (aggV [(i64 bo), (i64 bw), (u64 bv), (stA bq bn), (slP bp 5 bl)]))).op)), (i64 ((cpT (unTm (aggV [(i64 bo), (i64 bw), (u64 bv), (stA bq bn), (slP bp 5 bl)]))).w)), (u64 ((cpT (unTm (aggV [(i64 bo), (i64 bw), (u64 bv), (stA bq bn), (slP bp 5 bl)]))).v)), (stA ((cpT (unTm (aggV [(i64 bo), (i64 bw), (u64 bv), (stA bq bn), (slP bp 5 bl)]))).nq) ((cpT (unTm (aggV [(i64 bo), (i64 bw), (u64 bv), (stA bq bn), (slP bp 5 bl)]))).np)), (slP ((cpT (unTm (aggV [(i64 bo), (i64 bw), (u64 bv), (stA bq bn), (slP bp 5 bl)]))).p) 5 (List.map tmA (cpT (unTm (aggV [(i64 bo), (i64 bw), (u64 bv), (stA bq bn), (slP bp 5 bl)]))).as))])])]))) 1)
              (ansY (aggV [(i64 16), (i64 1), (u64 0), (stA 0 0), (slP 1 5 [(aggV [(i64 ((cpT (unTm (aggV [(i64 ao), (i64 aw), (u64 av), (stA aq an), (slP ap 5 al)]))).op)), (i64 ((cpT (unTm (aggV [(i64 ao), (i64 aw), (u64 av), (stA aq an), (slP ap 5 al)]))).w)), (u64 ((cpT (unTm (aggV [(i64 ao), (i64 aw), (u64 av), (stA aq an), (slP ap 5 al)]))).v)), (stA ((cpT (unTm (aggV [(i64 ao), (i64 aw), (u64 av), (stA aq an), (slP ap 5 al)]))).nq) ((cpT (unTm (aggV [(i64 ao), (i64 aw), (u64 av), (stA aq an), (slP ap 5 al)]))).np)), (slP ((cpT (unTm (aggV [(i64 ao), (i64 aw), (u64 av), (stA aq an), (slP ap 5 al)]))).p) 5 (List.map tmA (cpT (unTm (aggV [(i64 ao), (i64 aw), (u64 av), (stA aq an), (slP ap 5 al)]))).as))]), (aggV [(i64 ((cpT (unTm (aggV [(i64 bo), (i64 bw), (u64 bv), (stA bq bn), (slP bp 5 bl)]))).op)), (i64 ((cpT (unTm (aggV [(i64 bo), (i64 bw), (u64 bv), (stA bq bn), (slP bp 5 bl)]))).w)), (u64 ((cpT (unTm (aggV [(i64 bo), (i64 bw), (u64 bv), (stA bq bn), (slP bp 5 bl)]))).v)), (stA ((cpT (unTm (aggV [(i64 bo), (i64 bw), (u64 bv), (stA bq bn), (slP bp 5 bl)]))).nq) ((cpT (unTm (aggV [(i64 bo), (i64 bw), (u64 bv), (stA bq bn), (slP bp 5 bl)]))).np)), (slP ((cpT (unTm (aggV [(i64 bo), (i64 bw), (u64 bv), (stA bq bn), (slP bp 5 bl)]))).p) 5 (List.map tmA (cpT (unTm (aggV [(i64 bo), (i64 bw), (u64 bv), (stA bq bn), (slP bp 5 bl)]))).as))])])]))
              (failR 301))
            (bi (nbeq (bi (nbeq k 3) 1 0) 1)
              (bi (nbeq (okN (PureAt Tryz.prog 26 [(i64 16), (aggV [(i64 5), (i64 ((cpT (unTm (aggV [(i64 ao), (i64 aw), (u64 av), (stA aq an), (slP ap 5 al)]))).w)), (u64 0), (stA 0 0), (slP 1 5 [(aggV [(i64 ((cpT (unTm (aggV [(i64 ao), (i64 aw), (u64 av), (stA aq an), (slP ap 5 al)]))).op)), (i64 ((cpT (unTm (aggV [(i64 ao), (i64 aw), (u64 av), (stA aq an), (slP ap 5 al)]))).w)), (u64 ((cpT (unTm (aggV [(i64 ao), (i64 aw), (u64 av), (stA aq an), (slP ap 5 al)]))).v)), (stA ((cpT (unTm (aggV [(i64 ao), (i64 aw), (u64 av), (stA aq an), (slP ap 5 al)]))).nq) ((cpT (unTm (aggV [(i64 ao), (i64 aw), (u64 av), (stA aq an), (slP ap 5 al)]))).np)), (slP ((cpT (unTm (aggV [(i64 ao), (i64 aw), (u64 av), (stA aq an), (slP ap 5 al)]))).p) 5 (List.map tmA (cpT (unTm (aggV [(i64 ao), (i64 aw), (u64 av), (stA aq an), (slP ap 5 al)]))).as))]), (aggV [(i64 ((cpT (unTm (aggV [(i64 bo), (i64 bw), (u64 bv), (stA bq bn), (slP bp 5 bl)]))).op)), (i64 ((cpT (unTm (aggV [(i64 bo), (i64 bw), (u64 bv), (stA bq bn), (slP bp 5 bl)]))).w)), (u64 ((cpT (unTm (aggV [(i64 bo), (i64 bw), (u64 bv), (stA bq bn), (slP bp 5 bl)]))).v)), (stA ((cpT (unTm (aggV [(i64 bo), (i64 bw), (u64 bv), (stA bq bn), (slP bp 5 bl)]))).nq) ((cpT (unTm (aggV [(i64 bo), (i64 bw), (u64 bv), (stA bq bn), (slP bp 5 bl)]))).np)), (slP ((cpT (unTm (aggV [(i64 bo), (i64 bw), (u64 bv), (stA bq bn), (slP bp 5 bl)]))).p) 5 (List.map tmA (cpT (unTm (aggV [(i64 bo), (i64 bw), (u64 bv), (stA bq bn), (slP bp 5 bl)]))).as))])])]), (aggV [(i64 2), (i64 ((cpT (unTm (aggV [(i64 ao), (i64 aw), (u64 av), (stA aq an), (slP ap 5 al)]))).w)), (u64 0), (stA 0 0), (slP 0 5 [])])] (aggV [(i64 16), (i64 1), (u64 0), (stA 0 0), (slP 1 5 [(aggV [(i64 5), (i64 ((cpT (unTm (aggV [(i64 ao), (i64 aw), (u64 av), (stA aq an), (slP ap 5 al)]))).w)), (u64 0), (stA 0 0), (slP 1 5 [(aggV [(i64 ((cpT (unTm (aggV [(i64 ao), (i64 aw), (u64 av), (stA aq an), (slP ap 5 al)]))).op)), (i64 ((cpT (unTm (aggV [(i64 ao), (i64 aw), (u64 av), (stA aq an), (slP ap 5 al)]))).w)), (u64 ((cpT (unTm (aggV [(i64 ao), (i64 aw), (u64 av), (stA aq an), (slP ap 5 al)]))).v)), (stA ((cpT (unTm (aggV [(i64 ao), (i64 aw), (u64 av), (stA aq an), (slP ap 5 al)]))).nq) ((cpT (unTm (aggV [(i64 ao), (i64 aw), (u64 av), (stA aq an), (slP ap 5 al)]))).np)), (slP ((cpT (unTm (aggV [(i64 ao), (i64 aw), (u64 av), (stA aq an), (slP ap 5 al)]))).p) 5 (List.map tmA (cpT (unTm (aggV [(i64 ao), (i64 aw), (u64 av), (stA aq an), (slP ap 5 al)]))).as))]), (aggV [(i64 ((cpT (unTm (aggV [(i64 bo), (i64 bw), (u64 bv), (stA bq bn), (slP bp 5 bl)]))).op)), (i64 ((cpT (unTm (aggV [(i64 bo), (i64 bw), (u64 bv), (stA bq bn), (slP bp 5 bl)]))).w)), (u64 ((cpT (unTm (aggV [(i64 bo), (i64 bw), (u64 bv), (stA bq bn), (slP bp 5 bl)]))).v)), (stA ((cpT (unTm (aggV [(i64 bo), (i64 bw), (u64 bv), (stA bq bn), (slP bp 5 bl)]))).nq) ((cpT (unTm (aggV [(i64 bo), (i64 bw), (u64 bv), (stA bq bn), (slP bp 5 bl)]))).np)), (slP ((cpT (unTm (aggV [(i64 bo), (i64 bw), (u64 bv), (stA bq bn), (slP bp 5 bl)]))).p) 5 (List.map tmA (cpT (unTm (aggV [(i64 bo), (i64 bw), (u64 bv), (stA bq bn), (slP bp 5 bl)]))).as))])])]), (aggV [(i64 2), (i64 ((cpT (unTm (aggV [(i64 ao), (i64 aw), (u64 av), (stA aq an), (slP ap 5 al)]))).w)), (u64 0), (stA 0 0), (slP 0 5 [])])])]))) 1)
                (ansY (aggV [(i64 16), (i64 1), (u64 0), (stA 0 0), (slP 1 5 [(aggV [(i64 5), (i64 ((cpT (unTm (aggV [(i64 ao), (i64 aw), (u64 av), (stA aq an), (slP ap 5 al)]))).w)), (u64 0), (stA 0 0), (slP 1 5 [(aggV [(i64 ((cpT (unTm (aggV [(i64 ao), (i64 aw), (u64 av), (stA aq an), (slP ap 5 al)]))).op)), (i64 ((cpT (unTm (aggV [(i64 ao), (i64 aw), (u64 av), (stA aq an), (slP ap 5 al)]))).w)), (u64 ((cpT (unTm (aggV [(i64 ao), (i64 aw), (u64 av), (stA aq an), (slP ap 5 al)]))).v)), (stA ((cpT (unTm (aggV [(i64 ao), (i64 aw), (u64 av), (stA aq an), (slP ap 5 al)]))).nq) ((cpT (unTm (aggV [(i64 ao), (i64 aw), (u64 av), (stA aq an), (slP ap 5 al)]))).np)), (slP ((cpT (unTm (aggV [(i64 ao), (i64 aw), (u64 av), (stA aq an), (slP ap 5 al)]))).p) 5 (List.map tmA (cpT (unTm (aggV [(i64 ao), (i64 aw), (u64 av), (stA aq an), (slP ap 5 al)]))).as))]), (aggV [(i64 ((cpT (unTm (aggV [(i64 bo), (i64 bw), (u64 bv), (stA bq bn), (slP bp 5 bl)]))).op)), (i64 ((cpT (unTm (aggV [(i64 bo), (i64 bw), (u64 bv), (stA bq bn), (slP bp 5 bl)]))).w)), (u64 ((cpT (unTm (aggV [(i64 bo), (i64 bw), (u64 bv), (stA bq bn), (slP bp 5 bl)]))).v)), (stA ((cpT (unTm (aggV [(i64 bo), (i64 bw), (u64 bv), (stA bq bn), (slP bp 5 bl)]))).nq) ((cpT (unTm (aggV [(i64 bo), (i64 bw), (u64 bv), (stA bq bn), (slP bp 5 bl)]))).np)), (slP ((cpT (unTm (aggV [(i64 bo), (i64 bw), (u64 bv), (stA bq bn), (slP bp 5 bl)]))).p) 5 (List.map tmA (cpT (unTm (aggV [(i64 bo), (i64 bw), (u64 bv), (stA bq bn), (slP bp 5 bl)]))).as))])])]), (aggV [(i64 2), (i64 ((cpT (unTm (aggV [(i64 ao), (i64 aw), (u64 av), (stA aq an), (slP ap 5 al)]))).w)), (u64 0), (stA 0 0), (slP 0 5 [])])])]))
                (failR 301))
              (bi (nbeq (bi (nbeq k 4) 1 0) 1)
                (bi (nbeq (okN (PureAt Tryz.prog 26 [(i64 17), (aggV [(i64 ((cpT (unTm (aggV [(i64 ao), (i64 aw), (u64 av), (stA aq an), (slP ap 5 al)]))).op)), (i64 ((cpT (unTm (aggV [(i64 ao), (i64 aw), (u64 av), (stA aq an), (slP ap 5 al)]))).w)), (u64 ((cpT (unTm (aggV [(i64 ao), (i64 aw), (u64 av), (stA aq an), (slP ap 5 al)]))).v)), (stA ((cpT (unTm (aggV [(i64 ao), (i64 aw), (u64 av), (stA aq an), (slP ap 5 al)]))).nq) ((cpT (unTm (aggV [(i64 ao), (i64 aw), (u64 av), (stA aq an), (slP ap 5 al)]))).np)), (slP ((cpT (unTm (aggV [(i64 ao), (i64 aw), (u64 av), (stA aq an), (slP ap 5 al)]))).p) 5 (List.map tmA (cpT (unTm (aggV [(i64 ao), (i64 aw), (u64 av), (stA aq an), (slP ap 5 al)]))).as))]), (aggV [(i64 ((cpT (unTm (aggV [(i64 bo), (i64 bw), (u64 bv), (stA bq bn), (slP bp 5 bl)]))).op)), (i64 ((cpT (unTm (aggV [(i64 bo), (i64 bw), (u64 bv), (stA bq bn), (slP bp 5 bl)]))).w)), (u64 ((cpT (unTm (aggV [(i64 bo), (i64 bw), (u64 bv), (stA bq bn), (slP bp 5 bl)]))).v)), (stA ((cpT (unTm (aggV [(i64 bo), (i64 bw), (u64 bv), (stA bq bn), (slP bp 5 bl)]))).nq) ((cpT (unTm (aggV [(i64 bo), (i64 bw), (u64 bv), (stA bq bn), (slP bp 5 bl)]))).np)), (slP ((cpT (unTm (aggV [(i64 bo), (i64 bw), (u64 bv), (stA bq bn), (slP bp 5 bl)]))).p) 5 (List.map tmA (cpT (unTm (aggV [(i64 bo), (i64 bw), (u64 bv), (stA bq bn), (slP bp 5 bl)]))).as))])] (aggV [(i64 17), (i64 1), (u64 0), (stA 0 0), (slP 1 5 [(aggV [(i64 ((cpT (unTm (aggV [(i64 ao), (i64 aw), (u64 av), (stA aq an), (slP ap 5 al)]))).op)), (i64 ((cpT (unTm (aggV [(i64 ao), (i64 aw), (u64 av), (stA aq an), (slP ap 5 al)]))).w)), (u64 ((cpT (unTm (aggV [(i64 ao), (i64 aw), (u64 av), (stA aq an), (slP ap 5 al)]))).v)), (stA ((cpT (unTm (aggV [(i64 ao), (i64 aw), (u64 av), (stA aq an), (slP ap 5 al)]))).nq) ((cpT (unTm (aggV [(i64 ao), (i64 aw), (u64 av), (stA aq an), (slP ap 5 al)]))).np)), (slP ((cpT (unTm (aggV [(i64 ao), (i64 aw), (u64 av), (stA aq an), (slP ap 5 al)]))).p) 5 (List.map tmA (cpT (unTm (aggV [(i64 ao), (i64 aw), (u64 av), (stA aq an), (slP ap 5 al)]))).as))]), (aggV [(i64 ((cpT (unTm (aggV [(i64 bo), (i64 bw), (u64 bv), (stA bq bn), (slP bp 5 bl)]))).op)), (i64 ((cpT (unTm (aggV [(i64 bo), (i64 bw), (u64 bv), (stA bq bn), (slP bp 5 bl)]))).w)), (u64 ((cpT (unTm (aggV [(i64 bo), (i64 bw), (u64 bv), (stA bq bn), (slP bp 5 bl)]))).v)), (stA ((cpT (unTm (aggV [(i64 bo), (i64 bw), (u64 bv), (stA bq bn), (slP bp 5 bl)]))).nq) ((cpT (unTm (aggV [(i64 bo), (i64 bw), (u64 bv), (stA bq bn), (slP bp 5 bl)]))).np)), (slP ((cpT (unTm (aggV [(i64 bo), (i64 bw), (u64 bv), (stA bq bn), (slP bp 5 bl)]))).p) 5 (List.map tmA (cpT (unTm (aggV [(i64 bo), (i64 bw), (u64 bv), (stA bq bn), (slP bp 5 bl)]))).as))])])]))) 1)
                  (ansY (aggV [(i64 17), (i64 1), (u64 0), (stA 0 0), (slP 1 5 [(aggV [(i64 ((cpT (unTm (aggV [(i64 ao), (i64 aw), (u64 av), (stA aq an), (slP ap 5 al)]))).op)), (i64 ((cpT (unTm (aggV [(i64 ao), (i64 aw), (u64 av), (stA aq an), (slP ap 5 al)]))).w)), (u64 ((cpT (unTm (aggV [(i64 ao), (i64 aw), (u64 av), (stA aq an), (slP ap 5 al)]))).v)), (stA ((cpT (unTm (aggV [(i64 ao), (i64 aw), (u64 av), (stA aq an), (slP ap 5 al)]))).nq) ((cpT (unTm (aggV [(i64 ao), (i64 aw), (u64 av), (stA aq an), (slP ap 5 al)]))).np)), (slP ((cpT (unTm (aggV [(i64 ao), (i64 aw), (u64 av), (stA aq an), (slP ap 5 al)]))).p) 5 (List.map tmA (cpT (unTm (aggV [(i64 ao), (i64 aw), (u64 av), (stA aq an), (slP ap 5 al)]))).as))]), (aggV [(i64 ((cpT (unTm (aggV [(i64 bo), (i64 bw), (u64 bv), (stA bq bn), (slP bp 5 bl)]))).op)), (i64 ((cpT (unTm (aggV [(i64 bo), (i64 bw), (u64 bv), (stA bq bn), (slP bp 5 bl)]))).w)), (u64 ((cpT (unTm (aggV [(i64 bo), (i64 bw), (u64 bv), (stA bq bn), (slP bp 5 bl)]))).v)), (stA ((cpT (unTm (aggV [(i64 bo), (i64 bw), (u64 bv), (stA bq bn), (slP bp 5 bl)]))).nq) ((cpT (unTm (aggV [(i64 bo), (i64 bw), (u64 bv), (stA bq bn), (slP bp 5 bl)]))).np)), (slP ((cpT (unTm (aggV [(i64 bo), (i64 bw), (u64 bv), (stA bq bn), (slP bp 5 bl)]))).p) 5 (List.map tmA (cpT (unTm (aggV [(i64 bo), (i64 bw), (u64 bv), (stA bq bn), (slP bp 5 bl)]))).as))])])]))
                  (failR 301))
                (ansY (aggV [(i64 0), (i64 0), (u64 0), (stA 0 0), (slP 0 5 [])]))))))
        (failR 301))
      (failR 90))
    (failR 301)) := by kernel_rfl
theorem s10 (J : Jmp) (k ao aw av aq an ap bo bw bv bq bn bp : Nat) (al bl : List AV) : (compY Tryz.prog 39 (fun _ => none) (finY Tryz.prog [.cell 2 26] [26]) J [] (bodyC Tryz.f10) (finY Tryz.prog [.cell 2 26] [26]) []).run RF (setArgs 0 [aggV [i64 k, i64 ao, i64 aw, u64 av, stA aq an, slP ap 5 al, i64 bo, i64 bw, u64 bv, stA bq bn, slP bp 5 bl]] noFr) (baseH Tryz.prog) =
  (bi (nbeq (bi (nbeq k 1) 1 0) 1)
    (ansY (aggV [(i64 ao), (i64 aw), (u64 av), (stA aq an), (slP ap 5 al)]))
    (bi (nbeq (bi (nbeq k 2) 1 0) 1)
      (bi (nbeq (okN (PureAt Tryz.prog 27 [(i64 16), (i64 1), (aggV [(i64 ao), (i64 aw), (u64 av), (stA aq an), (slP ap 5 al)]), (aggV [(i64 bo), (i64 bw), (u64 bv), (stA bq bn), (slP bp 5 bl)])] (aggV [(i64 16), (i64 1), (u64 0), (stA 0 0), (slP 1 5 [(aggV [(i64 ao), (i64 aw), (u64 av), (stA aq an), (slP ap 5 al)]), (aggV [(i64 bo), (i64 bw), (u64 bv), (stA bq bn), (slP bp 5 bl)])])]))) 1)
        (ansY (aggV [(i64 16), (i64 1), (u64 0), (stA 0 0), (slP 1 5 [(aggV [(i64 ao), (i64 aw), (u64 av), (stA aq an), (slP ap 5 al)]), (aggV [(i64 bo), (i64 bw), (u64 bv), (stA bq bn), (slP bp 5 bl)])])]))
        (failR 301))
      (bi (nbeq (bi (nbeq k 3) 1 0) 1)
        (bi (nbeq (okN (PureAt Tryz.prog 27 [(i64 5), (i64 aw), (aggV [(i64 ao), (i64 aw), (u64 av), (stA aq an), (slP ap 5 al)]), (aggV [(i64 bo), (i64 bw), (u64 bv), (stA bq bn), (slP bp 5 bl)])] (aggV [(i64 5), (i64 aw), (u64 0), (stA 0 0), (slP 1 5 [(aggV [(i64 ao), (i64 aw), (u64 av), (stA aq an), (slP ap 5 al)]), (aggV [(i64 bo), (i64 bw), (u64 bv), (stA bq bn), (slP bp 5 bl)])])]))) 1)
          (bi (nbeq (okN (PureAt Tryz.prog 27 [(i64 16), (i64 1), (aggV [(i64 5), (i64 aw), (u64 0), (stA 0 0), (slP 1 5 [(aggV [(i64 ao), (i64 aw), (u64 av), (stA aq an), (slP ap 5 al)]), (aggV [(i64 bo), (i64 bw), (u64 bv), (stA bq bn), (slP bp 5 bl)])])]), (aggV [(i64 2), (i64 aw), (u64 0), (stA 0 0), (slP 0 5 [])])] (aggV [(i64 16), (i64 1), (u64 0), (stA 0 0), (slP 1 5 [(aggV [(i64 5), (i64 aw), (u64 0), (stA 0 0), (slP 1 5 [(aggV [(i64 ao), (i64 aw), (u64 av), (stA aq an), (slP ap 5 al)]), (aggV [(i64 bo), (i64 bw), (u64 bv), (stA bq bn), (slP bp 5 bl)])])]), (aggV [(i64 2), (i64 aw), (u64 0), (stA 0 0), (slP 0 5 [])])])]))) 1)
            (ansY (aggV [(i64 16), (i64 1), (u64 0), (stA 0 0), (slP 1 5 [(aggV [(i64 5), (i64 aw), (u64 0), (stA 0 0), (slP 1 5 [(aggV [(i64 ao), (i64 aw), (u64 av), (stA aq an), (slP ap 5 al)]), (aggV [(i64 bo), (i64 bw), (u64 bv), (stA bq bn), (slP bp 5 bl)])])]), (aggV [(i64 2), (i64 aw), (u64 0), (stA 0 0), (slP 0 5 [])])])]))
            (failR 301))
          (failR 301))
        (bi (nbeq (bi (nbeq k 4) 1 0) 1)
          (bi (nbeq (okN (PureAt Tryz.prog 27 [(i64 17), (i64 1), (aggV [(i64 ao), (i64 aw), (u64 av), (stA aq an), (slP ap 5 al)]), (aggV [(i64 bo), (i64 bw), (u64 bv), (stA bq bn), (slP bp 5 bl)])] (aggV [(i64 17), (i64 1), (u64 0), (stA 0 0), (slP 1 5 [(aggV [(i64 ao), (i64 aw), (u64 av), (stA aq an), (slP ap 5 al)]), (aggV [(i64 bo), (i64 bw), (u64 bv), (stA bq bn), (slP bp 5 bl)])])]))) 1)
            (ansY (aggV [(i64 17), (i64 1), (u64 0), (stA 0 0), (slP 1 5 [(aggV [(i64 ao), (i64 aw), (u64 av), (stA aq an), (slP ap 5 al)]), (aggV [(i64 bo), (i64 bw), (u64 bv), (stA bq bn), (slP bp 5 bl)])])]))
            (failR 301))
          (ansY (aggV [(i64 0), (i64 0), (u64 0), (stA 0 0), (slP 0 5 [])])))))) := by kernel_rfl
theorem s11 (J : Jmp) (k ao aw av aq an ap bo bw bv bq bn bp kk co cw cv cq cn cp do_ dw dv dq dn dp : Nat) (al bl cl dl : List AV) : (compY Tryz.prog 24 (fun _ => none) (finY Tryz.prog [.tmp 4] [4]) J [] (bodyC Tryz.f11) (finY Tryz.prog [.tmp 4] [4]) []).run RF (setArgs 0 [aggV [i64 k, i64 ao, i64 aw, u64 av, stA aq an, slP ap 5 al, i64 bo, i64 bw, u64 bv, stA bq bn, slP bp 5 bl], aggV [i64 kk, i64 co, i64 cw, u64 cv, stA cq cn, slP cp 5 cl, i64 do_, i64 dw, u64 dv, stA dq dn, slP dp 5 dl]] noFr) (baseH Tryz.prog) =
  (bi (nbeq (bi (nbeq k kk) 1 0) 1)
    (bi (nbeq (okN (PureAt Tryz.prog 8 [(aggV [(i64 ao), (i64 aw), (u64 av), (stA aq an), (slP ap 5 al)]), (aggV [(i64 co), (i64 cw), (u64 cv), (stA cq cn), (slP cp 5 cl)])] { tag := 8, p := bi (eqT (unTm (aggV [(i64 ao), (i64 aw), (u64 av), (stA aq an), (slP ap 5 al)])) (unTm (aggV [(i64 co), (i64 cw), (u64 cv), (stA cq cn), (slP cp 5 cl)]))) 1 0, q := 0, r := 0, s := 0, cs := [] })) 1)
      (bi (nbeq (bi (eqT (unTm (aggV [(i64 ao), (i64 aw), (u64 av), (stA aq an), (slP ap 5 al)])) (unTm (aggV [(i64 co), (i64 cw), (u64 cv), (stA cq cn), (slP cp 5 cl)]))) 1 0) 1)
        (bi (nbeq (okN (PureAt Tryz.prog 8 [(aggV [(i64 bo), (i64 bw), (u64 bv), (stA bq bn), (slP bp 5 bl)]), (aggV [(i64 do_), (i64 dw), (u64 dv), (stA dq dn), (slP dp 5 dl)])] { tag := 8, p := bi (eqT (unTm (aggV [(i64 bo), (i64 bw), (u64 bv), (stA bq bn), (slP bp 5 bl)])) (unTm (aggV [(i64 do_), (i64 dw), (u64 dv), (stA dq dn), (slP dp 5 dl)]))) 1 0, q := 0, r := 0, s := 0, cs := [] })) 1)
          (ansY { tag := 8, p := bi (eqT (unTm (aggV [(i64 bo), (i64 bw), (u64 bv), (stA bq bn), (slP bp 5 bl)])) (unTm (aggV [(i64 do_), (i64 dw), (u64 dv), (stA dq dn), (slP dp 5 dl)]))) 1 0, q := 0, r := 0, s := 0, cs := [] })
          (failR 301))
        (ansY { tag := 8, p := 0, q := 0, r := 0, s := 0, cs := [] }))
      (failR 301))
    (ansY { tag := 8, p := 0, q := 0, r := 0, s := 0, cs := [] })) := by kernel_rfl
theorem body12 : Tryz.f12.body = some (bodyC Tryz.f12) := by kernel_rfl
theorem fn12 : Tryz.prog.funcs[12]? = some Tryz.f12 := by kernel_rfl
theorem nt12 : Tryz.f12.ntmps = 15 := by kernel_rfl
theorem rs12 : Tryz.f12.results.toList = [.cell 6 26, .tmp 7] := by kernel_rfl
theorem body4 : Tryz.f4.body = some (bodyC Tryz.f4) := by kernel_rfl
theorem fn4 : Tryz.prog.funcs[4]? = some Tryz.f4 := by kernel_rfl
theorem nt4 : Tryz.f4.ntmps = 23 := by kernel_rfl
theorem rs4 : Tryz.f4.results.toList = [.tmp 2] := by kernel_rfl
theorem body9 : Tryz.f9.body = some (bodyC Tryz.f9) := by kernel_rfl
theorem fn9 : Tryz.prog.funcs[9]? = some Tryz.f9 := by kernel_rfl
theorem nt9 : Tryz.f9.ntmps = 41 := by kernel_rfl
theorem rs9 : Tryz.f9.results.toList = [.cell 2 26] := by kernel_rfl
theorem body10 : Tryz.f10.body = some (bodyC Tryz.f10) := by kernel_rfl
theorem fn10 : Tryz.prog.funcs[10]? = some Tryz.f10 := by kernel_rfl
theorem nt10 : Tryz.f10.ntmps = 39 := by kernel_rfl
theorem rs10 : Tryz.f10.results.toList = [.cell 2 26] := by kernel_rfl
theorem body11 : Tryz.f11.body = some (bodyC Tryz.f11) := by kernel_rfl
theorem fn11 : Tryz.prog.funcs[11]? = some Tryz.f11 := by kernel_rfl
theorem nt11 : Tryz.f11.ntmps = 24 := by kernel_rfl
theorem rs11 : Tryz.f11.results.toList = [.tmp 4] := by kernel_rfl

abbrev Len63 (t : Tm) : Prop := t.All fun _ _ _ _ _ _ l => l.length < 2 ^ 63
theorem tmA_V (t : Tm) : tmA t = tmV t.op t.w t.v t.nq t.np t.p (t.as.map tmA) := (tmE_eq t).symm
theorem cntN_neg {t : Tm} {d n : Nat} (hn : n < 2 ^ 62) : nble 9223372036854775808 (biased 3 (cntN t d n)) = lightB t d n := by
  unfold cntN lightB
  cases h : cnt t d n with
  | none => decide +kernel
  | some k =>
    have := cnt_le t d n k h
    simp only
    rw [biased3s (by omega)]
    exact nble_t (by omega)
theorem pure12 (t : Tm) (d n : Nat) (hd : d < 2 ^ 62) (hn : n < 2 ^ 62) (hall : Len63 t) : PureAt Tryz.prog 12 [tmA t, i64 d, i64 n] (tupV [tmA (lightO t d n), bV (lightB t d n)]) := by
  have q := okN_one.2 (pure28 t d n hd hn hall)
  have e : PureAt Tryz.prog 12 [tmV t.op t.w t.v t.nq t.np t.p (t.as.map tmA), i64 d, i64 n] (tupV [tmA (lightO t d n), bV (lightB t d n)]) := by
    refine pure_fn mixed globs fn12 body12 nt12 rs12 RF_ok (fun _ => none) [26, 4] 0 ((s12 _ t.op t.w t.v t.nq t.np t.p d n _).trans ?_)
    simp only [mk_i64, mk_u64, mk_stA, mk_slP, mk_agg, mk_tm, unTm_A, bl_bi, b0, n11, n01, n00, n10, bi_tt, bi_ff, q, cntN_neg hn]
    unfold lightB lightO
    cases cnt t d n with
    | none => rw [tmA_V]; rfl
    | some k => simp only [nb_t, bi_ff]; rfl
  rw [← tmA_V] at e
  exact e
/-- a guard -/
noncomputable def gdA (k : Nat) (a b : Tm) : AV := aggV [i64 k, i64 a.op, i64 a.w, u64 a.v, stA a.nq a.np, slP a.p 5 (a.as.map tmA), i64 b.op, i64 b.w, u64 b.v, stA b.nq b.np, slP b.p 5 (b.as.map tmA)]
theorem pure4 (k : Nat) (a b : Tm) (ha : Len63 a) (hb : Len63 b) : PureAt Tryz.prog 4 [gdA k a b] (bV (lightB a 12 20 && lightB b 12 20)) := by
  have q := okN_one.2 (pure12 a 12 20 (by decide) (by decide) ha)
  have q2 := okN_one.2 (pure12 b 12 20 (by decide) (by decide) hb)
  unfold gdA
  refine pure_fn mixed globs fn4 body4 nt4 rs4 RF_ok (fun _ => none) [4] 0 ((s4 _ k a.op a.w a.v a.nq a.np a.p b.op b.w b.v b.nq b.np b.p _ _).trans ?_)
  simp only [tupV, bV, mk1] at q q2
  simp only [mk_i64, mk_u64, mk_stA, mk_slP, mk_agg, mk_tm, unTm_A, bl_bi, b0, n11, n01, n00, n10, bi_tt, bi_ff, q, q2]
  cases lightB a 12 20 <;> cases lightB b 12 20 <;> rfl
noncomputable def gTermA (k : Nat) (a b : Tm) : Tm := if k = 1 then cpT a else if k = 2 then .mk 16 1 0 0 0 1 [cpT a, cpT b] else if k = 3 then .mk 16 1 0 0 0 1 [.mk 5 (cpT a).w 0 0 0 1 [cpT a, cpT b], .mk 2 (cpT a).w 0 0 0 0 []] else if k = 4 then .mk 17 1 0 0 0 1 [cpT a, cpT b] else zeroT
noncomputable def gTermR (k : Nat) (a b : Tm) : Tm := if k = 1 then a else if k = 2 then .mk 16 1 0 0 0 1 [a, b] else if k = 3 then .mk 16 1 0 0 0 1 [.mk 5 a.w 0 0 0 1 [a, b], .mk 2 a.w 0 0 0 0 []] else if k = 4 then .mk 17 1 0 0 0 1 [a, b] else zeroT
theorem tmV_A (t : Tm) : tmV t.op t.w t.v t.nq t.np t.p (t.as.map tmA) = tmA t := tmE_eq t
theorem mk_tm2 (op w v nq np p : Nat) (l : List AV) : aggV [i64 op, i64 w, u64 v, stA nq np, slP p 5 l] = tmV op w v nq np p l := rfl
theorem tm_two (op w : Nat) (a b : Tm) : tmV op w 0 0 0 1 [tmA a, tmA b] = tmA (.mk op w 0 0 0 1 [a, b]) := by rw [tmA_mk]; rfl
theorem tm_con (w : Nat) : tmV 2 w 0 0 0 0 [] = tmA (.mk 2 w 0 0 0 0 []) := by rw [tmA_mk]; rfl
theorem tm_zero : tmV 0 0 0 0 0 0 [] = tmA zeroT := by unfold zeroT; rw [tmA_mk]; rfl
theorem pure10 (k : Nat) (a b : Tm) : PureAt Tryz.prog 10 [gdA k a b] (tmA (gTermR k a b)) := by
  have q1 := okN_one.2 (pure27 16 1 a b)
  have q2 := okN_one.2 (pure27 17 1 a b)
  have q3 := okN_one.2 (pure27 5 a.w a b)
  have q4 := okN_one.2 (pure27 16 1 (.mk 5 a.w 0 0 0 1 [a, b]) (.mk 2 a.w 0 0 0 0 []))
  unfold gdA
  refine pure_fn mixed globs fn10 body10 nt10 rs10 RF_ok (fun _ => none) [26] 0 ((s10 _ k a.op a.w a.v a.nq a.np a.p b.op b.w b.v b.nq b.np b.p _ _).trans ?_)
  simp only [mk_i64, mk_u64, mk_stA, mk_slP, mk_agg, mk_tm, unTm_A, bl_bi, b0, n11, n01, n00, n10, bi_tt, bi_ff, mk_tm2, tmV_A, tm_two, tm_con, tm_zero, q1, q2, q3, q4]
  unfold gTermR
  simp only [nbeq_dec]
  by_cases h1 : k = 1
  · rw [decide_eq_true h1, if_pos h1, bi_tt]
  by_cases h2 : k = 2
  · rw [decide_eq_false h1, decide_eq_true h2, if_neg h1, if_pos h2, bi_ff, bi_tt]
  by_cases h3 : k = 3
  · rw [decide_eq_false h1, decide_eq_false h2, decide_eq_true h3, if_neg h1, if_neg h2, if_pos h3, bi_ff, bi_ff, bi_tt]
  by_cases h4 : k = 4
  · rw [decide_eq_false h1, decide_eq_false h2, decide_eq_false h3, decide_eq_true h4, if_neg h1, if_neg h2, if_neg h3, if_pos h4, bi_ff, bi_ff, bi_ff, bi_tt]
  · rw [decide_eq_false h1, decide_eq_false h2, decide_eq_false h3, decide_eq_false h4, if_neg h1, if_neg h2, if_neg h3, if_neg h4, bi_ff, bi_ff, bi_ff, bi_ff]
theorem pure9 (k : Nat) (a b : Tm) (ha : a.Sm 40) (hb : b.Sm 40) : PureAt Tryz.prog 9 [gdA k a b] (tmA (gTermA k a b)) := by
  have eb := eqA_tm 40 b hb 1000 (by decide)
  have r1 := okN_one.2 (pure23 40 a ha (by decide))
  have r2 := okN_one.2 (pure23 40 b hb (by decide))
  have q1 := okN_one.2 (pure26 16 (cpT a) (cpT b))
  have q2 := okN_one.2 (pure26 17 (cpT a) (cpT b))
  have q4 := okN_one.2 (pure26 16 (.mk 5 (cpT a).w 0 0 0 1 [cpT a, cpT b]) (.mk 2 (cpT a).w 0 0 0 0 []))
  unfold gdA
  refine pure_fn mixed globs fn9 body9 nt9 rs9 RF_ok (fun _ => none) [26] 0 ((s9 _ k a.op a.w a.v a.nq a.np a.p b.op b.w b.v b.nq b.np b.p _ _).trans ?_)
  simp only [mk_i64, mk_u64, mk_stA, mk_slP, mk_agg, mk_tm, unTm_A, bl_bi, b0, n11, n01, n00, n10, bi_tt, bi_ff, mk_tm2, tmV_A, tm_two, tm_con, tm_zero, r1, r2, q1, q2, q4, eb]
  unfold gTermA
  simp only [nbeq_dec]
  by_cases h1 : k = 1
  · rw [decide_eq_true h1, if_pos h1, bi_tt]
  by_cases h2 : k = 2
  · rw [decide_eq_false h1, decide_eq_true h2, if_neg h1, if_pos h2, bi_ff, bi_tt]
  by_cases h3 : k = 3
  · rw [decide_eq_false h1, decide_eq_false h2, decide_eq_true h3, if_neg h1, if_neg h2, if_pos h3, bi_ff, bi_ff, bi_tt]
  by_cases h4 : k = 4
  · rw [decide_eq_false h1, decide_eq_false h2, decide_eq_false h3, decide_eq_true h4, if_neg h1, if_neg h2, if_neg h3, if_pos h4, bi_ff, bi_ff, bi_ff, bi_tt]
  · rw [decide_eq_false h1, decide_eq_false h2, decide_eq_false h3, decide_eq_false h4, if_neg h1, if_neg h2, if_neg h3, if_neg h4, bi_ff, bi_ff, bi_ff, bi_ff]
theorem pure11 (k k' : Nat) (a b a' b' : Tm) (ha : Len63 a) (hb : Len63 b) (ha' : Len63 a') (hb' : Len63 b') : PureAt Tryz.prog 11 [gdA k a b, gdA k' a' b'] (bV (decide (k = k') && (eqT a a' && eqT b b'))) := by
  have q := okN_one.2 (pure8 a a' ha ha')
  have q2 := okN_one.2 (pure8 b b' hb hb')
  unfold gdA
  refine pure_fn mixed globs fn11 body11 nt11 rs11 RF_ok (fun _ => none) [4] 0 ((s11 _ k a.op a.w a.v a.nq a.np a.p b.op b.w b.v b.nq b.np b.p k' a'.op a'.w a'.v a'.nq a'.np a'.p b'.op b'.w b'.v b'.nq b'.np b'.p _ _ _ _).trans ?_)
  simp only [bV, mk1] at q q2
  simp only [mk_i64, mk_u64, mk_stA, mk_slP, mk_agg, mk_tm, unTm_A, bl_bi, b0, n11, n01, n00, n10, bi_tt, bi_ff, q, q2]
  rw [nbeq_dec]
  cases decide (k = k') <;> cases eqT a a' <;> cases eqT b b' <;> rfl
end Go.Eng
namespace Go.Eng
open Go.RowKit Go.Proofs
noncomputable section
/- a pattern at a width: the result, and whether the widths agree -/
mutual
def atP (w : Nat) : Tm → Tm × Bool
  | .mk op wd v nq np _ l0 => if l0.length = 0 then (.mk op (if wd = 0 then w else wd) (if wd = 0 ∧ op = 2 then cutN w v else v) nq np 0 [], true) else
    match atPs w l0 with
    | none => (zeroT, false)
    | some bs => (.mk op (wdP op wd v (bs.map Tm.w)).1 v nq np 1 bs, decide ((wdP op wd v (bs.map Tm.w)).2 = 0))
def atPs (w : Nat) : List Tm → Option (List Tm)
  | [] => some []
  | a :: l => if (atP w a).2 = true then (match atPs w l with | none => none | some bs => some ((atP w a).1 :: bs)) else none
end
def atO (t : Tm) (w : Nat) : Tm := (atP w t).1
def atB (t : Tm) (w : Nat) : Bool := (atP w t).2
def atRO (t : Tm) (w : Nat) : Tm := if atB t w = true then atO t w else zeroT
def atRE (t : Tm) (w : Nat) : Nat := if atB t w = true then 0 else 3
def wdW (op w v : Nat) (l : List AV) : Nat := (wdP op w v (l.map AV.p)).1
def wdX (op w v : Nat) (l : List AV) : Nat := (wdP op w v (l.map AV.p)).2
def wdsA (l : List AV) : List AV := l.map fun e => nthL e.cs 1
def NtG : Nat → Option Native := ntL [(41, natP Tryz.prog 41 [3, 23] fun l => u64 (cutN (nthL l 0).p (nthL l 1).p)), (99, natP Tryz.prog 99 [3, 23] fun l => u64 (cutN (nthL l 0).p (nthL l 1).p)),
  (98, natP Tryz.prog 98 [24] fun l => slP (bi (nbeq (lenL (nthL l 0).cs) 0) 0 1) 1 (wdsA (nthL l 0).cs)), (101, natP Tryz.prog 101 [26] fun l => slP 1 1 (wdsA (nthL (nthL l 0).cs 4).cs)),
  (83, natP Tryz.prog 83 [22, 3, 23, 40] fun l => tupV [i64 (wdW (nthL l 0).p (nthL l 1).p (nthL l 2).p (nthL l 3).cs), i64 (wdX (nthL l 0).p (nthL l 1).p (nthL l 2).p (nthL l 3).cs)]),
  (100, natP Tryz.prog 100 [22, 3, 23, 40] fun l => tupV [i64 (wdW (nthL l 0).p (nthL l 1).p (nthL l 2).p (nthL l 3).cs), i64 (wdX (nthL l 0).p (nthL l 1).p (nthL l 2).p (nthL l 3).cs)]),
  (49, natP Tryz.prog 49 [26, 3] fun l => tupV [tmE (atO (unTm (nthL l 0)) (nthL l 1).p), bV (atB (unTm (nthL l 0)) (nthL l 1).p)]),
  (50, natP Tryz.prog 50 [26, 3] fun l => tupV [tmE (atRO (unTm (nthL l 0)) (nthL l 1).p), i64 (atRE (unTm (nthL l 0)) (nthL l 1).p)])]
def RG : Rec := evN Tryz.prog NtG (fun _ => false) 2
def lab49 : Lab := labT [([0,0,1,0,1,1,1], [(1,0),(2,100),(4,100),(6,405),(41,0),(42,0),(43,0)])]
def lab50 : Lab := labT [([0,0,1,0,1,1,1,1], [(1,0),(2,100),(4,100),(6,405),(7,0)])]
end
theorem RG_ok : RecOk Tryz.prog RG := evN_ok mixed (ntL_cons (ntL_cons (ntL_cons (ntL_cons (ntL_cons (ntL_cons (ntL_cons (ntL_cons ntL_nil)))))))) noGor 2
end Go.Eng
namespace Go.Eng
open Go.RowKit Go.Proofs
noncomputable section
/-- a width from 1 to 64 -/
def inW (w : Nat) : Bool := bi (nble 9223372036854775809 (biased 3 w)) (nble (biased 3 w) 9223372036854775872) false
def AtO (t : Tm) (w : Nat) : Tm := if inW w = true then atRO t w else zeroT
def AtE (t : Tm) (w : Nat) : Nat := if inW w = true then atRE t w else 2
def kindB (k : Nat) : Bool := bi (nble 9223372036854775809 (biased 3 k)) (nble (biased 3 k) 9223372036854775812) false
def gE (k : Nat) (a b : Tm) (w : Nat) : Nat := if kindB k = true then (if AtE a w = 0 then (if k = 1 then 0 else AtE b w) else AtE a w) else 1
def gK (k : Nat) (a b : Tm) (w : Nat) : Nat := if gE k a b w = 0 then k else 0
def gAa (k : Nat) (a b : Tm) (w : Nat) : Tm := if gE k a b w = 0 then AtO a w else zeroT
def gBp (k : Nat) (a b : Tm) (w : Nat) : Tm := if gE k a b w = 0 then (if k = 1 then cpT b else AtO b w) else zeroT
def gBr (k : Nat) (a b : Tm) (w : Nat) : Tm := if gE k a b w = 0 then (if k = 1 then b else AtO b w) else zeroT
/-- the guard that a value stands for -/
def gk (v : AV) : Nat := (nthL v.cs 0).p
def ga (v : AV) : Tm := unTm (tmV (nthL v.cs 1).p (nthL v.cs 2).p (nthL v.cs 3).p (nthL v.cs 4).q (nthL v.cs 4).p (nthL v.cs 5).p (nthL v.cs 5).cs)
def gb (v : AV) : Tm := unTm (tmV (nthL v.cs 6).p (nthL v.cs 7).p (nthL v.cs 8).p (nthL v.cs 9).q (nthL v.cs 9).p (nthL v.cs 10).p (nthL v.cs 10).cs)
def NtH : Nat → Option Native := ntL [(22, natP Tryz.prog 22 [26, 3] fun l => tupV [tmE (AtO (unTm (nthL l 0)) (nthL l 1).p), i64 (AtE (unTm (nthL l 0)) (nthL l 1).p)]),
  (24, natP Tryz.prog 24 [26, 3] fun l => tupV [tmE (AtO (unTm (nthL l 0)) (nthL l 1).p), i64 (AtE (unTm (nthL l 0)) (nthL l 1).p)]), (23, natP Tryz.prog 23 [26] fun l => tmE (cpT (unTm (nthL l 0))))]
def RH : Rec := evN Tryz.prog NtH (fun _ => false) 2
end
theorem RH_ok : RecOk Tryz.prog RH := evN_ok mixed (ntL_cons (ntL_cons (ntL_cons ntL_nil))) noGor 2
end Go.Eng
