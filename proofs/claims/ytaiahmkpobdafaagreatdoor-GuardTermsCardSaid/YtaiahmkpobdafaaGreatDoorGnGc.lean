/- A part of the proof that the evaluator in GnC, and the driver in GnZ, answer as the model does; no conditions. -/
import Derived.Test.YtaiahmkpobdafaaGreatDoorGnGd
namespace Go.Eng
open Go.RowKit Go.Proofs
theorem s49 (J : Jmp) (to tw tv tq tn tp w : Nat) (tl : List AV) : (compY Tryz.prog 81 lab49 (finY Tryz.prog [.cell 4 26, .tmp 5] [26, 4]) J [] (bodyC Tryz.f49) (finY Tryz.prog [.cell 4 26, .tmp 5] [26, 4]) []).run RG (setArgs 0 [tmV to tw tv tq tn tp tl, i64 w] noFr) (baseH Tryz.prog) =
  (bi (nbeq (bi (nbeq (lenL tl) 0) 1 0) 1)
    (bi (nbeq (bi (nbeq tw 0) 1 0) 1)
      (bi (nbeq (bi (nbeq to 2) 1 0) 1)
        (bi (nbeq (okN (PureAt Tryz.prog 41 [(i64 w), (u64 tv)] (u64 (cutN w tv)))) 1)
          (ansY { tag := 16, p := 0, q := 0, r := 0, s := 0, cs := [(aggV [(i64 to), (i64 w), (u64 (cutN w tv)), (stA tq tn), (slP 0 5 [])]), { tag := 8, p := 1, q := 0, r := 0, s := 0, cs := [] }] })
          (failR 301))
        (ansY { tag := 16, p := 0, q := 0, r := 0, s := 0, cs := [(aggV [(i64 to), (i64 w), (u64 tv), (stA tq tn), (slP 0 5 [])]), { tag := 8, p := 1, q := 0, r := 0, s := 0, cs := [] }] }))
      (ansY { tag := 16, p := 0, q := 0, r := 0, s := 0, cs := [(aggV [(i64 to), (i64 tw), (u64 tv), (stA tq tn), (slP 0 5 [])]), { tag := 8, p := 1, q := 0, r := 0, s := 0, cs := [] }] }))
    (J [0, 0, 1, 0, 1, 1, 1] [(i64 w), { tag := 16, p := 0, q := 0, r := 1, s := 0, cs := [(i64 to), (i64 tw), (u64 tv), (stA tq tn), (slP tp 5 tl)] }, { tag := 16, p := 0, q := 0, r := 1, s := 0, cs := [(i64 0), (i64 0), (u64 0), (stA 0 0), { tag := 17, p := 1, q := 0, r := 0, s := 0, cs := [] }] }, { tag := 16, p := 0, q := 0, r := 1, s := 0, cs := [(i64 to), (i64 tw), (u64 tv), (stA tq tn), { tag := 16, p := 0, q := 0, r := 0, s := 0, cs := [] }] }, (slP tp 5 tl), (i64 (lenL tl)), (i64 0)])) := by kernel_rfl
theorem l49 (J : Jmp) (w to tw tv tq tn tp oo ow ov oq on op n i : Nat) (tl ol : List AV) : lblY Tryz.prog 81 lab49 (baseH Tryz.prog) RG (finY Tryz.prog [.cell 4 26, .tmp 5] [26, 4]) (bodyC Tryz.f49) J [0,0,1,0,1,1,1] [i64 w, bxD [i64 to, i64 tw, u64 tv, stA tq tn, slP tp 5 tl], bxD [i64 0, i64 0, u64 0, stA 0 0, mk1 17 1], bxD [i64 oo, i64 ow, u64 ov, stA oq on, lsD op ol], slP tp 5 tl, i64 n, i64 i] =
  (bi (nbeq (bi (nb (nble (biased 3 n) (biased 3 i))) 1 0) 1)
    (bi (nble i.succ (lenL tl))
      (bi (bi (tagIs 3 (nthL (bi (nbeq (nthL [nthL tl i] 0).1 15) (nthL [nthL tl i] 0).6 [nthL [nthL tl i] 0]) 0)) (bi (tagIs 3 (nthL (bi (nbeq (nthL [nthL tl i] 0).1 15) (nthL [nthL tl i] 0).6 [nthL [nthL tl i] 0]) (Nat.succ 0))) (bi (tagIs 7 (nthL (bi (nbeq (nthL [nthL tl i] 0).1 15) (nthL [nthL tl i] 0).6 [nthL [nthL tl i] 0]) (Nat.succ 0).succ)) (bi (tagIs 9 (nthL (bi (nbeq (nthL [nthL tl i] 0).1 15) (nthL [nthL tl i] 0).6 [nthL [nthL tl i] 0]) (Nat.succ 0).succ.succ)) (bi (tagIs 37 (nthL (bi (nbeq (nthL [nthL tl i] 0).1 15) (nthL [nthL tl i] 0).6 [nthL [nthL tl i] 0]) (Nat.succ 0).succ.succ.succ)) true false) false) false) false) false)
        (bi (nbeq (okN (PureAt Tryz.prog 49 [(aggV [(i64 ((nthL (bi (nbeq (nthL [nthL tl i] 0).1 15) (nthL [nthL tl i] 0).6 [nthL [nthL tl i] 0]) 0).2)), (i64 ((nthL (bi (nbeq (nthL [nthL tl i] 0).1 15) (nthL [nthL tl i] 0).6 [nthL [nthL tl i] 0]) (Nat.succ 0)).2)), (u64 ((nthL (bi (nbeq (nthL [nthL tl i] 0).1 15) (nthL [nthL tl i] 0).6 [nthL [nthL tl i] 0]) (Nat.succ 0).succ).2)), (stA ((nthL (bi (nbeq (nthL [nthL tl i] 0).1 15) (nthL [nthL tl i] 0).6 [nthL [nthL tl i] 0]) (Nat.succ 0).succ.succ).3) ((nthL (bi (nbeq (nthL [nthL tl i] 0).1 15) (nthL [nthL tl i] 0).6 [nthL [nthL tl i] 0]) (Nat.succ 0).succ.succ).2)), (slP ((nthL (bi (nbeq (nthL [nthL tl i] 0).1 15) (nthL [nthL tl i] 0).6 [nthL [nthL tl i] 0]) (Nat.succ 0).succ.succ.succ).2) 5 ((nthL (bi (nbeq (nthL [nthL tl i] 0).1 15) (nthL [nthL tl i] 0).6 [nthL [nthL tl i] 0]) (Nat.succ 0).succ.succ.succ).6))]), (i64 w)] { tag := 16, p := 0, q := 0, r := 0, s := 0, cs := [(aggV [(i64 ((atO (unTm (aggV [(i64 ((nthL (bi (nbeq (nthL [nthL tl i] 0).1 15) (nthL [nthL tl i] 0).6 [nthL [nthL tl i] 0]) 0).2)), (i64 ((nthL (bi (nbeq (nthL [nthL tl i] 0).1 15) (nthL [nthL tl i] 0).6 [nthL [nthL tl i] 0]) (Nat.succ 0)).2)), (u64 ((nthL (bi (nbeq (nthL [nthL tl i] 0).1 15) (nthL [nthL tl i] 0).6 [nthL [nthL tl i] 0]) (Nat.succ 0).succ).2)), (stA ((nthL (bi (nbeq (nthL [nthL tl i] 0).1 15) (nthL [nthL tl i] 0).6 [nthL [nthL tl i] 0]) (Nat.succ 0).succ.succ).3) ((nthL (bi (nbeq (nthL [nthL tl i] 0).1 15) (nthL [nthL tl i] 0).6 [nthL [nthL tl i] 0]) (Nat.succ 0).succ.succ).2)), (slP ((nthL (bi (nbeq (nthL [nthL tl i] 0).1 15) (nthL [nthL tl i] 0).6 [nthL [nthL tl i] 0]) (Nat.succ 0).succ.succ.succ).2) 5 ((nthL (bi (nbeq (nthL [nthL tl i] 0).1 15) (nthL [nthL tl i] 0).6 [nthL [nthL tl i] 0]) (Nat.succ 0).succ.succ.succ).6))])) w).op)), (i64 ((atO (unTm (aggV [(i64 ((nthL (bi (nbeq (nthL [nthL tl i] 0).1 15) (nthL [nthL tl i] 0).6 [nthL [nthL tl i] 0]) 0).2)), (i64 ((nthL (bi (nbeq (nthL [nthL tl i] 0).1 15) (nthL [nthL tl i] 0).6 [nthL [nthL tl i] 0]) (Nat.succ 0)).2)), (u64 ((nthL (bi (nbeq (nthL [nthL tl i] 0).1 15) (nthL [nthL tl i] 0).6 [nthL [nthL tl i] 0]) (Nat.succ 0).succ).2)), (stA ((nthL (bi (nbeq (nthL [nthL tl i] 0).1 15) (nthL [nthL tl i] 0).6 [nthL [nthL tl i] 0]) (Nat.succ 0).succ.succ).3) ((nthL (bi (nbeq (nthL [nthL tl i] 0).1 15) (nthL [nthL tl i] 0).6 [nthL [nthL tl i] 0]) (Nat.succ 0).succ.succ).2)), (slP ((nthL (bi (nbeq (nthL [nthL tl i] 0).1 15) (nthL [nthL tl i] 0).6 [nthL [nthL tl i] 0]) (Nat.succ 0).succ.succ.succ).2) 5 ((nthL (bi (nbeq (nthL [nthL tl i] 0).1 15) (nthL [nthL tl i] 0).6 [nthL [nthL tl i] 0]) (Nat.succ 0).succ.succ.succ).6))])) w).w)), (u64 ((atO (unTm (aggV [(i64 ((nthL (bi (nbeq (nthL [nthL tl i] 0).1 15) (nthL [nthL tl i] 0).6 [nthL [nthL tl i] 0]) 0).2)), (i64 ((nthL (bi (nbeq (nthL [nthL tl i] 0).1 15) (nthL [nthL tl i] 0).6 [nthL [nthL tl i] 0]) (Nat.succ 0)).2)), (u64 ((nthL (bi (nbeq (nthL [nthL tl i] 0).1 15) (nthL [nthL tl i] 0).6 [nthL [nthL tl i] 0]) (Nat.succ 0).succ).2)), (stA ((nthL (bi (nbeq (nthL [nthL tl i] 0).1 15) (nthL [nthL tl i] 0).6 [nthL [nthL tl i] 0]) (Nat.succ 0).succ.succ).3) ((nthL (bi (nbeq (nthL [nthL tl i] 0).1 15) (nthL [nthL tl i] 0).6 [nthL [nthL tl i] 0]) (Nat.succ 0).succ.succ).2)), (slP ((nthL (bi (nbeq (nthL [nthL tl i] 0).1 15) (nthL [nthL tl i] 0).6 [nthL [nthL tl i] 0]) (Nat.succ 0).succ.succ.succ).2) 5 ((nthL (bi (nbeq (nthL [nthL tl i] 0).1 15) (nthL [nthL tl i] 0).6 [nthL [nthL tl i] 0]) (Nat.succ 0).succ.succ.succ).6))])) w).v)), (stA ((atO (unTm (aggV [(i64 ((nthL (bi (nbeq (nthL [nthL tl i] 0).1 15) (nthL [nthL tl i] 0).6 [nthL [nthL tl i] 0]) 0).2)), (i64 ((nthL (bi (nbeq (nthL [nthL tl i] 0).1 15) (nthL [nthL tl i] 0).6 [nthL [nthL tl i] 0]) (Nat.succ 0)).2)), (u64 ((nthL (bi (nbeq (nthL [nthL tl i] 0).1 15) (nthL [nthL tl i] 0).6 [nthL [nthL tl i] 0]) (Nat.succ 0).succ).2)), (stA ((nthL (bi (nbeq (nthL [nthL tl i] 0).1 15) (nthL [nthL tl i] 0).6 [nthL [nthL tl i] 0]) (Nat.succ 0).succ.succ).3) ((nthL (bi (nbeq (nthL [nthL tl i] 0).1 15) (nthL [nthL tl i] 0).6 [nthL [nthL tl i] 0]) (Nat.succ 0).succ.succ).2)), (slP ((nthL (bi (nbeq (nthL [nthL tl i] 0).1 15) (nthL [nthL tl i] 0).6 [nthL [nthL tl i] 0]) (Nat.succ 0).succ.succ.succ).2) 5 ((nthL (bi (nbeq (nthL [nthL tl i] 0).1 15) (nthL [nthL tl i] 0).6 [nthL [nthL tl i] 0]) (Nat.succ 0).succ.succ.succ).6))])) w).nq) ((atO (unTm (aggV [(i64 ((nthL (bi (nbeq (nthL [nthL tl i] 0).1 15) (nthL [nthL tl i] 0).6 [nthL [nthL tl i] 0]) 0).2)), (i64 ((nthL (bi (nbeq (nthL [nthL tl i] 0).1 15) (nthL [nthL tl i] 0).6 [nthL [nthL tl i] 0]) (Nat.succ 0)).2)), (u64 ((nthL (bi (nbeq (nthL [nthL tl i] 0).1 15) (nthL [nthL tl i] 0).6 [nthL [nthL tl i] 0]) (Nat.succ 0).succ).2)), (stA ((nthL (bi (nbeq (nthL [nthL tl i] 0).1 15) (nthL [nthL tl i] 0).6 [nthL [nthL tl i] 0]) (Nat.succ 0).succ.succ).3) ((nthL (bi (nbeq (nthL [nthL tl i] 0).1 15) (nthL [nthL tl i] 0).6 [nthL [nthL tl i] 0]) (Nat.succ 0).succ.succ).2)), (slP ((nthL (bi (nbeq (nthL [nthL tl i] 0).1 15) (nthL [nthL tl i] 0).6 [nthL [nthL tl i] 0]) (Nat.succ 0).succ.succ.succ).2) 5 ((nthL (bi (nbeq (nthL [nthL tl i] 0).1 15) (nthL [nthL tl i] 0).6 [nthL [nthL tl i] 0]) (Nat.succ 0).succ.succ.succ).6))])) w).np)), (slP ((atO (unTm (aggV [(i64 ((nthL (bi (nbeq (nthL [nthL tl i] 0).1 15) (nthL [nthL tl i] 0).6 [nthL [nthL tl i] 0]) 0).2)), (i64 ((nthL (bi (nbeq (nthL [nthL tl i] 0).1 15) (nthL [nthL tl i] 0).6 [nthL [nthL tl i] 0]) (Nat.succ 0)).2)), (u64 ((nthL (bi (nbeq (nthL [nthL tl i] 0).1 15) (nthL [nthL tl i] 0).6 [nthL [nthL tl i] 0]) (Nat.succ 0).succ).2)), (stA ((nthL (bi (nbeq (nthL [nthL tl i] 0).1 15) (nthL [nthL tl i] 0).6 [nthL [nthL tl i] 0]) (Nat.succ 0).succ.succ).3) ((nthL (bi (nbeq (nthL [nthL tl i] 0).1 15) (nthL [nthL tl i] 0).6 [nthL [nthL tl i] 0]) (Nat.succ 0).succ.succ).2)), (slP ((nthL (bi (nbeq (nthL [nthL tl i] 0).1 15) (nthL [nthL tl i] 0).6 [nthL [nthL tl i] 0]) (Nat.succ 0).succ.succ.succ).2) 5 ((nthL (bi (nbeq (nthL [nthL tl i] 0).1 15) (nthL [nthL tl i] 0).6 [nthL [nthL tl i] 0]) (Nat.succ 0).succ.succ.succ).6))])) w).p) 5 (List.map tmA (atO (unTm (aggV [(i64 ((nthL (bi (nbeq (nthL [nthL tl i] 0).1 15) (nthL [nthL tl i] 0).6 [nthL [nthL tl i] 0]) 0).2)), (i64 ((nthL (bi (nbeq (nthL [nthL tl i] 0).1 15) (nthL [nthL tl i] 0).6 [nthL [nthL tl i] 0]) (Nat.succ 0)).2)), (u64 ((nthL (bi (nbeq (nthL [nthL tl i] 0).1 15) (nthL [nthL tl i] 0).6 [nthL [nthL tl i] 0]) (Nat.succ 0).succ).2)), (stA ((nthL (bi (nbeq (nthL [nthL tl i] 0).1 15) (nthL [nthL tl i] 0).6 [nthL [nthL tl i] 0]) (Nat.succ 0).succ.succ).3) ((nthL (bi (nbeq (nthL [nthL tl i] 0).1 15) (nthL [nthL tl i] 0).6 [nthL [nthL tl i] 0]) (Nat.succ 0).succ.succ).2)), (slP ((nthL (bi (nbeq (nthL [nthL tl i] 0).1 15) (nthL [nthL tl i] 0).6 [nthL [nthL tl i] 0]) (Nat.succ 0).succ.succ.succ).2) 5 ((nthL (bi (nbeq (nthL [nthL tl i] 0).1 15) (nthL [nthL tl i] 0).6 [nthL [nthL tl i] 0]) (Nat.succ 0).succ.succ.succ).6))])) w).as))]), { tag := 8, p := bi (atB (unTm (aggV [(i64 ((nthL (bi (nbeq (nthL [nthL tl i] 0).1 15) (nthL [nthL tl i] 0).6 [nthL [nthL tl i] 0]) 0).2)), (i64 ((nthL (bi (nbeq (nthL [nthL tl i] 0).1 15) (nthL [nthL tl i] 0).6 [nthL [nthL tl i] 0]) (Nat.succ 0)).2)), (u64 ((nthL (bi (nbeq (nthL [nthL tl i] 0).1 15) (nthL [nthL tl i] 0).6 [nthL [nthL tl i] 0]) (Nat.succ 0).succ).2)), (stA ((nthL (bi (nbeq (nthL [nthL tl i] 0).1 15) (nthL [nthL tl i] 0).6 [nthL [nthL tl i] 0]) (Nat.succ 0).succ.succ).3) ((nthL (bi (nbeq (nthL [nthL tl i] 0).1 15) (nthL [nthL tl i] 0).6 [nthL [nthL tl i] 0]) (Nat.succ 0).succ.succ).2)), (slP ((nthL (bi (nbeq (nthL [nthL tl i] 0).1 15) (nthL [nthL tl i] 0).6 [nthL [nthL tl i] 0]) (Nat.succ 0).succ.succ.succ).2) 5 ((nthL (bi (nbeq (nthL [nthL tl i] 0).1 15) (nthL [nthL tl i] 0).6 [nthL [nthL tl i] 0]) (Nat.succ 0).succ.succ.succ).6))])) w) 1 0, q := 0, r := 0, s := 0, cs := [] }] })) 1)
          (bi (nbeq (Nat.sub 1 (bi (atB (unTm (aggV [(i64 ((nthL (bi (nbeq (nthL [nthL tl i] 0).1 15) (nthL [nthL tl i] 0).6 [nthL [nthL tl i] 0]) 0).2)), (i64 ((nthL (bi (nbeq (nthL [nthL tl i] 0).1 15) (nthL [nthL tl i] 0).6 [nthL [nthL tl i] 0]) (Nat.succ 0)).2)), (u64 ((nthL (bi (nbeq (nthL [nthL tl i] 0).1 15) (nthL [nthL tl i] 0).6 [nthL [nthL tl i] 0]) (Nat.succ 0).succ).2)), (stA ((nthL (bi (nbeq (nthL [nthL tl i] 0).1 15) (nthL [nthL tl i] 0).6 [nthL [nthL tl i] 0]) (Nat.succ 0).succ.succ).3) ((nthL (bi (nbeq (nthL [nthL tl i] 0).1 15) (nthL [nthL tl i] 0).6 [nthL [nthL tl i] 0]) (Nat.succ 0).succ.succ).2)), (slP ((nthL (bi (nbeq (nthL [nthL tl i] 0).1 15) (nthL [nthL tl i] 0).6 [nthL [nthL tl i] 0]) (Nat.succ 0).succ.succ.succ).2) 5 ((nthL (bi (nbeq (nthL [nthL tl i] 0).1 15) (nthL [nthL tl i] 0).6 [nthL [nthL tl i] 0]) (Nat.succ 0).succ.succ.succ).6))])) w) 1 0)) 1)
            (ansY { tag := 16, p := 0, q := 0, r := 0, s := 0, cs := [(aggV [(i64 0), (i64 0), (u64 0), (stA 0 0), (slP 0 5 [])]), { tag := 8, p := 0, q := 0, r := 0, s := 0, cs := [] }] })
            (bi (nble ((lenL (takeN (lenL ol) ol)).add 1) 100000)
              (J [0, 0, 1, 0, 1, 1, 1] [(i64 w), { tag := 16, p := 0, q := 0, r := 1, s := 0, cs := [(i64 to), (i64 tw), (u64 tv), (stA tq tn), (slP tp 5 tl)] }, { tag := 16, p := 0, q := 0, r := 1, s := 0, cs := [(i64 0), (i64 0), (u64 0), (stA 0 0), { tag := 17, p := 1, q := 0, r := 0, s := 0, cs := [] }] }, { tag := 16, p := 0, q := 0, r := 1, s := 0, cs := [(i64 oo), (i64 ow), (u64 ov), (stA oq on), { tag := 16, p := 1, q := 0, r := 0, s := 0, cs := takeN ((lenL (takeN (lenL ol) ol)).add 1) (appL (takeN (lenL ol) ol) [(aggV [(i64 ((atO (unTm (aggV [(i64 ((nthL (bi (nbeq (nthL [nthL tl i] 0).1 15) (nthL [nthL tl i] 0).6 [nthL [nthL tl i] 0]) 0).2)), (i64 ((nthL (bi (nbeq (nthL [nthL tl i] 0).1 15) (nthL [nthL tl i] 0).6 [nthL [nthL tl i] 0]) (Nat.succ 0)).2)), (u64 ((nthL (bi (nbeq (nthL [nthL tl i] 0).1 15) (nthL [nthL tl i] 0).6 [nthL [nthL tl i] 0]) (Nat.succ 0).succ).2)), (stA ((nthL (bi (nbeq (nthL [nthL tl i] 0).1 15) (nthL [nthL tl i] 0).6 [nthL [nthL tl i] 0]) (Nat.succ 0).succ.succ).3) ((nthL (bi (nbeq (nthL [nthL tl i] 0).1 15) (nthL [nthL tl i] 0).6 [nthL [nthL tl i] 0]) (Nat.succ 0).succ.succ).2)), (slP ((nthL (bi (nbeq (nthL [nthL tl i] 0).1 15) (nthL [nthL tl i] 0).6 [nthL [nthL tl i] 0]) (Nat.succ 0).succ.succ.succ).2) 5 ((nthL (bi (nbeq (nthL [nthL tl i] 0).1 15) (nthL [nthL tl i] 0).6 [nthL [nthL tl i] 0]) (Nat.succ 0).succ.succ.succ).6))])) w).op)), (i64 ((atO (unTm (aggV [(i64 ((nthL (bi (nbeq (nthL [nthL tl i] 0).1 15) (nthL [nthL tl i] 0).6 [nthL [nthL tl i] 0]) 0).2)), (i64 ((nthL (bi (nbeq (nthL [nthL tl i] 0).1 15) (nthL [nthL tl i] 0).6 [nthL [nthL tl i] 0]) (Nat.succ 0)).2)), (u64 ((nthL (bi (nbeq (nthL [nthL tl i] 0).1 15) (nthL [nthL tl i] 0).6 [nthL [nthL tl i] 0]) (Nat.succ 0).succ).2)), (stA ((nthL (bi (nbeq (nthL [nthL tl i] 0).1 15) (nthL [nthL tl i] 0).6 [nthL [nthL tl i] 0]) (Nat.succ 0).succ.succ).3) ((nthL (bi (nbeq (nthL [nthL tl i] 0).1 15) (nthL [nthL tl i] 0).6 [nthL [nthL tl i] 0]) (Nat.succ 0).succ.succ).2)), (slP ((nthL (bi (nbeq (nthL [nthL tl i] 0).1 15) (nthL [nthL tl i] 0).6 [nthL [nthL tl i] 0]) (Nat.succ 0).succ.succ.succ).2) 5 ((nthL (bi (nbeq (nthL [nthL tl i] 0).1 15) (nthL [nthL tl i] 0).6 [nthL [nthL tl i] 0]) (Nat.succ 0).succ.succ.succ).6))])) w).w)), (u64 ((atO (unTm (aggV [(i64 ((nthL (bi (nbeq (nthL [nthL tl i] 0).1 15) (nthL [nthL tl i] 0).6 [nthL [nthL tl i] 0]) 0).2)), (i64 ((nthL (bi (nbeq (nthL [nthL tl i] 0).1 15) (nthL [nthL tl i] 0).6 [nthL [nthL tl i] 0]) (Nat.succ 0)).2)), (u64 ((nthL (bi (nbeq (nthL [nthL tl i] 0).1 15) (nthL [nthL tl i] 0).6 [nthL [nthL tl i] 0]) (Nat.succ 0).succ).2)), (stA ((nthL (bi (nbeq (nthL [nthL tl i] 0).1 15) (nthL [nthL tl i] 0).6 [nthL [nthL tl i] 0]) (Nat.succ 0).succ.succ).3) ((nthL (bi (nbeq (nthL [nthL tl i] 0).1 15) (nthL [nthL tl i] 0).6 [nthL [nthL tl i] 0]) (Nat.succ 0).succ.succ).2)), (slP ((nthL (bi (nbeq (nthL [nthL tl i] 0).1 15) (nthL [nthL tl i] 0).6 [nthL [nthL tl i] 0]) (Nat.succ 0).succ.succ.succ).2) 5 ((nthL (bi (nbeq (nthL [nthL tl i] 0).1 15) (nthL [nthL tl i] 0).6 [nthL [nthL tl i] 0]) (Nat.succ 0).succ.succ.succ).6))])) w).v)), (stA ((atO (unTm (aggV [(i64 ((nthL (bi (nbeq (nthL [nthL tl i] 0).1 15) (nthL [nthL tl i] 0).6 [nthL [nthL tl i] 0]) 0).2)), (i64 ((nthL (bi (nbeq (nthL [nthL tl i] 0).1 15) (nthL [nthL tl i] 0).6 [nthL [nthL tl i] 0]) (Nat.succ 0)).2)), (u64 ((nthL (bi (nbeq (nthL [nthL tl i] 0).1 15) (nthL [nthL tl i] 0).6 [nthL [nthL tl i] 0]) (Nat.succ 0).succ).2)), (stA ((nthL (bi (nbeq (nthL [nthL tl i] 0).1 15) (nthL [nthL tl i] 0).6 [nthL [nthL tl i] 0]) (Nat.succ 0).succ.succ).3) ((nthL (bi (nbeq (nthL [nthL tl i] 0).1 15) (nthL [nthL tl i] 0).6 [nthL [nthL tl i] 0]) (Nat.succ 0).succ.succ).2)), (slP ((nthL (bi (nbeq (nthL [nthL tl i] 0).1 15) (nthL [nthL tl i] 0).6 [nthL [nthL tl i] 0]) (Nat.succ 0).succ.succ.succ).2) 5 ((nthL (bi (nbeq (nthL [nthL tl i] 0).1 15) (nthL [nthL tl i] 0).6 [nthL [nthL tl i] 0]) (Nat.succ 0).succ.succ.succ).6))])) w).nq) ((atO (unTm (aggV [(i64 ((nthL (bi (nbeq (nthL [nthL tl i] 0).1 15) (nthL [nthL tl i] 0).6 [nthL [nthL tl i] 0]) 0).2)), (i64 ((nthL (bi (nbeq (nthL [nthL tl i] 0).1 15) (nthL [nthL tl i] 0).6 [nthL [nthL tl i] 0]) (Nat.succ 0)).2)), (u64 ((nthL (bi (nbeq (nthL [nthL tl i] 0).1 15) (nthL [nthL tl i] 0).6 [nthL [nthL tl i] 0]) (Nat.succ 0).succ).2)), (stA ((nthL (bi (nbeq (nthL [nthL tl i] 0).1 15) (nthL [nthL tl i] 0).6 [nthL [nthL tl i] 0]) (Nat.succ 0).succ.succ).3) ((nthL (bi (nbeq (nthL [nthL tl i] 0).1 15) (nthL [nthL tl i] 0).6 [nthL [nthL tl i] 0]) (Nat.succ 0).succ.succ).2)), (slP ((nthL (bi (nbeq (nthL [nthL tl i] 0).1 15) (nthL [nthL tl i] 0).6 [nthL [nthL tl i] 0]) (Nat.succ 0).succ.succ.succ).2) 5 ((nthL (bi (nbeq (nthL [nthL tl i] 0).1 15) (nthL [nthL tl i] 0).6 [nthL [nthL tl i] 0]) (Nat.succ 0).succ.succ.succ).6))])) w).np)), (slP ((atO (unTm (aggV [(i64 ((nthL (bi (nbeq (nthL [nthL tl i] 0).1 15) (nthL [nthL tl i] 0).6 [nthL [nthL tl i] 0]) 0).2)), (i64 ((nthL (bi (nbeq (nthL [nthL tl i] 0).1 15) (nthL [nthL tl i] 0).6 [nthL [nthL tl i] 0]) (Nat.succ 0)).2)), (u64 ((nthL (bi (nbeq (nthL [nthL tl i] 0).1 15) (nthL [nthL tl i] 0).6 [nthL [nthL tl i] 0]) (Nat.succ 0).succ).2)), (stA ((nthL (bi (nbeq (nthL [nthL tl i] 0).1 15) (nthL [nthL tl i] 0).6 [nthL [nthL tl i] 0]) (Nat.succ 0).succ.succ).3) ((nthL (bi (nbeq (nthL [nthL tl i] 0).1 15) (nthL [nthL tl i] 0).6 [nthL [nthL tl i] 0]) (Nat.succ 0).succ.succ).2)), (slP ((nthL (bi (nbeq (nthL [nthL tl i] 0).1 15) (nthL [nthL tl i] 0).6 [nthL [nthL tl i] 0]) (Nat.succ 0).succ.succ.succ).2) 5 ((nthL (bi (nbeq (nthL [nthL tl i] 0).1 15) (nthL [nthL tl i] 0).6 [nthL [nthL tl i] 0]) (Nat.succ 0).succ.succ.succ).6))])) w).p) 5 (List.map tmA (atO (unTm (aggV [(i64 ((nthL (bi (nbeq (nthL [nthL tl i] 0).1 15) (nthL [nthL tl i] 0).6 [nthL [nthL tl i] 0]) 0).2)), (i64 ((nthL (bi (nbeq (nthL [nthL tl i] 0).1 15) (nthL [nthL tl i] 0).6 [nthL [nthL tl i] 0]) (Nat.succ 0)).2)), (u64 ((nthL (bi (nbeq (nthL [nthL tl i] 0).1 15) (nthL [nthL tl i] 0).6 [nthL [nthL tl i] 0]) (Nat.succ 0).succ).2)), (stA ((nthL (bi (nbeq (nthL [nthL tl i] 0).1 15) (nthL [nthL tl i] 0).6 [nthL [nthL tl i] 0]) (Nat.succ 0).succ.succ).3) ((nthL (bi (nbeq (nthL [nthL tl i] 0).1 15) (nthL [nthL tl i] 0).6 [nthL [nthL tl i] 0]) (Nat.succ 0).succ.succ).2)), (slP ((nthL (bi (nbeq (nthL [nthL tl i] 0).1 15) (nthL [nthL tl i] 0).6 [nthL [nthL tl i] 0]) (Nat.succ 0).succ.succ.succ).2) 5 ((nthL (bi (nbeq (nthL [nthL tl i] 0).1 15) (nthL [nthL tl i] 0).6 [nthL [nthL tl i] 0]) (Nat.succ 0).succ.succ.succ).6))])) w).as))])]) }] }, (slP tp 5 tl), (i64 n), (i64 (gt2 (fun a b => (a.add b).mod (kMod (kCode IntKind.i64))) i 1))])
              (failR 211)))
          (failR 301))
        (failR 201))
      (failR 205))
    (bi (nbeq (okN (PureAt Tryz.prog 98 [(slP (bi (nbeq op 0) 0 1) 5 (takeN (lenL ol) ol))] (slP (bi (nbeq (lenL (takeN (lenL ol) ol)) 0) 0 1) 1 (wdsA (takeN (lenL ol) ol))))) 1)
      (bi (eqA 1000 (u64 tv) (u64 tv))
        (bi (eqA 1000 (i64 tw) (i64 tw))
          (bi (eqA 1000 (i64 to) (i64 to))
            (bi (nbeq (okN (PureAt Tryz.prog 83 [(i64 to), (i64 tw), (u64 tv), (slP (bi (nbeq (lenL (takeN (lenL ol) ol)) 0) 0 1) 1 (wdsA (takeN (lenL ol) ol)))] { tag := 16, p := 0, q := 0, r := 0, s := 0, cs := [(i64 (wdW to tw tv (wdsA (takeN (lenL ol) ol)))), (i64 (wdX to tw tv (wdsA (takeN (lenL ol) ol))))] })) 1)
              (bi (eqA 1000 (i64 (wdX to tw tv (wdsA (takeN (lenL ol) ol)))) (i64 (wdX to tw tv (wdsA (takeN (lenL ol) ol)))))
                (ansY { tag := 16, p := 0, q := 0, r := 0, s := 0, cs := [(aggV [(i64 oo), (i64 (wdW to tw tv (wdsA (takeN (lenL ol) ol)))), (u64 ov), (stA oq on), (slP (bi (nbeq op 0) 0 1) 5 (takeN (lenL ol) ol))]), { tag := 8, p := bi (nbeq (wdX to tw tv (wdsA (takeN (lenL ol) ol))) 0) 1 0, q := 0, r := 0, s := 0, cs := [] }] })
                (failR 90))
              (failR 301))
            (failR 90))
          (failR 90))
        (failR 90))
      (failR 301))) := by kernel_rfl
theorem s50 (J : Jmp) (to tw tv tq tn tp w : Nat) (tl : List AV) : (compY Tryz.prog 77 lab50 (finY Tryz.prog [.cell 4 26, .tmp 5] [26, 31]) J [] (bodyC Tryz.f50) (finY Tryz.prog [.cell 4 26, .tmp 5] [26, 31]) []).run RG (setArgs 0 [tmV to tw tv tq tn tp tl, i64 w] noFr) (baseH Tryz.prog) =
  (bi (nbeq (bi (nbeq (lenL tl) 0) 1 0) 1)
    (bi (nbeq (bi (nbeq tw 0) 1 0) 1)
      (bi (nbeq (bi (nbeq to 2) 1 0) 1)
        (bi (nbeq (okN (PureAt Tryz.prog 99 [(i64 w), (u64 tv)] (u64 (cutN w tv)))) 1)
          (ansY { tag := 16, p := 0, q := 0, r := 0, s := 0, cs := [(aggV [(i64 to), (i64 w), (u64 (cutN w tv)), (stA tq tn), (slP 0 5 [])]), (i64 0)] })
          (failR 301))
        (ansY { tag := 16, p := 0, q := 0, r := 0, s := 0, cs := [(aggV [(i64 to), (i64 w), (u64 tv), (stA tq tn), (slP 0 5 [])]), (i64 0)] }))
      (ansY { tag := 16, p := 0, q := 0, r := 0, s := 0, cs := [(aggV [(i64 to), (i64 tw), (u64 tv), (stA tq tn), (slP 0 5 [])]), (i64 0)] }))
    (J [0, 0, 1, 0, 1, 1, 1, 1] [(i64 w), { tag := 16, p := 0, q := 0, r := 1, s := 0, cs := [(i64 to), (i64 tw), (u64 tv), (stA tq tn), (slP tp 5 tl)] }, { tag := 16, p := 0, q := 0, r := 1, s := 0, cs := [(i64 0), (i64 0), (u64 0), (stA 0 0), { tag := 17, p := 1, q := 0, r := 0, s := 0, cs := [] }] }, { tag := 16, p := 0, q := 0, r := 1, s := 0, cs := [(i64 to), (i64 tw), (u64 tv), (stA tq tn), { tag := 16, p := 0, q := 0, r := 0, s := 0, cs := [] }] }, (i64 0)])) := by kernel_rfl
theorem l50 (J : Jmp) (w to tw tv tq tn tp oo ow ov oq on op i : Nat) (tl ol : List AV) : lblY Tryz.prog 77 lab50 (baseH Tryz.prog) RG (finY Tryz.prog [.cell 4 26, .tmp 5] [26, 31]) (bodyC Tryz.f50) J [0,0,1,0,1,1,1,1] [i64 w, bxD [i64 to, i64 tw, u64 tv, stA tq tn, slP tp 5 tl], bxD [i64 0, i64 0, u64 0, stA 0 0, mk1 17 1], bxD [i64 oo, i64 ow, u64 ov, stA oq on, lsD op ol], i64 i] =
  (bi (nbeq (bi (nb (nble (biased 3 (lenL tl)) (biased 3 i))) 1 0) 1)
    (bi (nble i.succ (lenL tl))
      (bi (bi (tagIs 3 (nthL (bi (nbeq (nthL [nthL tl i] 0).1 15) (nthL [nthL tl i] 0).6 [nthL [nthL tl i] 0]) 0)) (bi (tagIs 3 (nthL (bi (nbeq (nthL [nthL tl i] 0).1 15) (nthL [nthL tl i] 0).6 [nthL [nthL tl i] 0]) (Nat.succ 0))) (bi (tagIs 7 (nthL (bi (nbeq (nthL [nthL tl i] 0).1 15) (nthL [nthL tl i] 0).6 [nthL [nthL tl i] 0]) (Nat.succ 0).succ)) (bi (tagIs 9 (nthL (bi (nbeq (nthL [nthL tl i] 0).1 15) (nthL [nthL tl i] 0).6 [nthL [nthL tl i] 0]) (Nat.succ 0).succ.succ)) (bi (tagIs 37 (nthL (bi (nbeq (nthL [nthL tl i] 0).1 15) (nthL [nthL tl i] 0).6 [nthL [nthL tl i] 0]) (Nat.succ 0).succ.succ.succ)) true false) false) false) false) false)
        (bi (nbeq (okN (PureAt Tryz.prog 50 [(aggV [(i64 ((nthL (bi (nbeq (nthL [nthL tl i] 0).1 15) (nthL [nthL tl i] 0).6 [nthL [nthL tl i] 0]) 0).2)), (i64 ((nthL (bi (nbeq (nthL [nthL tl i] 0).1 15) (nthL [nthL tl i] 0).6 [nthL [nthL tl i] 0]) (Nat.succ 0)).2)), (u64 ((nthL (bi (nbeq (nthL [nthL tl i] 0).1 15) (nthL [nthL tl i] 0).6 [nthL [nthL tl i] 0]) (Nat.succ 0).succ).2)), (stA ((nthL (bi (nbeq (nthL [nthL tl i] 0).1 15) (nthL [nthL tl i] 0).6 [nthL [nthL tl i] 0]) (Nat.succ 0).succ.succ).3) ((nthL (bi (nbeq (nthL [nthL tl i] 0).1 15) (nthL [nthL tl i] 0).6 [nthL [nthL tl i] 0]) (Nat.succ 0).succ.succ).2)), (slP ((nthL (bi (nbeq (nthL [nthL tl i] 0).1 15) (nthL [nthL tl i] 0).6 [nthL [nthL tl i] 0]) (Nat.succ 0).succ.succ.succ).2) 5 ((nthL (bi (nbeq (nthL [nthL tl i] 0).1 15) (nthL [nthL tl i] 0).6 [nthL [nthL tl i] 0]) (Nat.succ 0).succ.succ.succ).6))]), (i64 w)] { tag := 16, p := 0, q := 0, r := 0, s := 0, cs := [(aggV [(i64 ((atRO (unTm (aggV [(i64 ((nthL (bi (nbeq (nthL [nthL tl i] 0).1 15) (nthL [nthL tl i] 0).6 [nthL [nthL tl i] 0]) 0).2)), (i64 ((nthL (bi (nbeq (nthL [nthL tl i] 0).1 15) (nthL [nthL tl i] 0).6 [nthL [nthL tl i] 0]) (Nat.succ 0)).2)), (u64 ((nthL (bi (nbeq (nthL [nthL tl i] 0).1 15) (nthL [nthL tl i] 0).6 [nthL [nthL tl i] 0]) (Nat.succ 0).succ).2)), (stA ((nthL (bi (nbeq (nthL [nthL tl i] 0).1 15) (nthL [nthL tl i] 0).6 [nthL [nthL tl i] 0]) (Nat.succ 0).succ.succ).3) ((nthL (bi (nbeq (nthL [nthL tl i] 0).1 15) (nthL [nthL tl i] 0).6 [nthL [nthL tl i] 0]) (Nat.succ 0).succ.succ).2)), (slP ((nthL (bi (nbeq (nthL [nthL tl i] 0).1 15) (nthL [nthL tl i] 0).6 [nthL [nthL tl i] 0]) (Nat.succ 0).succ.succ.succ).2) 5 ((nthL (bi (nbeq (nthL [nthL tl i] 0).1 15) (nthL [nthL tl i] 0).6 [nthL [nthL tl i] 0]) (Nat.succ 0).succ.succ.succ).6))])) w).op)), (i64 ((atRO (unTm (aggV [(i64 ((nthL (bi (nbeq (nthL [nthL tl i] 0).1 15) (nthL [nthL tl i] 0).6 [nthL [nthL tl i] 0]) 0).2)), (i64 ((nthL (bi (nbeq (nthL [nthL tl i] 0).1 15) (nthL [nthL tl i] 0).6 [nthL [nthL tl i] 0]) (Nat.succ 0)).2)), (u64 ((nthL (bi (nbeq (nthL [nthL tl i] 0).1 15) (nthL [nthL tl i] 0).6 [nthL [nthL tl i] 0]) (Nat.succ 0).succ).2)), (stA ((nthL (bi (nbeq (nthL [nthL tl i] 0).1 15) (nthL [nthL tl i] 0).6 [nthL [nthL tl i] 0]) (Nat.succ 0).succ.succ).3) ((nthL (bi (nbeq (nthL [nthL tl i] 0).1 15) (nthL [nthL tl i] 0).6 [nthL [nthL tl i] 0]) (Nat.succ 0).succ.succ).2)), (slP ((nthL (bi (nbeq (nthL [nthL tl i] 0).1 15) (nthL [nthL tl i] 0).6 [nthL [nthL tl i] 0]) (Nat.succ 0).succ.succ.succ).2) 5 ((nthL (bi (nbeq (nthL [nthL tl i] 0).1 15) (nthL [nthL tl i] 0).6 [nthL [nthL tl i] 0]) (Nat.succ 0).succ.succ.succ).6))])) w).w)), (u64 ((atRO (unTm (aggV [(i64 ((nthL (bi (nbeq (nthL [nthL tl i] 0).1 15) (nthL [nthL tl i] 0).6 [nthL [nthL tl i] 0]) 0).2)), (i64 ((nthL (bi (nbeq (nthL [nthL tl i] 0).1 15) (nthL [nthL tl i] 0).6 [nthL [nthL tl i] 0]) (Nat.succ 0)).2)), (u64 ((nthL (bi (nbeq (nthL [nthL tl i] 0).1 15) (nthL [nthL tl i] 0).6 [nthL [nthL tl i] 0]) (Nat.succ 0).succ).2)), (stA ((nthL (bi (nbeq (nthL [nthL tl i] 0).1 15) (nthL [nthL tl i] 0).6 [nthL [nthL tl i] 0]) (Nat.succ 0).succ.succ).3) ((nthL (bi (nbeq (nthL [nthL tl i] 0).1 15) (nthL [nthL tl i] 0).6 [nthL [nthL tl i] 0]) (Nat.succ 0).succ.succ).2)), (slP ((nthL (bi (nbeq (nthL [nthL tl i] 0).1 15) (nthL [nthL tl i] 0).6 [nthL [nthL tl i] 0]) (Nat.succ 0).succ.succ.succ).2) 5 ((nthL (bi (nbeq (nthL [nthL tl i] 0).1 15) (nthL [nthL tl i] 0).6 [nthL [nthL tl i] 0]) (Nat.succ 0).succ.succ.succ).6))])) w).v)), (stA ((atRO (unTm (aggV [(i64 ((nthL (bi (nbeq (nthL [nthL tl i] 0).1 15) (nthL [nthL tl i] 0).6 [nthL [nthL tl i] 0]) 0).2)), (i64 ((nthL (bi (nbeq (nthL [nthL tl i] 0).1 15) (nthL [nthL tl i] 0).6 [nthL [nthL tl i] 0]) (Nat.succ 0)).2)), (u64 ((nthL (bi (nbeq (nthL [nthL tl i] 0).1 15) (nthL [nthL tl i] 0).6 [nthL [nthL tl i] 0]) (Nat.succ 0).succ).2)), (stA ((nthL (bi (nbeq (nthL [nthL tl i] 0).1 15) (nthL [nthL tl i] 0).6 [nthL [nthL tl i] 0]) (Nat.succ 0).succ.succ).3) ((nthL (bi (nbeq (nthL [nthL tl i] 0).1 15) (nthL [nthL tl i] 0).6 [nthL [nthL tl i] 0]) (Nat.succ 0).succ.succ).2)), (slP ((nthL (bi (nbeq (nthL [nthL tl i] 0).1 15) (nthL [nthL tl i] 0).6 [nthL [nthL tl i] 0]) (Nat.succ 0).succ.succ.succ).2) 5 ((nthL (bi (nbeq (nthL [nthL tl i] 0).1 15) (nthL [nthL tl i] 0).6 [nthL [nthL tl i] 0]) (Nat.succ 0).succ.succ.succ).6))])) w).nq) ((atRO (unTm (aggV [(i64 ((nthL (bi (nbeq (nthL [nthL tl i] 0).1 15) (nthL [nthL tl i] 0).6 [nthL [nthL tl i] 0]) 0).2)), (i64 ((nthL (bi (nbeq (nthL [nthL tl i] 0).1 15) (nthL [nthL tl i] 0).6 [nthL [nthL tl i] 0]) (Nat.succ 0)).2)), (u64 ((nthL (bi (nbeq (nthL [nthL tl i] 0).1 15) (nthL [nthL tl i] 0).6 [nthL [nthL tl i] 0]) (Nat.succ 0).succ).2)), (stA ((nthL (bi (nbeq (nthL [nthL tl i] 0).1 15) (nthL [nthL tl i] 0).6 [nthL [nthL tl i] 0]) (Nat.succ 0).succ.succ).3) ((nthL (bi (nbeq (nthL [nthL tl i] 0).1 15) (nthL [nthL tl i] 0).6 [nthL [nthL tl i] 0]) (Nat.succ 0).succ.succ).2)), (slP ((nthL (bi (nbeq (nthL [nthL tl i] 0).1 15) (nthL [nthL tl i] 0).6 [nthL [nthL tl i] 0]) (Nat.succ 0).succ.succ.succ).2) 5 ((nthL (bi (nbeq (nthL [nthL tl i] 0).1 15) (nthL [nthL tl i] 0).6 [nthL [nthL tl i] 0]) (Nat.succ 0).succ.succ.succ).6))])) w).np)), (slP ((atRO (unTm (aggV [(i64 ((nthL (bi (nbeq (nthL [nthL tl i] 0).1 15) (nthL [nthL tl i] 0).6 [nthL [nthL tl i] 0]) 0).2)), (i64 ((nthL (bi (nbeq (nthL [nthL tl i] 0).1 15) (nthL [nthL tl i] 0).6 [nthL [nthL tl i] 0]) (Nat.succ 0)).2)), (u64 ((nthL (bi (nbeq (nthL [nthL tl i] 0).1 15) (nthL [nthL tl i] 0).6 [nthL [nthL tl i] 0]) (Nat.succ 0).succ).2)), (stA ((nthL (bi (nbeq (nthL [nthL tl i] 0).1 15) (nthL [nthL tl i] 0).6 [nthL [nthL tl i] 0]) (Nat.succ 0).succ.succ).3) ((nthL (bi (nbeq (nthL [nthL tl i] 0).1 15) (nthL [nthL tl i] 0).6 [nthL [nthL tl i] 0]) (Nat.succ 0).succ.succ).2)), (slP ((nthL (bi (nbeq (nthL [nthL tl i] 0).1 15) (nthL [nthL tl i] 0).6 [nthL [nthL tl i] 0]) (Nat.succ 0).succ.succ.succ).2) 5 ((nthL (bi (nbeq (nthL [nthL tl i] 0).1 15) (nthL [nthL tl i] 0).6 [nthL [nthL tl i] 0]) (Nat.succ 0).succ.succ.succ).6))])) w).p) 5 (List.map tmA (atRO (unTm (aggV [(i64 ((nthL (bi (nbeq (nthL [nthL tl i] 0).1 15) (nthL [nthL tl i] 0).6 [nthL [nthL tl i] 0]) 0).2)), (i64 ((nthL (bi (nbeq (nthL [nthL tl i] 0).1 15) (nthL [nthL tl i] 0).6 [nthL [nthL tl i] 0]) (Nat.succ 0)).2)), (u64 ((nthL (bi (nbeq (nthL [nthL tl i] 0).1 15) (nthL [nthL tl i] 0).6 [nthL [nthL tl i] 0]) (Nat.succ 0).succ).2)), (stA ((nthL (bi (nbeq (nthL [nthL tl i] 0).1 15) (nthL [nthL tl i] 0).6 [nthL [nthL tl i] 0]) (Nat.succ 0).succ.succ).3) ((nthL (bi (nbeq (nthL [nthL tl i] 0).1 15) (nthL [nthL tl i] 0).6 [nthL [nthL tl i] 0]) (Nat.succ 0).succ.succ).2)), (slP ((nthL (bi (nbeq (nthL [nthL tl i] 0).1 15) (nthL [nthL tl i] 0).6 [nthL [nthL tl i] 0]) (Nat.succ 0).succ.succ.succ).2) 5 ((nthL (bi (nbeq (nthL [nthL tl i] 0).1 15) (nthL [nthL tl i] 0).6 [nthL [nthL tl i] 0]) (Nat.succ 0).succ.succ.succ).6))])) w).as))]), (i64 (atRE (unTm (aggV [(i64 ((nthL (bi (nbeq (nthL [nthL tl i] 0).1 15) (nthL [nthL tl i] 0).6 [nthL [nthL tl i] 0]) 0).2)), (i64 ((nthL (bi (nbeq (nthL [nthL tl i] 0).1 15) (nthL [nthL tl i] 0).6 [nthL [nthL tl i] 0]) (Nat.succ 0)).2)), (u64 ((nthL (bi (nbeq (nthL [nthL tl i] 0).1 15) (nthL [nthL tl i] 0).6 [nthL [nthL tl i] 0]) (Nat.succ 0).succ).2)), (stA ((nthL (bi (nbeq (nthL [nthL tl i] 0).1 15) (nthL [nthL tl i] 0).6 [nthL [nthL tl i] 0]) (Nat.succ 0).succ.succ).3) ((nthL (bi (nbeq (nthL [nthL tl i] 0).1 15) (nthL [nthL tl i] 0).6 [nthL [nthL tl i] 0]) (Nat.succ 0).succ.succ).2)), (slP ((nthL (bi (nbeq (nthL [nthL tl i] 0).1 15) (nthL [nthL tl i] 0).6 [nthL [nthL tl i] 0]) (Nat.succ 0).succ.succ.succ).2) 5 ((nthL (bi (nbeq (nthL [nthL tl i] 0).1 15) (nthL [nthL tl i] 0).6 [nthL [nthL tl i] 0]) (Nat.succ 0).succ.succ.succ).6))])) w))] })) 1)
          (bi (nbeq (bi (nb (nbeq (atRE (unTm (aggV [(i64 ((nthL (bi (nbeq (nthL [nthL tl i] 0).1 15) (nthL [nthL tl i] 0).6 [nthL [nthL tl i] 0]) 0).2)), (i64 ((nthL (bi (nbeq (nthL [nthL tl i] 0).1 15) (nthL [nthL tl i] 0).6 [nthL [nthL tl i] 0]) (Nat.succ 0)).2)), (u64 ((nthL (bi (nbeq (nthL [nthL tl i] 0).1 15) (nthL [nthL tl i] 0).6 [nthL [nthL tl i] 0]) (Nat.succ 0).succ).2)), (stA ((nthL (bi (nbeq (nthL [nthL tl i] 0).1 15) (nthL [nthL tl i] 0).6 [nthL [nthL tl i] 0]) (Nat.succ 0).succ.succ).3) ((nthL (bi (nbeq (nthL [nthL tl i] 0).1 15) (nthL [nthL tl i] 0).6 [nthL [nthL tl i] 0]) (Nat.succ 0).succ.succ).2)), (slP ((nthL (bi (nbeq (nthL [nthL tl i] 0).1 15) (nthL [nthL tl i] 0).6 [nthL [nthL tl i] 0]) (Nat.succ 0).succ.succ.succ).2) 5 ((nthL (bi (nbeq (nthL [nthL tl i] 0).1 15) (nthL [nthL tl i] 0).6 [nthL [nthL tl i] 0]) (Nat.succ 0).succ.succ.succ).6))])) w) 0)) 1 0) 1)
            (ansY { tag := 16, p := 0, q := 0, r := 0, s := 0, cs := [(aggV [(i64 0), (i64 0), (u64 0), (stA 0 0), (slP 0 5 [])]), (i64 (atRE (unTm (aggV [(i64 ((nthL (bi (nbeq (nthL [nthL tl i] 0).1 15) (nthL [nthL tl i] 0).6 [nthL [nthL tl i] 0]) 0).2)), (i64 ((nthL (bi (nbeq (nthL [nthL tl i] 0).1 15) (nthL [nthL tl i] 0).6 [nthL [nthL tl i] 0]) (Nat.succ 0)).2)), (u64 ((nthL (bi (nbeq (nthL [nthL tl i] 0).1 15) (nthL [nthL tl i] 0).6 [nthL [nthL tl i] 0]) (Nat.succ 0).succ).2)), (stA ((nthL (bi (nbeq (nthL [nthL tl i] 0).1 15) (nthL [nthL tl i] 0).6 [nthL [nthL tl i] 0]) (Nat.succ 0).succ.succ).3) ((nthL (bi (nbeq (nthL [nthL tl i] 0).1 15) (nthL [nthL tl i] 0).6 [nthL [nthL tl i] 0]) (Nat.succ 0).succ.succ).2)), (slP ((nthL (bi (nbeq (nthL [nthL tl i] 0).1 15) (nthL [nthL tl i] 0).6 [nthL [nthL tl i] 0]) (Nat.succ 0).succ.succ.succ).2) 5 ((nthL (bi (nbeq (nthL [nthL tl i] 0).1 15) (nthL [nthL tl i] 0).6 [nthL [nthL tl i] 0]) (Nat.succ 0).succ.succ.succ).6))])) w))] })
            (bi (nble ((lenL (takeN (lenL ol) ol)).add 1) 100000)
              (J [0, 0, 1, 0, 1, 1, 1, 1] [(i64 w), { tag := 16, p := 0, q := 0, r := 1, s := 0, cs := [(i64 to), (i64 tw), (u64 tv), (stA tq tn), (slP tp 5 tl)] }, { tag := 16, p := 0, q := 0, r := 1, s := 0, cs := [(i64 0), (i64 0), (u64 0), (stA 0 0), { tag := 17, p := 1, q := 0, r := 0, s := 0, cs := [] }] }, { tag := 16, p := 0, q := 0, r := 1, s := 0, cs := [(i64 oo), (i64 ow), (u64 ov), (stA oq on), { tag := 16, p := 1, q := 0, r := 0, s := 0, cs := takeN ((lenL (takeN (lenL ol) ol)).add 1) (appL (takeN (lenL ol) ol) [(aggV [(i64 ((atRO (unTm (aggV [(i64 ((nthL (bi (nbeq (nthL [nthL tl i] 0).1 15) (nthL [nthL tl i] 0).6 [nthL [nthL tl i] 0]) 0).2)), (i64 ((nthL (bi (nbeq (nthL [nthL tl i] 0).1 15) (nthL [nthL tl i] 0).6 [nthL [nthL tl i] 0]) (Nat.succ 0)).2)), (u64 ((nthL (bi (nbeq (nthL [nthL tl i] 0).1 15) (nthL [nthL tl i] 0).6 [nthL [nthL tl i] 0]) (Nat.succ 0).succ).2)), (stA ((nthL (bi (nbeq (nthL [nthL tl i] 0).1 15) (nthL [nthL tl i] 0).6 [nthL [nthL tl i] 0]) (Nat.succ 0).succ.succ).3) ((nthL (bi (nbeq (nthL [nthL tl i] 0).1 15) (nthL [nthL tl i] 0).6 [nthL [nthL tl i] 0]) (Nat.succ 0).succ.succ).2)), (slP ((nthL (bi (nbeq (nthL [nthL tl i] 0).1 15) (nthL [nthL tl i] 0).6 [nthL [nthL tl i] 0]) (Nat.succ 0).succ.succ.succ).2) 5 ((nthL (bi (nbeq (nthL [nthL tl i] 0).1 15) (nthL [nthL tl i] 0).6 [nthL [nthL tl i] 0]) (Nat.succ 0).succ.succ.succ).6))])) w).op)), (i64 ((atRO (unTm (aggV [(i64 ((nthL (bi (nbeq (nthL [nthL tl i] 0).1 15) (nthL [nthL tl i] 0).6 [nthL [nthL tl i] 0]) 0).2)), (i64 ((nthL (bi (nbeq (nthL [nthL tl i] 0).1 15) (nthL [nthL tl i] 0).6 [nthL [nthL tl i] 0]) (Nat.succ 0)).2)), (u64 ((nthL (bi (nbeq (nthL [nthL tl i] 0).1 15) (nthL [nthL tl i] 0).6 [nthL [nthL tl i] 0]) (Nat.succ 0).succ).2)), (stA ((nthL (bi (nbeq (nthL [nthL tl i] 0).1 15) (nthL [nthL tl i] 0).6 [nthL [nthL tl i] 0]) (Nat.succ 0).succ.succ).3) ((nthL (bi (nbeq (nthL [nthL tl i] 0).1 15) (nthL [nthL tl i] 0).6 [nthL [nthL tl i] 0]) (Nat.succ 0).succ.succ).2)), (slP ((nthL (bi (nbeq (nthL [nthL tl i] 0).1 15) (nthL [nthL tl i] 0).6 [nthL [nthL tl i] 0]) (Nat.succ 0).succ.succ.succ).2) 5 ((nthL (bi (nbeq (nthL [nthL tl i] 0).1 15) (nthL [nthL tl i] 0).6 [nthL [nthL tl i] 0]) (Nat.succ 0).succ.succ.succ).6))])) w).w)), (u64 ((atRO (unTm (aggV [(i64 ((nthL (bi (nbeq (nthL [nthL tl i] 0).1 15) (nthL [nthL tl i] 0).6 [nthL [nthL tl i] 0]) 0).2)), (i64 ((nthL (bi (nbeq (nthL [nthL tl i] 0).1 15) (nthL [nthL tl i] 0).6 [nthL [nthL tl i] 0]) (Nat.succ 0)).2)), (u64 ((nthL (bi (nbeq (nthL [nthL tl i] 0).1 15) (nthL [nthL tl i] 0).6 [nthL [nthL tl i] 0]) (Nat.succ 0).succ).2)), (stA ((nthL (bi (nbeq (nthL [nthL tl i] 0).1 15) (nthL [nthL tl i] 0).6 [nthL [nthL tl i] 0]) (Nat.succ 0).succ.succ).3) ((nthL (bi (nbeq (nthL [nthL tl i] 0).1 15) (nthL [nthL tl i] 0).6 [nthL [nthL tl i] 0]) (Nat.succ 0).succ.succ).2)), (slP ((nthL (bi (nbeq (nthL [nthL tl i] 0).1 15) (nthL [nthL tl i] 0).6 [nthL [nthL tl i] 0]) (Nat.succ 0).succ.succ.succ).2) 5 ((nthL (bi (nbeq (nthL [nthL tl i] 0).1 15) (nthL [nthL tl i] 0).6 [nthL [nthL tl i] 0]) (Nat.succ 0).succ.succ.succ).6))])) w).v)), (stA ((atRO (unTm (aggV [(i64 ((nthL (bi (nbeq (nthL [nthL tl i] 0).1 15) (nthL [nthL tl i] 0).6 [nthL [nthL tl i] 0]) 0).2)), (i64 ((nthL (bi (nbeq (nthL [nthL tl i] 0).1 15) (nthL [nthL tl i] 0).6 [nthL [nthL tl i] 0]) (Nat.succ 0)).2)), (u64 ((nthL (bi (nbeq (nthL [nthL tl i] 0).1 15) (nthL [nthL tl i] 0).6 [nthL [nthL tl i] 0]) (Nat.succ 0).succ).2)), (stA ((nthL (bi (nbeq (nthL [nthL tl i] 0).1 15) (nthL [nthL tl i] 0).6 [nthL [nthL tl i] 0]) (Nat.succ 0).succ.succ).3) ((nthL (bi (nbeq (nthL [nthL tl i] 0).1 15) (nthL [nthL tl i] 0).6 [nthL [nthL tl i] 0]) (Nat.succ 0).succ.succ).2)), (slP ((nthL (bi (nbeq (nthL [nthL tl i] 0).1 15) (nthL [nthL tl i] 0).6 [nthL [nthL tl i] 0]) (Nat.succ 0).succ.succ.succ).2) 5 ((nthL (bi (nbeq (nthL [nthL tl i] 0).1 15) (nthL [nthL tl i] 0).6 [nthL [nthL tl i] 0]) (Nat.succ 0).succ.succ.succ).6))])) w).nq) ((atRO (unTm (aggV [(i64 ((nthL (bi (nbeq (nthL [nthL tl i] 0).1 15) (nthL [nthL tl i] 0).6 [nthL [nthL tl i] 0]) 0).2)), (i64 ((nthL (bi (nbeq (nthL [nthL tl i] 0).1 15) (nthL [nthL tl i] 0).6 [nthL [nthL tl i] 0]) (Nat.succ 0)).2)), (u64 ((nthL (bi (nbeq (nthL [nthL tl i] 0).1 15) (nthL [nthL tl i] 0).6 [nthL [nthL tl i] 0]) (Nat.succ 0).succ).2)), (stA ((nthL (bi (nbeq (nthL [nthL tl i] 0).1 15) (nthL [nthL tl i] 0).6 [nthL [nthL tl i] 0]) (Nat.succ 0).succ.succ).3) ((nthL (bi (nbeq (nthL [nthL tl i] 0).1 15) (nthL [nthL tl i] 0).6 [nthL [nthL tl i] 0]) (Nat.succ 0).succ.succ).2)), (slP ((nthL (bi (nbeq (nthL [nthL tl i] 0).1 15) (nthL [nthL tl i] 0).6 [nthL [nthL tl i] 0]) (Nat.succ 0).succ.succ.succ).2) 5 ((nthL (bi (nbeq (nthL [nthL tl i] 0).1 15) (nthL [nthL tl i] 0).6 [nthL [nthL tl i] 0]) (Nat.succ 0).succ.succ.succ).6))])) w).np)), (slP ((atRO (unTm (aggV [(i64 ((nthL (bi (nbeq (nthL [nthL tl i] 0).1 15) (nthL [nthL tl i] 0).6 [nthL [nthL tl i] 0]) 0).2)), (i64 ((nthL (bi (nbeq (nthL [nthL tl i] 0).1 15) (nthL [nthL tl i] 0).6 [nthL [nthL tl i] 0]) (Nat.succ 0)).2)), (u64 ((nthL (bi (nbeq (nthL [nthL tl i] 0).1 15) (nthL [nthL tl i] 0).6 [nthL [nthL tl i] 0]) (Nat.succ 0).succ).2)), (stA ((nthL (bi (nbeq (nthL [nthL tl i] 0).1 15) (nthL [nthL tl i] 0).6 [nthL [nthL tl i] 0]) (Nat.succ 0).succ.succ).3) ((nthL (bi (nbeq (nthL [nthL tl i] 0).1 15) (nthL [nthL tl i] 0).6 [nthL [nthL tl i] 0]) (Nat.succ 0).succ.succ).2)), (slP ((nthL (bi (nbeq (nthL [nthL tl i] 0).1 15) (nthL [nthL tl i] 0).6 [nthL [nthL tl i] 0]) (Nat.succ 0).succ.succ.succ).2) 5 ((nthL (bi (nbeq (nthL [nthL tl i] 0).1 15) (nthL [nthL tl i] 0).6 [nthL [nthL tl i] 0]) (Nat.succ 0).succ.succ.succ).6))])) w).p) 5 (List.map tmA (atRO (unTm (aggV [(i64 ((nthL (bi (nbeq (nthL [nthL tl i] 0).1 15) (nthL [nthL tl i] 0).6 [nthL [nthL tl i] 0]) 0).2)), (i64 ((nthL (bi (nbeq (nthL [nthL tl i] 0).1 15) (nthL [nthL tl i] 0).6 [nthL [nthL tl i] 0]) (Nat.succ 0)).2)), (u64 ((nthL (bi (nbeq (nthL [nthL tl i] 0).1 15) (nthL [nthL tl i] 0).6 [nthL [nthL tl i] 0]) (Nat.succ 0).succ).2)), (stA ((nthL (bi (nbeq (nthL [nthL tl i] 0).1 15) (nthL [nthL tl i] 0).6 [nthL [nthL tl i] 0]) (Nat.succ 0).succ.succ).3) ((nthL (bi (nbeq (nthL [nthL tl i] 0).1 15) (nthL [nthL tl i] 0).6 [nthL [nthL tl i] 0]) (Nat.succ 0).succ.succ).2)), (slP ((nthL (bi (nbeq (nthL [nthL tl i] 0).1 15) (nthL [nthL tl i] 0).6 [nthL [nthL tl i] 0]) (Nat.succ 0).succ.succ.succ).2) 5 ((nthL (bi (nbeq (nthL [nthL tl i] 0).1 15) (nthL [nthL tl i] 0).6 [nthL [nthL tl i] 0]) (Nat.succ 0).succ.succ.succ).6))])) w).as))])]) }] }, (i64 (gt2 (fun a b => (a.add b).mod (kMod (kCode IntKind.i64))) i 1))])
              (failR 211)))
          (failR 301))
        (failR 201))
      (failR 205))
    (bi (nbeq (okN (PureAt Tryz.prog 101 [(aggV [(i64 oo), (i64 ow), (u64 ov), (stA oq on), (slP (bi (nbeq op 0) 0 1) 5 (takeN (lenL ol) ol))])] (slP 1 1 (wdsA (takeN (lenL ol) ol))))) 1)
      (bi (eqA 1000 (u64 ov) (u64 ov))
        (bi (eqA 1000 (i64 ow) (i64 ow))
          (bi (eqA 1000 (i64 oo) (i64 oo))
            (bi (nbeq (okN (PureAt Tryz.prog 100 [(i64 oo), (i64 ow), (u64 ov), (slP 1 1 (wdsA (takeN (lenL ol) ol)))] { tag := 16, p := 0, q := 0, r := 0, s := 0, cs := [(i64 (wdW oo ow ov (wdsA (takeN (lenL ol) ol)))), (i64 (wdX oo ow ov (wdsA (takeN (lenL ol) ol))))] })) 1)
              (bi (eqA 1000 (i64 (wdX oo ow ov (wdsA (takeN (lenL ol) ol)))) (i64 (wdX oo ow ov (wdsA (takeN (lenL ol) ol)))))
                (bi (nbeq (bi (nb (nbeq (wdX oo ow ov (wdsA (takeN (lenL ol) ol))) 0)) 1 0) 1)
                  (ansY { tag := 16, p := 0, q := 0, r := 0, s := 0, cs := [(aggV [(i64 0), (i64 0), (u64 0), (stA 0 0), (slP 0 5 [])]), (i64 3)] })
                  (ansY { tag := 16, p := 0, q := 0, r := 0, s := 0, cs := [(aggV [(i64 oo), (i64 (wdW oo ow ov (wdsA (takeN (lenL ol) ol)))), (u64 ov), (stA oq on), (slP (bi (nbeq op 0) 0 1) 5 (takeN (lenL ol) ol))]), (i64 0)] }))
                (failR 90))
              (failR 301))
            (failR 90))
          (failR 90))
        (failR 90))
      (failR 301))) := by kernel_rfl
theorem body49 : Tryz.f49.body = some (bodyC Tryz.f49) := by kernel_rfl
theorem fn49 : Tryz.prog.funcs[49]? = some Tryz.f49 := by kernel_rfl
theorem nt49 : Tryz.f49.ntmps = 81 := by kernel_rfl
theorem rs49 : Tryz.f49.results.toList = [.cell 4 26, .tmp 5] := by kernel_rfl
theorem body50 : Tryz.f50.body = some (bodyC Tryz.f50) := by kernel_rfl
theorem fn50 : Tryz.prog.funcs[50]? = some Tryz.f50 := by kernel_rfl
theorem nt50 : Tryz.f50.ntmps = 77 := by kernel_rfl
theorem rs50 : Tryz.f50.results.toList = [.cell 4 26, .tmp 5] := by kernel_rfl

noncomputable def resE (ok : Tm → Bool) (f : Tm → Tm) (bad : Tm → RL) (fin : Nat → List Tm → RL) : List Tm → Nat → List Tm → RL
  | [], p, acc => fin p acc
  | x :: l, p, acc => bi (ok x) (resE ok f bad fin l 1 (acc ++ [f x])) (bad x)
/-- a loop that appends, and may leave -/
theorem walkE (G : Tm → Prop) (X : List Tm) (ok : Tm → Bool) (f : Tm → Tm) (bad : Tm → RL) (fin : Nat → List Tm → RL) (L : Nat → Nat → Nat → List Tm → RL) (hX : X.length ≤ 1000) (hG : ∀ x ∈ X, G (f x))
    (hend : ∀ k p acc, acc.length ≤ 1000 → (∀ t ∈ acc, G t) → L (k + 1) X.length p acc = fin p acc)
    (hstep : ∀ k i p acc (h : i < X.length), acc.length = i → L (k + 1) i p acc = bi (ok X[i]) (L k (i + 1) 1 (acc ++ [f X[i]])) (bad X[i])) :
    ∀ k i p acc, i + k = X.length → acc.length = i → (∀ t ∈ acc, G t) → L (k + 1) i p acc = resE ok f bad fin (X.drop i) p acc := by
  intro k
  induction k with
  | zero =>
    intro i p acc hi ha hg
    have e : i = X.length := by omega
    subst e
    rw [List.drop_length, hend _ _ _ (by omega) hg]; rfl
  | succ k ih =>
    intro i p acc hi ha hg
    have hlt : i < X.length := by omega
    rw [hstep _ _ _ _ hlt ha, List.drop_eq_getElem_cons hlt, resE]
    rw [ih (i + 1) 1 _ (by omega) (by simp; omega) (fun t ht => by
      rcases List.mem_append.1 ht with h | h
      · exact hg t h
      · rw [List.mem_singleton.1 h]; exact hG _ (List.getElem_mem hlt))]
theorem resE_at (w : Nat) (bad : Tm → RL) (fin : Nat → List Tm → RL) (B : RL) (hb : ∀ x, atB x w = false → bad x = B) : ∀ (X : List Tm) (p : Nat) (acc : List Tm),
    resE (fun x => atB x w) (fun x => atO x w) bad fin X p acc = match atPs w X with | none => B | some bs => fin (if X.length = 0 then p else 1) (acc ++ bs) := by
  intro X
  induction X with
  | nil => intro p acc; rw [resE, atPs]; simp
  | cons x X ih =>
    intro p acc
    rw [resE, atPs, ih]
    cases h : atB x w
    · have h' : (atP w x).2 = false := h
      rw [bi_ff, if_neg (by rw [h']; decide), hb x h]
    · have h' : (atP w x).2 = true := h
      rw [bi_tt, if_pos h']
      cases atPs w X with
      | none => rfl
      | some bs =>
        simp only [List.append_assoc, List.length_cons]
        rw [if_neg (show ¬ (X.length + 1 = 0) by omega)]
        have : (if X.length = 0 then 1 else 1) = 1 := by split <;> rfl
        rw [this]; rfl
theorem wdP_lt {op y z : Nat} {ws : List Nat} (hy : y < 2 ^ 64) : (wdP op y z ws).1 < 2 ^ 64 := by
  by_cases h1 : op = 0 ∨ 26 < op ∨ ws.length ≠ arT op
  · rw [wd_bad h1]; decide
  by_cases h2 : ∀ a ∈ ws, a ≤ 64
  · unfold wdP
    rw [if_neg h1, if_neg (by simp; exact h2)]
    have key : ∀ (c : Prop) [Decidable c] (a b : Nat × Nat), a.1 < 2 ^ 64 → b.1 < 2 ^ 64 → (if c then a else b).1 < 2 ^ 64 := by
      intro c _ a b ha hb; split <;> assumption
    match ws, h2 with
    | [], _ => exact key _ _ _ hy (by decide)
    | [a], h2 => exact key _ _ _ (key _ _ _ hy (by decide)) (show a < 2 ^ 64 by have := h2 a (by simp); omega)
    | [a, b], h2 =>
      have ha := h2 a (by simp)
      have hb := h2 b (by simp)
      refine key _ _ _ ?_ (key _ _ _ (key _ _ _ (by decide) (show a < 2 ^ 64 by omega)) (by decide))
      exact key _ _ _ (show a + b < 2 ^ 64 by omega) (by decide)
    | [a, b, c], h2 => exact key _ _ _ (show b < 2 ^ 64 by have := h2 b (by simp); omega) (by decide)
    | _ :: _ :: _ :: _ :: _, _ => exact (by decide : (0 : Nat) < 2 ^ 64)
  · obtain ⟨a, ha, hb⟩ : ∃ a ∈ ws, ¬ a ≤ 64 := by simpa using h2
    rw [wd_big h1 ha hb]; decide
theorem atO_w {t : Tm} {w : Nat} (h : t.w < 2 ^ 64) (hw : w < 2 ^ 64) : (atO t w).w < 2 ^ 64 := by
  obtain ⟨op, wd, v, nq, np, p, X⟩ := t
  unfold atO
  rw [atP]
  split
  · show (if wd = 0 then w else wd) < 2 ^ 64
    split
    · exact hw
    · exact h
  · split
    · decide
    · exact wdP_lt h
theorem wds_map (l : List Tm) : wdsA (l.map tmA) = l.map fun t => i64 t.w := by
  unfold wdsA
  rw [List.map_map]
  refine List.map_congr_left fun t _ => ?_
  simp only [Function.comp]
  cases t
  rw [tmA_mk]; rfl
theorem wdW_map (op w v : Nat) (l : List Tm) : wdW op w v (l.map fun t => i64 t.w) = (wdP op w v (l.map Tm.w)).1 := by
  unfold wdW
  rw [List.map_map]; rfl
theorem wdX_map (op w v : Nat) (l : List Tm) : wdX op w v (l.map fun t => i64 t.w) = (wdP op w v (l.map Tm.w)).2 := by
  unfold wdX
  rw [List.map_map]; rfl
theorem lz (n : Nat) : bi (nbeq n 0) 0 1 = if n = 0 then 0 else 1 := by
  rw [nbeq_dec, bi_if]; simp
theorem eqA_s (t p q r s : Nat) : eqA 1000 ⟨t, p, q, r, s, []⟩ ⟨t, p, q, r, s, []⟩ = true := eqA_agg 999 _ _ _ _ _ _ fun c hc => by cases hc
theorem eqA_i (n : Nat) : eqA 1000 (i64 n) (i64 n) = true := eqA_s _ _ _ _ _
theorem eqA_u (n : Nat) : eqA 1000 (u64 n) (u64 n) = true := eqA_s _ _ _ _ _
theorem pure49 : ∀ (d : Nat) (t : Tm), t.Sm d → d ≤ 400 → t.ok → ∀ w, w < 2 ^ 64 → PureAt Tryz.prog 49 [tmA t, i64 w] (tupV [tmA (atO t w), bV (atB t w)]) := by
  intro d
  induction d with
  | zero => intro t h; cases h
  | succ d ih =>
  intro t ht hd hok w hw
  obtain ⟨op, wd, v, nq, np, p, X⟩ := t
  obtain ⟨hX, hs⟩ : X.length ≤ 1000 ∧ ∀ t ∈ X, t.Sm d := by cases ht with | mk h1 h2 => exact ⟨h1, h2⟩
  obtain ⟨⟨hop, hwd, hv, _⟩, hoks⟩ : Tm.Q0 op wd v nq np p X ∧ ∀ t ∈ X, t.ok := by cases hok with | mk h1 h2 => exact ⟨h1, h2⟩
  by_cases h0 : X.length = 0
  · have h0' : X = [] := List.length_eq_zero_iff.1 h0
    subst h0'
    have q := okN_one.2 (pure41 w v hw)
    have e : tupV [tmA (atO (Tm.mk op wd v nq np p []) w), bV (atB (Tm.mk op wd v nq np p []) w)] = tupV [tmA (.mk op (if wd = 0 then w else wd) (if wd = 0 ∧ op = 2 then cutN w v else v) nq np 0 []), bV true] := by
      unfold atO atB
      rw [atP]; rfl
    rw [e, tmA_mk, tmA_mk]
    refine pure_fn mixed globs fn49 body49 nt49 rs49 RG_ok lab49 [26, 4] 0 ((s49 _ op wd v nq np p w _).trans ?_)
    simp only [List.map_nil, show lenL [] = 0 from rfl, bl_bi, n00, bi_tt, mk_i64, mk_u64, q, n11]
    rw [nbeq_dec, nbeq_dec]
    by_cases h1 : wd = 0
    · by_cases h2 : op = 2
      · rw [decide_eq_true h1, decide_eq_true h2, if_pos h1, if_pos ⟨h1, h2⟩]; rfl
      · rw [decide_eq_true h1, decide_eq_false h2, if_pos h1, if_neg fun h => h2 h.2]; rfl
    · rw [decide_eq_false h1, if_neg h1, if_neg fun h => h1 h.1]; rfl
  have h := walkE (fun t => t.w < 2 ^ 64) X (fun x => atB x w) (fun x => atO x w) (fun _ => ansY (tupV [tmA zeroT, bV false])) (fun p' acc => ansY (tupV [aggV [i64 op, i64 (wdP op wd v (acc.map Tm.w)).1, u64 v, stA nq np, slP (bi (nbeq p' 0) 0 1) 5 (acc.map tmA)], bV (nbeq (wdP op wd v (acc.map Tm.w)).2 0)]))
    (fun k i p' acc => jmpN Tryz.prog 81 lab49 (baseH Tryz.prog) RG (finY Tryz.prog [.cell 4 26, .tmp 5] [26, 4]) (bodyC Tryz.f49) k [0,0,1,0,1,1,1] [i64 w, bxD [i64 op, i64 wd, u64 v, stA nq np, slP p 5 (X.map tmA)], bxD [i64 0, i64 0, u64 0, stA 0 0, mk1 17 1], bxD [i64 op, i64 wd, u64 v, stA nq np, lsD p' (acc.map tmA)], slP p 5 (X.map tmA), i64 (lenL (X.map tmA)), i64 i]) hX ?_ ?_ ?_ X.length 0 0 [] (by omega) rfl (fun t ht => by cases ht)
  · rw [List.drop_zero, resE_at w _ _ (ansY (tupV [tmA zeroT, bV false])) (fun _ _ => rfl)] at h
    have h2 := h.trans (show _ = ansY (tupV [tmA (atO (Tm.mk op wd v nq np p X) w), bV (atB (Tm.mk op wd v nq np p X) w)]) by
      unfold atO atB
      rw [atP]
      simp only [if_neg h0]
      cases atPs w X with
      | none => rfl
      | some bs =>
        simp only [List.nil_append]
        rw [tmA_mk]
        simp only [nbeq_dec]
        rfl)
    rw [tmA_mk]
    refine pure_fn mixed globs fn49 body49 nt49 rs49 RG_ok lab49 [26, 4] (X.length + 1) ((s49 _ op wd v nq np p w _).trans ?_)
    rw [show nbeq (lenL (X.map tmA)) 0 = false from (by rw [lenL_map]; exact beq_false.2 h0), bl_bi, bi_ff]
    exact h2
  · exact fun x hx => atO_w (by cases hoks x hx with | mk h1 _ => exact h1.2.1) hw
  · intro k p' acc ha hg
    have hx : X.length < 2 ^ 63 := by omega
    have q1 := okN_one.2 (pure98 (bi (nbeq p' 0) 0 1) acc ha)
    have q2 := okN_one.2 (pure83 (lp := if acc.length = 0 then 0 else 1) (ws := acc.map Tm.w) hop hwd hv (fun a h => by obtain ⟨t, h1, rfl⟩ := List.mem_map.1 h; exact hg t h1))
    rw [List.map_map, show (i64 ∘ Tm.w) = fun t : Tm => i64 t.w from rfl] at q2
    simp only [wv, tupV, mk_ls] at q2
    show jmpN _ _ _ _ _ _ _ (k + 1) _ _ = _
    rw [jmpN_succ, l49]
    simp only [takeN_self, takeN_snoc]
    simp only [bl_bi, n11, n01, n10, n00, lenL_map, nth1, cells_tm, n5_0, n5_1, n5_2, n5_3, n5_4, tg_i, tg_u, tg_s, tg_l, i64_p, u64_p, stA_p, stA_q, slP_p, slP_cs, mk_i64, mk_u64, mk_stA, mk_slP, mk_agg, mk_bx, mk_ls, mk_tm, unTm_A, bi_tt, bi_ff, biased_le hx hx, Nat.le_refl, decide_true, nb_t, wds_map, wdW_map, wdX_map, lz acc.length, eqA_i, eqA_u]
    simp only [q1, q2, n11, bi_tt, eqA_i, eqA_u]
    rfl
  · intro k i p' acc hlt ha
    have hx : X.length < 2 ^ 63 := by omega
    have hi63 : i < 2 ^ 63 := by omega
    have q := okN_one.2 (ih X[i] (hs _ (List.getElem_mem hlt)) (by omega) (hoks _ (List.getElem_mem hlt)) w hw)
    simp only [tupV, bV, mk1, mk_ls] at q
    show jmpN _ _ _ _ _ _ _ (k + 1) _ _ = _
    rw [jmpN_succ, l49]
    simp only [takeN_self, takeN_snoc]
    simp only [bl_bi, n11, n01, n10, n00, lenL_map, nth1, cells_tm, n5_0, n5_1, n5_2, n5_3, n5_4, tg_i, tg_u, tg_s, tg_l, i64_p, u64_p, stA_p, stA_q, slP_p, slP_cs, mk_i64, mk_u64, mk_stA, mk_slP, mk_agg, mk_bx, mk_ls, mk_tm, unTm_A, bi_tt, bi_ff, biased_le hx hi63, show ¬ X.length ≤ i by omega, decide_false, nb_f, nble_t (show i.succ ≤ X.length from hlt), nthL_map tmA X i hlt, succ_mod hi63, q, bS]
    cases hb : atB X[i] w
    · simp only [bi_ff]
      rw [← tm_zero]; rfl
    · simp only [bi_tt]
      rw [ha, ble_100k (by omega), bi_tt, List.map_append]
      rfl
theorem pure50 : ∀ (d : Nat) (t : Tm), t.Sm d → d ≤ 400 → t.ok → ∀ w, w < 2 ^ 64 → PureAt Tryz.prog 50 [tmA t, i64 w] (tupV [tmA (atRO t w), i64 (atRE t w)]) := by
  intro d
  induction d with
  | zero => intro t h; cases h
  | succ d ih =>
  intro t ht hd hok w hw
  obtain ⟨op, wd, v, nq, np, p, X⟩ := t
  obtain ⟨hX, hs⟩ : X.length ≤ 1000 ∧ ∀ t ∈ X, t.Sm d := by cases ht with | mk h1 h2 => exact ⟨h1, h2⟩
  obtain ⟨⟨hop, hwd, hv, _⟩, hoks⟩ : Tm.Q0 op wd v nq np p X ∧ ∀ t ∈ X, t.ok := by cases hok with | mk h1 h2 => exact ⟨h1, h2⟩
  by_cases h0 : X.length = 0
  · have h0' : X = [] := List.length_eq_zero_iff.1 h0
    subst h0'
    have q := okN_one.2 (pure99 w v hw hv)
    have e : tupV [tmA (atRO (Tm.mk op wd v nq np p []) w), i64 (atRE (Tm.mk op wd v nq np p []) w)] = tupV [tmA (.mk op (if wd = 0 then w else wd) (if wd = 0 ∧ op = 2 then cutN w v else v) nq np 0 []), i64 0] := by
      unfold atRO atRE atO atB
      rw [atP]; simp
    rw [e, tmA_mk, tmA_mk]
    refine pure_fn mixed globs fn50 body50 nt50 rs50 RG_ok lab50 [26, 31] 0 ((s50 _ op wd v nq np p w _).trans ?_)
    simp only [List.map_nil, show lenL [] = 0 from rfl, bl_bi, n00, bi_tt, mk_i64, mk_u64, q, n11]
    rw [nbeq_dec, nbeq_dec]
    by_cases h1 : wd = 0
    · by_cases h2 : op = 2
      · rw [decide_eq_true h1, decide_eq_true h2, if_pos h1, if_pos ⟨h1, h2⟩]; rfl
      · rw [decide_eq_true h1, decide_eq_false h2, if_pos h1, if_neg fun h => h2 h.2]; rfl
    · rw [decide_eq_false h1, if_neg h1, if_neg fun h => h1 h.1]; rfl
  have h := walkE (fun t => t.w < 2 ^ 64) X (fun x => atB x w) (fun x => atO x w) (fun x => ansY (tupV [tmA zeroT, i64 (atRE x w)])) (fun p' acc => bi (nbeq (wdP op wd v (acc.map Tm.w)).2 0) (ansY (tupV [aggV [i64 op, i64 (wdP op wd v (acc.map Tm.w)).1, u64 v, stA nq np, slP (bi (nbeq p' 0) 0 1) 5 (acc.map tmA)], i64 0])) (ansY (tupV [tmA zeroT, i64 3])))
    (fun k i p' acc => jmpN Tryz.prog 77 lab50 (baseH Tryz.prog) RG (finY Tryz.prog [.cell 4 26, .tmp 5] [26, 31]) (bodyC Tryz.f50) k [0,0,1,0,1,1,1,1] [i64 w, bxD [i64 op, i64 wd, u64 v, stA nq np, slP p 5 (X.map tmA)], bxD [i64 0, i64 0, u64 0, stA 0 0, mk1 17 1], bxD [i64 op, i64 wd, u64 v, stA nq np, lsD p' (acc.map tmA)], i64 i]) hX ?_ ?_ ?_ X.length 0 0 [] (by omega) rfl (fun t ht => by cases ht)
  · rw [List.drop_zero, resE_at w _ _ (ansY (tupV [tmA zeroT, i64 3])) (fun x hx => by simp only [atRE, hx]; rfl)] at h
    have h2 := h.trans (show _ = ansY (tupV [tmA (atRO (Tm.mk op wd v nq np p X) w), i64 (atRE (Tm.mk op wd v nq np p X) w)]) by
      unfold atRO atRE atO atB
      rw [atP]
      simp only [if_neg h0]
      cases atPs w X with
      | none => rfl
      | some bs =>
        simp only [List.nil_append]
        simp only [nbeq_dec]
        by_cases hz : (wdP op wd v (bs.map Tm.w)).2 = 0
        · simp only [decide_eq_true hz, bi_tt, if_true]; rw [tmA_mk]; rfl
        · simp only [decide_eq_false hz, bi_ff, Bool.false_eq_true, if_false])
    rw [tmA_mk]
    refine pure_fn mixed globs fn50 body50 nt50 rs50 RG_ok lab50 [26, 31] (X.length + 1) ((s50 _ op wd v nq np p w _).trans ?_)
    rw [show nbeq (lenL (X.map tmA)) 0 = false from (by rw [lenL_map]; exact beq_false.2 h0), bl_bi, bi_ff]
    exact h2
  · exact fun x hx => atO_w (by cases hoks x hx with | mk h1 _ => exact h1.2.1) hw
  · intro k p' acc ha hg
    have hx : X.length < 2 ^ 63 := by omega
    have q1 := okN_one.2 (pure101 (.mk op wd v nq np (bi (nbeq p' 0) 0 1) acc) ha)
    have q2 := okN_one.2 (pure100 (lp := 1) (ws := acc.map Tm.w) hop hwd hv (fun a h => by obtain ⟨t, h1, rfl⟩ := List.mem_map.1 h; exact hg t h1))
    rw [tmA_mk] at q1
    simp only [Tm.as, tmV] at q1
    rw [List.map_map, show (i64 ∘ Tm.w) = fun t : Tm => i64 t.w from rfl] at q2
    simp only [wv, tupV, mk_ls] at q2
    show jmpN _ _ _ _ _ _ _ (k + 1) _ _ = _
    rw [jmpN_succ, l50]
    simp only [takeN_self, takeN_snoc]
    simp only [bl_bi, n11, n01, n10, n00, lenL_map, nth1, cells_tm, n5_0, n5_1, n5_2, n5_3, n5_4, tg_i, tg_u, tg_s, tg_l, i64_p, u64_p, stA_p, stA_q, slP_p, slP_cs, mk_i64, mk_u64, mk_stA, mk_slP, mk_agg, mk_bx, mk_ls, mk_tm, unTm_A, bi_tt, bi_ff, biased_le hx hx, Nat.le_refl, decide_true, nb_t, wds_map, wdW_map, wdX_map, lz acc.length, eqA_i, eqA_u]
    simp only [q1, q2, n11, bi_tt, eqA_i, eqA_u]
    rw [nbeq_dec]
    cases decide ((wdP op wd v (acc.map Tm.w)).2 = 0)
    · rw [← tm_zero]; rfl
    · rfl
  · intro k i p' acc hlt ha
    have hx : X.length < 2 ^ 63 := by omega
    have hi63 : i < 2 ^ 63 := by omega
    have q := okN_one.2 (ih X[i] (hs _ (List.getElem_mem hlt)) (by omega) (hoks _ (List.getElem_mem hlt)) w hw)
    simp only [tupV, bV, mk1, mk_ls] at q
    show jmpN _ _ _ _ _ _ _ (k + 1) _ _ = _
    rw [jmpN_succ, l50]
    simp only [takeN_self, takeN_snoc]
    simp only [bl_bi, n11, n01, n10, n00, lenL_map, nth1, cells_tm, n5_0, n5_1, n5_2, n5_3, n5_4, tg_i, tg_u, tg_s, tg_l, i64_p, u64_p, stA_p, stA_q, slP_p, slP_cs, mk_i64, mk_u64, mk_stA, mk_slP, mk_agg, mk_bx, mk_ls, mk_tm, unTm_A, bi_tt, bi_ff, biased_le hx hi63, show ¬ X.length ≤ i by omega, decide_false, nb_f, nble_t (show i.succ ≤ X.length from hlt), nthL_map tmA X i hlt, succ_mod hi63, q, bS]
    cases hb : atB X[i] w
    · simp only [bi_ff]
      rw [← tm_zero, show atRE X[i] w = 3 from by unfold atRE; rw [hb]; rfl]; rfl
    · simp only [bi_tt]
      rw [show atRE X[i] w = 0 from by unfold atRE; rw [hb]; rfl, show atRO X[i] w = atO X[i] w from by unfold atRO; rw [hb]; rfl, n00, nb_t, bi_ff]
      rw [ha, ble_100k (by omega), bi_tt, List.map_append]
      rfl
end Go.Eng
