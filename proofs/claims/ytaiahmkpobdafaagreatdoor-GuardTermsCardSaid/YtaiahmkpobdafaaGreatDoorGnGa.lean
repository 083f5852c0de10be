/- A part of the proof that the evaluator in GnC, and the driver in GnZ, answer as the model does; no conditions. -/
import Derived.Test.YtaiahmkpobdafaaGreatDoorGnTs
import Derived.Test.YtaiahmkpobdafaaGreatDoorProg
import Derived.ProofKit
import Derived.Test.YtaiahmkpobdafaaGreatDoorGnV
namespace Go.Eng
open Go.RowKit Go.Proofs
theorem noGor : NoGor Tryz.prog := by
  have h : (Tryz.prog.funcs.all fun fn => !(fn.name == "runtime.NumGoroutine")) = true := by kernel_rfl
  intro f fn hf
  have := Array.all_eq_true_iff_forall_mem.1 h fn (Array.mem_of_getElem? hf)
  simpa using this
theorem mixed : Tryz.prog.follows .mixedOrders = true := by kernel_rfl
theorem globs : Tryz.prog.globals.size ≤ 32767 := of_decide_eq_true (by kernel_rfl)
noncomputable section
def R0 : Rec := evN Tryz.prog (ntL []) (fun _ => false) 3
def labIs : Lab := labT [([0,0,1,0,1], [(0,0),(1,0),(7,0),(8,0)])]
def lab98 : Lab := labT [([0,0,1,0,1,1], [(3,2),(6,0),(7,0),(8,0)])]
def lab101 : Lab := labT [([0,0,1,0,1,1], [(1,100),(3,2),(4,0)])]
end
theorem R0_ok : RecOk Tryz.prog R0 := evN_ok mixed ntL_nil noGor 3
end Go.Eng
namespace Go.Eng
open Go.RowKit Go.Proofs
theorem s130 (J : Jmp) (x : Nat) : (compY Tryz.prog 6 (fun _ => none) (finY Tryz.prog [.tmp 2] [3]) J [] (bodyC Tryz.f130) (finY Tryz.prog [.tmp 2] [3]) []).run R0 (setArgs 0 [i64 x] noFr) (baseH Tryz.prog) =
  (ansY { tag := 3, p := bi (nble (biased 3 (bi (nble (biased 3 x) 9223372036854775809) 1 x)) 9223372036854775872) (bi (nble (biased 3 x) 9223372036854775809) 1 x) 64, q := 0, r := 0, s := 0, cs := [] }) := by kernel_rfl
theorem s152 (J : Jmp) (x : Nat) : (compY Tryz.prog 6 (fun _ => none) (finY Tryz.prog [.tmp 2] [3]) J [] (bodyC Tryz.f152) (finY Tryz.prog [.tmp 2] [3]) []).run R0 (setArgs 0 [i64 x] noFr) (baseH Tryz.prog) =
  (ansY { tag := 3, p := bi (nble (biased 3 (bi (nble (biased 3 x) 9223372036854775809) 1 x)) 9223372036854775872) (bi (nble (biased 3 x) 9223372036854775809) 1 x) 64, q := 0, r := 0, s := 0, cs := [] }) := by kernel_rfl
theorem s131 (J : Jmp) (x : Nat) : (compY Tryz.prog 9 (fun _ => none) (finY Tryz.prog [.tmp 2] [4]) J [] (bodyC Tryz.f131) (finY Tryz.prog [.tmp 2] [4]) []).run R0 (setArgs 0 [i64 x] noFr) (baseH Tryz.prog) =
  (bi (nbeq (bi (nble 9223372036854775809 (biased 3 x)) 1 0) 1)
    (ansY { tag := 8, p := bi (nble (biased 3 x) 9223372036854775834) 1 0, q := 0, r := 0, s := 0, cs := [] })
    (ansY { tag := 8, p := 0, q := 0, r := 0, s := 0, cs := [] })) := by kernel_rfl
theorem s132 (J : Jmp) (x : Nat) : (compY Tryz.prog 9 (fun _ => none) (finY Tryz.prog [.tmp 2] [4]) J [] (bodyC Tryz.f132) (finY Tryz.prog [.tmp 2] [4]) []).run R0 (setArgs 0 [i64 x] noFr) (baseH Tryz.prog) =
  (bi (nbeq (bi (nble 9223372036854775808 (biased 3 x)) 1 0) 1)
    (ansY { tag := 8, p := bi (nble (biased 3 x) 9223372036854775872) 1 0, q := 0, r := 0, s := 0, cs := [] })
    (ansY { tag := 8, p := 0, q := 0, r := 0, s := 0, cs := [] })) := by kernel_rfl
theorem s154 (J : Jmp) (x : Nat) : (compY Tryz.prog 9 (fun _ => none) (finY Tryz.prog [.tmp 2] [4]) J [] (bodyC Tryz.f154) (finY Tryz.prog [.tmp 2] [4]) []).run R0 (setArgs 0 [i64 x] noFr) (baseH Tryz.prog) =
  (bi (nbeq (bi (nble 9223372036854775808 (biased 3 x)) 1 0) 1)
    (ansY { tag := 8, p := bi (nble (biased 3 x) 9223372036854775872) 1 0, q := 0, r := 0, s := 0, cs := [] })
    (ansY { tag := 8, p := 0, q := 0, r := 0, s := 0, cs := [] })) := by kernel_rfl
theorem s135 (J : Jmp) (x : Nat) (b : Bool) : (compY Tryz.prog 9 (fun _ => none) (finY Tryz.prog [.tmp 4, .tmp 5] [3, 31]) J [] (bodyC Tryz.f135) (finY Tryz.prog [.tmp 4, .tmp 5] [3, 31]) []).run R0 (setArgs 0 [bV b, i64 x] noFr) (baseH Tryz.prog) =
  (bi (nbeq (Nat.sub 1 (bi b 1 0)) 1)
    (ansY { tag := 16, p := 0, q := 0, r := 0, s := 0, cs := [{ tag := 3, p := 0, q := 0, r := 0, s := 0, cs := [] }, { tag := 3, p := 3, q := 0, r := 0, s := 0, cs := [] }] })
    (ansY { tag := 16, p := 0, q := 0, r := 0, s := 0, cs := [{ tag := 3, p := x, q := 0, r := 0, s := 0, cs := [] }, { tag := 3, p := 0, q := 0, r := 0, s := 0, cs := [] }] })) := by kernel_rfl
theorem s153 (J : Jmp) (x y : Nat) : (compY Tryz.prog 16 (fun _ => none) (finY Tryz.prog [.tmp 4] [23]) J [] (bodyC Tryz.f153) (finY Tryz.prog [.tmp 4] [23]) []).run R0 (setArgs 0 [u64 x, i64 y] noFr) (baseH Tryz.prog) =
  (bi (nbeq (bi (nb (nble 9223372036854775808 (biased 3 y))) 1 0) 0)
    (bi (nbeq (bi (nb (nble (biased 3 y) 9223372036854775871)) 1 0) 1)
      (ansY { tag := 7, p := 0, q := 0, r := 0, s := 0, cs := [] })
      (bi (nble 18446744073709551616 (cnvN 3 7 y))
        (failR 9)
        (ansY { tag := 7, p := gt2 (fun a b => a.land b) (shrN 7 x (cnvN 3 7 y)) 1, q := 0, r := 0, s := 0, cs := [] })))
    (ansY { tag := 7, p := 0, q := 0, r := 0, s := 0, cs := [] })) := by kernel_rfl
theorem s158 (J : Jmp) (x lp : Nat) (ll : List AV) : (compY Tryz.prog 18 labIs (finY Tryz.prog [.tmp 4] [4]) J [] (bodyC Tryz.f158) (finY Tryz.prog [.tmp 4] [4]) []).run R0 (setArgs 0 [i64 x, slP lp 1 ll] noFr) (baseH Tryz.prog) =
  (J [0, 0, 1, 0, 1] [{ tag := 3, p := x, q := 0, r := 0, s := 0, cs := [] }, { tag := 24, p := lp, q := 0, r := 1, s := 0, cs := ll }, { tag := 3, p := lenL ll, q := 0, r := 0, s := 0, cs := [] }, { tag := 3, p := 0, q := 0, r := 0, s := 0, cs := [] }]) := by kernel_rfl
theorem l158 (J : Jmp) (x lp n i : Nat) (ll : List AV) : lblY Tryz.prog 18 labIs (baseH Tryz.prog) R0 (finY Tryz.prog [.tmp 4] [4]) (bodyC Tryz.f158) J [0,0,1,0,1] [i64 x, slP lp 1 ll, i64 n, i64 i] =
  (bi (nbeq (bi (nb (nble (biased 3 n) (biased 3 i))) 1 0) 1)
    (bi (nble i.succ (lenL ll))
      (bi (bi (tagIs 3 (nthL (bi (nbeq (nthL [nthL ll i] 0).1 15) (nthL [nthL ll i] 0).6 [nthL [nthL ll i] 0]) 0)) true false)
        (bi (nbeq (bi (nbeq (nthL (bi (nbeq (nthL [nthL ll i] 0).1 15) (nthL [nthL ll i] 0).6 [nthL [nthL ll i] 0]) 0).2 x) 1 0) 1)
          (ansY { tag := 8, p := 1, q := 0, r := 0, s := 0, cs := [] })
          (J [0, 0, 1, 0, 1] [{ tag := 3, p := x, q := 0, r := 0, s := 0, cs := [] }, { tag := 24, p := lp, q := 0, r := 1, s := 0, cs := ll }, { tag := 3, p := n, q := 0, r := 0, s := 0, cs := [] }, { tag := 3, p := gt2 (fun a b => (a.add b).mod (kMod (kCode IntKind.i64))) i 1, q := 0, r := 0, s := 0, cs := [] }]))
        (failR 201))
      (failR 205))
    (ansY { tag := 8, p := 0, q := 0, r := 0, s := 0, cs := [] })) := by kernel_rfl
theorem s106 (J : Jmp) (x : Nat) : (compY Tryz.prog 42 (fun _ => none) (finY Tryz.prog [.tmp 2] [3]) J [] (bodyC Tryz.f106) (finY Tryz.prog [.tmp 2] [3]) []).run R0 (setArgs 0 [i64 x] noFr) (baseH Tryz.prog) =
  (bi (nbeq (bi (nbeq x 19) 1 0) 1)
    (ansY { tag := 3, p := 3, q := 0, r := 0, s := 0, cs := [] })
    (bi (nbeq (bi (nbeq x 5) 1 0) 1)
      (ansY { tag := 3, p := 2, q := 0, r := 0, s := 0, cs := [] })
      (bi (nbeq (bi (nbeq x 6) 1 0) 1)
        (ansY { tag := 3, p := 2, q := 0, r := 0, s := 0, cs := [] })
        (bi (nbeq (bi (nbeq x 7) 1 0) 1)
          (ansY { tag := 3, p := 2, q := 0, r := 0, s := 0, cs := [] })
          (bi (nbeq (bi (nbeq x 8) 1 0) 1)
            (ansY { tag := 3, p := 2, q := 0, r := 0, s := 0, cs := [] })
            (bi (nbeq (bi (nbeq x 9) 1 0) 1)
              (ansY { tag := 3, p := 2, q := 0, r := 0, s := 0, cs := [] })
              (bi (nbeq (bi (nbeq x 10) 1 0) 1)
                (ansY { tag := 3, p := 2, q := 0, r := 0, s := 0, cs := [] })
                (bi (nbeq (bi (nbeq x 11) 1 0) 1)
                  (ansY { tag := 3, p := 2, q := 0, r := 0, s := 0, cs := [] })
                  (bi (nbeq (bi (nbeq x 12) 1 0) 1)
                    (ansY { tag := 3, p := 2, q := 0, r := 0, s := 0, cs := [] })
                    (bi (nbeq (bi (nbeq x 13) 1 0) 1)
                      (ansY { tag := 3, p := 2, q := 0, r := 0, s := 0, cs := [] })
                      (bi (nbeq (bi (nbeq x 14) 1 0) 1)
                        (ansY { tag := 3, p := 2, q := 0, r := 0, s := 0, cs := [] })
                        (bi (nbeq (bi (nbeq x 15) 1 0) 1)
                          (ansY { tag := 3, p := 2, q := 0, r := 0, s := 0, cs := [] })
                          (bi (nbeq (bi (nbeq x 16) 1 0) 1)
                            (ansY { tag := 3, p := 2, q := 0, r := 0, s := 0, cs := [] })
                            (bi (nbeq (bi (nbeq x 17) 1 0) 1)
                              (ansY { tag := 3, p := 2, q := 0, r := 0, s := 0, cs := [] })
                              (bi (nbeq (bi (nbeq x 18) 1 0) 1)
                                (ansY { tag := 3, p := 2, q := 0, r := 0, s := 0, cs := [] })
                                (bi (nbeq (bi (nbeq x 20) 1 0) 1)
                                  (ansY { tag := 3, p := 2, q := 0, r := 0, s := 0, cs := [] })
                                  (bi (nbeq (bi (nbeq x 3) 1 0) 1)
                                    (ansY { tag := 3, p := 1, q := 0, r := 0, s := 0, cs := [] })
                                    (bi (nbeq (bi (nbeq x 4) 1 0) 1)
                                      (ansY { tag := 3, p := 1, q := 0, r := 0, s := 0, cs := [] })
                                      (bi (nbeq (bi (nbeq x 21) 1 0) 1)
                                        (ansY { tag := 3, p := 1, q := 0, r := 0, s := 0, cs := [] })
                                        (bi (nbeq (bi (nbeq x 22) 1 0) 1)
                                          (ansY { tag := 3, p := 1, q := 0, r := 0, s := 0, cs := [] })
                                          (bi (nbeq (bi (nbeq x 23) 1 0) 1)
                                            (ansY { tag := 3, p := 1, q := 0, r := 0, s := 0, cs := [] })
                                            (bi (nbeq (bi (nbeq x 26) 1 0) 1)
                                              (ansY { tag := 3, p := 1, q := 0, r := 0, s := 0, cs := [] })
                                              (bi (nbeq (bi (nbeq x 1) 1 0) 1)
                                                (ansY { tag := 3, p := 0, q := 0, r := 0, s := 0, cs := [] })
                                                (bi (nbeq (bi (nbeq x 2) 1 0) 1)
                                                  (ansY { tag := 3, p := 0, q := 0, r := 0, s := 0, cs := [] })
                                                  (bi (nbeq (bi (nbeq x 24) 1 0) 1)
                                                    (ansY { tag := 3, p := 0, q := 0, r := 0, s := 0, cs := [] })
                                                    (bi (nbeq (bi (nbeq x 25) 1 0) 1)
                                                      (ansY { tag := 3, p := 0, q := 0, r := 0, s := 0, cs := [] })
                                                      (ansY { tag := 3, p := 18446744073709551615, q := 0, r := 0, s := 0, cs := [] }))))))))))))))))))))))))))) := by kernel_rfl
theorem s98 (J : Jmp) (lp : Nat) (ll : List AV) : (compY Tryz.prog 19 lab98 (finY Tryz.prog [.tmp 2] [40]) J [] (bodyC Tryz.f98) (finY Tryz.prog [.tmp 2] [40]) []).run R0 (setArgs 0 [slP lp 5 ll] noFr) (baseH Tryz.prog) =
  (J [0, 0, 1, 0, 1, 1] [{ tag := 16, p := 0, q := 0, r := 0, s := 0, cs := [] }, { tag := 24, p := lp, q := 0, r := 5, s := 0, cs := ll }, { tag := 3, p := lenL ll, q := 0, r := 0, s := 0, cs := [] }, { tag := 3, p := 0, q := 0, r := 0, s := 0, cs := [] }]) := by kernel_rfl
theorem l98 (J : Jmp) (op lp n i : Nat) (ol ll : List AV) : lblY Tryz.prog 19 lab98 (baseH Tryz.prog) R0 (finY Tryz.prog [.tmp 2] [40]) (bodyC Tryz.f98) J [0,0,1,0,1,1] [lsD op ol, slP lp 5 ll, i64 n, i64 i] =
  (bi (nbeq (bi (nb (nble (biased 3 n) (biased 3 i))) 1 0) 1)
    (bi (nble i.succ (lenL ll))
      (bi (bi (tagIs 3 (nthL (bi (nbeq (nthL [nthL ll i] 0).1 15) (nthL [nthL ll i] 0).6 [nthL [nthL ll i] 0]) 0)) (bi (tagIs 3 (nthL (bi (nbeq (nthL [nthL ll i] 0).1 15) (nthL [nthL ll i] 0).6 [nthL [nthL ll i] 0]) (Nat.succ 0))) (bi (tagIs 7 (nthL (bi (nbeq (nthL [nthL ll i] 0).1 15) (nthL [nthL ll i] 0).6 [nthL [nthL ll i] 0]) (Nat.succ 0).succ)) (bi (tagIs 9 (nthL (bi (nbeq (nthL [nthL ll i] 0).1 15) (nthL [nthL ll i] 0).6 [nthL [nthL ll i] 0]) (Nat.succ 0).succ.succ)) (bi (tagIs 37 (nthL (bi (nbeq (nthL [nthL ll i] 0).1 15) (nthL [nthL ll i] 0).6 [nthL [nthL ll i] 0]) (Nat.succ 0).succ.succ.succ)) true false) false) false) false) false)
        (bi (nble ((lenL (takeN (lenL ol) ol)).add 1) 100000)
          (J [0, 0, 1, 0, 1, 1] [{ tag := 16, p := 1, q := 0, r := 0, s := 0, cs := takeN ((lenL (takeN (lenL ol) ol)).add 1) (appL (takeN (lenL ol) ol) [{ tag := 3, p := (nthL (bi (nbeq (nthL [nthL ll i] 0).1 15) (nthL [nthL ll i] 0).6 [nthL [nthL ll i] 0]) (Nat.succ 0)).2, q := 0, r := 0, s := 0, cs := [] }]) }, { tag := 24, p := lp, q := 0, r := 5, s := 0, cs := ll }, { tag := 3, p := n, q := 0, r := 0, s := 0, cs := [] }, { tag := 3, p := gt2 (fun a b => (a.add b).mod (kMod (kCode IntKind.i64))) i 1, q := 0, r := 0, s := 0, cs := [] }])
          (failR 211))
        (failR 201))
      (failR 205))
    (ansY { tag := 24, p := bi (nbeq op 0) 0 1, q := 0, r := 1, s := 0, cs := takeN (lenL ol) ol })) := by kernel_rfl
theorem s101 (J : Jmp) (to tw tv tq tn tp : Nat) (tl : List AV) : (compY Tryz.prog 23 lab101 (finY Tryz.prog [.tmp 2] [40]) J [] (bodyC Tryz.f101) (finY Tryz.prog [.tmp 2] [40]) []).run R0 (setArgs 0 [tmV to tw tv tq tn tp tl] noFr) (baseH Tryz.prog) =
  (J [0, 0, 1, 0, 1, 1] [{ tag := 16, p := 0, q := 0, r := 1, s := 0, cs := [{ tag := 3, p := to, q := 0, r := 0, s := 0, cs := [] }, { tag := 3, p := tw, q := 0, r := 0, s := 0, cs := [] }, { tag := 7, p := tv, q := 0, r := 0, s := 0, cs := [] }, { tag := 9, p := tn, q := tq, r := 0, s := 0, cs := [] }, { tag := 24, p := tp, q := 0, r := 5, s := 0, cs := tl }] }, { tag := 16, p := 2, q := 0, r := 0, s := 0, cs := [] }, { tag := 3, p := 0, q := 0, r := 0, s := 0, cs := [] }]) := by kernel_rfl
theorem l101 (J : Jmp) (to tw tv tq tn tp op i : Nat) (tl ol : List AV) : lblY Tryz.prog 23 lab101 (baseH Tryz.prog) R0 (finY Tryz.prog [.tmp 2] [40]) (bodyC Tryz.f101) J [0,0,1,0,1,1] [bxD [i64 to, i64 tw, u64 tv, stA tq tn, slP tp 5 tl], lsD op ol, i64 i] =
  (bi (nbeq (bi (nb (nble (biased 3 (lenL tl)) (biased 3 i))) 1 0) 1)
    (bi (nble i.succ (lenL tl))
      (bi (bi (tagIs 3 (nthL (bi (nbeq (nthL [nthL [nthL tl i] 0] 0).1 15) (nthL [nthL [nthL tl i] 0] 0).6 [nthL [nthL [nthL tl i] 0] 0]) 1)) true false)
        (bi (nble ((lenL (takeN (lenL ol) ol)).add 1) 100000)
          (J [0, 0, 1, 0, 1, 1] [{ tag := 16, p := 0, q := 0, r := 1, s := 0, cs := [{ tag := 3, p := to, q := 0, r := 0, s := 0, cs := [] }, { tag := 3, p := tw, q := 0, r := 0, s := 0, cs := [] }, { tag := 7, p := tv, q := 0, r := 0, s := 0, cs := [] }, { tag := 9, p := tn, q := tq, r := 0, s := 0, cs := [] }, { tag := 24, p := tp, q := 0, r := 5, s := 0, cs := tl }] }, { tag := 16, p := 1, q := 0, r := 0, s := 0, cs := takeN ((lenL (takeN (lenL ol) ol)).add 1) (appL (takeN (lenL ol) ol) [{ tag := 3, p := (nthL (bi (nbeq (nthL [nthL [nthL tl i] 0] 0).1 15) (nthL [nthL [nthL tl i] 0] 0).6 [nthL [nthL [nthL tl i] 0] 0]) 1).2, q := 0, r := 0, s := 0, cs := [] }]) }, { tag := 3, p := gt2 (fun a b => (a.add b).mod (kMod (kCode IntKind.i64))) i 1, q := 0, r := 0, s := 0, cs := [] }])
          (failR 211))
        (failR 201))
      (failR 205))
    (ansY { tag := 24, p := bi (nbeq op 0) 0 1, q := 0, r := 1, s := 0, cs := takeN (lenL ol) ol })) := by kernel_rfl
theorem s27 (J : Jmp) (x y ao aw av aq an ap bo bw bv bq bn bp : Nat) (al bl : List AV) : (compY Tryz.prog 15 (fun _ => none) (finY Tryz.prog [.cell 8 26] [26]) J [] (bodyC Tryz.f27) (finY Tryz.prog [.cell 8 26] [26]) []).run R0 (setArgs 0 [i64 x, i64 y, tmV ao aw av aq an ap al, tmV bo bw bv bq bn bp bl] noFr) (baseH Tryz.prog) =
  (ansY { tag := 15, p := 0, q := 0, r := 0, s := 0, cs := [{ tag := 3, p := x, q := 0, r := 0, s := 0, cs := [] }, { tag := 3, p := y, q := 0, r := 0, s := 0, cs := [] }, { tag := 7, p := 0, q := 0, r := 0, s := 0, cs := [] }, { tag := 9, p := 0, q := 0, r := 0, s := 0, cs := [] }, { tag := 24, p := 1, q := 0, r := 5, s := 0, cs := [{ tag := 15, p := 0, q := 0, r := 0, s := 0, cs := [{ tag := 3, p := ao, q := 0, r := 0, s := 0, cs := [] }, { tag := 3, p := aw, q := 0, r := 0, s := 0, cs := [] }, { tag := 7, p := av, q := 0, r := 0, s := 0, cs := [] }, { tag := 9, p := an, q := aq, r := 0, s := 0, cs := [] }, { tag := 24, p := ap, q := 0, r := 5, s := 0, cs := al }] }, { tag := 15, p := 0, q := 0, r := 0, s := 0, cs := [{ tag := 3, p := bo, q := 0, r := 0, s := 0, cs := [] }, { tag := 3, p := bw, q := 0, r := 0, s := 0, cs := [] }, { tag := 7, p := bv, q := 0, r := 0, s := 0, cs := [] }, { tag := 9, p := bn, q := bq, r := 0, s := 0, cs := [] }, { tag := 24, p := bp, q := 0, r := 5, s := 0, cs := bl }] }] }] }) := by kernel_rfl
theorem body130 : Tryz.f130.body = some (bodyC Tryz.f130) := by kernel_rfl
theorem fn130 : Tryz.prog.funcs[130]? = some Tryz.f130 := by kernel_rfl
theorem nt130 : Tryz.f130.ntmps = 6 := by kernel_rfl
theorem rs130 : Tryz.f130.results.toList = [.tmp 2] := by kernel_rfl
theorem body152 : Tryz.f152.body = some (bodyC Tryz.f152) := by kernel_rfl
theorem fn152 : Tryz.prog.funcs[152]? = some Tryz.f152 := by kernel_rfl
theorem nt152 : Tryz.f152.ntmps = 6 := by kernel_rfl
theorem rs152 : Tryz.f152.results.toList = [.tmp 2] := by kernel_rfl
theorem body131 : Tryz.f131.body = some (bodyC Tryz.f131) := by kernel_rfl
theorem fn131 : Tryz.prog.funcs[131]? = some Tryz.f131 := by kernel_rfl
theorem nt131 : Tryz.f131.ntmps = 9 := by kernel_rfl
theorem rs131 : Tryz.f131.results.toList = [.tmp 2] := by kernel_rfl
theorem body132 : Tryz.f132.body = some (bodyC Tryz.f132) := by kernel_rfl
theorem fn132 : Tryz.prog.funcs[132]? = some Tryz.f132 := by kernel_rfl
theorem nt132 : Tryz.f132.ntmps = 9 := by kernel_rfl
theorem rs132 : Tryz.f132.results.toList = [.tmp 2] := by kernel_rfl
theorem body154 : Tryz.f154.body = some (bodyC Tryz.f154) := by kernel_rfl
theorem fn154 : Tryz.prog.funcs[154]? = some Tryz.f154 := by kernel_rfl
theorem nt154 : Tryz.f154.ntmps = 9 := by kernel_rfl
theorem rs154 : Tryz.f154.results.toList = [.tmp 2] := by kernel_rfl
theorem body135 : Tryz.f135.body = some (bodyC Tryz.f135) := by kernel_rfl
theorem fn135 : Tryz.prog.funcs[135]? = some Tryz.f135 := by kernel_rfl
theorem nt135 : Tryz.f135.ntmps = 9 := by kernel_rfl
theorem rs135 : Tryz.f135.results.toList = [.tmp 4, .tmp 5] := by kernel_rfl
theorem body153 : Tryz.f153.body = some (bodyC Tryz.f153) := by kernel_rfl
theorem fn153 : Tryz.prog.funcs[153]? = some Tryz.f153 := by kernel_rfl
theorem nt153 : Tryz.f153.ntmps = 16 := by kernel_rfl
theorem rs153 : Tryz.f153.results.toList = [.tmp 4] := by kernel_rfl
theorem body158 : Tryz.f158.body = some (bodyC Tryz.f158) := by kernel_rfl
theorem fn158 : Tryz.prog.funcs[158]? = some Tryz.f158 := by kernel_rfl
theorem nt158 : Tryz.f158.ntmps = 18 := by kernel_rfl
theorem rs158 : Tryz.f158.results.toList = [.tmp 4] := by kernel_rfl
theorem body106 : Tryz.f106.body = some (bodyC Tryz.f106) := by kernel_rfl
theorem fn106 : Tryz.prog.funcs[106]? = some Tryz.f106 := by kernel_rfl
theorem nt106 : Tryz.f106.ntmps = 42 := by kernel_rfl
theorem rs106 : Tryz.f106.results.toList = [.tmp 2] := by kernel_rfl
theorem body98 : Tryz.f98.body = some (bodyC Tryz.f98) := by kernel_rfl
theorem fn98 : Tryz.prog.funcs[98]? = some Tryz.f98 := by kernel_rfl
theorem nt98 : Tryz.f98.ntmps = 19 := by kernel_rfl
theorem rs98 : Tryz.f98.results.toList = [.tmp 2] := by kernel_rfl
theorem body101 : Tryz.f101.body = some (bodyC Tryz.f101) := by kernel_rfl
theorem fn101 : Tryz.prog.funcs[101]? = some Tryz.f101 := by kernel_rfl
theorem nt101 : Tryz.f101.ntmps = 23 := by kernel_rfl
theorem rs101 : Tryz.f101.results.toList = [.tmp 2] := by kernel_rfl
theorem body27 : Tryz.f27.body = some (bodyC Tryz.f27) := by kernel_rfl
theorem fn27 : Tryz.prog.funcs[27]? = some Tryz.f27 := by kernel_rfl
theorem nt27 : Tryz.f27.ntmps = 15 := by kernel_rfl
theorem rs27 : Tryz.f27.results.toList = [.cell 8 26] := by kernel_rfl
noncomputable section
def clampN (x : Nat) : Nat := bi (nble (biased 3 (bi (nble (biased 3 x) 9223372036854775809) 1 x)) 9223372036854775872) (bi (nble (biased 3 x) 9223372036854775809) 1 x) 64
def insN (x : Nat) : Bool := bi (nble 9223372036854775808 (biased 3 x)) (nble (biased 3 x) 9223372036854775872) false
def knN (x : Nat) : Bool := bi (nble 9223372036854775809 (biased 3 x)) (nble (biased 3 x) 9223372036854775834) false
def isS (x : Nat) (l : List Nat) : Bool := l.any fun y => nbeq y x
def arN (x : Nat) : Nat := (bi (nbeq x 19) (3) (bi (nbeq x 5) (2) (bi (nbeq x 6) (2) (bi (nbeq x 7) (2) (bi (nbeq x 8) (2) (bi (nbeq x 9) (2) (bi (nbeq x 10) (2) (bi (nbeq x 11) (2) (bi (nbeq x 12) (2) (bi (nbeq x 13) (2) (bi (nbeq x 14) (2) (bi (nbeq x 15) (2) (bi (nbeq x 16) (2) (bi (nbeq x 17) (2) (bi (nbeq x 18) (2) (bi (nbeq x 20) (2) (bi (nbeq x 3) (1) (bi (nbeq x 4) (1) (bi (nbeq x 21) (1) (bi (nbeq x 22) (1) (bi (nbeq x 23) (1) (bi (nbeq x 26) (1) (bi (nbeq x 1) (0) (bi (nbeq x 2) (0) (bi (nbeq x 24) (0) (bi (nbeq x 25) (0) (18446744073709551615)))))))))))))))))))))))))))
end

theorem pure130 (x : Nat) : PureAt Tryz.prog 130 [i64 x] (i64 (clampN x)) := pure_fn mixed globs fn130 body130 nt130 rs130 R0_ok (fun _ => none) [3] 0 (s130 _ x)
theorem pure152 (x : Nat) : PureAt Tryz.prog 152 [i64 x] (i64 (clampN x)) := pure_fn mixed globs fn152 body152 nt152 rs152 R0_ok (fun _ => none) [3] 0 (s152 _ x)
theorem pure131 (x : Nat) : PureAt Tryz.prog 131 [i64 x] (bV (knN x)) := by
  refine pure_fn mixed globs fn131 body131 nt131 rs131 R0_ok (fun _ => none) [4] 0 ((s131 _ x).trans ?_)
  unfold knN
  simp only [bl_bi]
  cases nble 9223372036854775809 (biased 3 x) <;> rfl
theorem pure132 (x : Nat) : PureAt Tryz.prog 132 [i64 x] (bV (insN x)) := by
  refine pure_fn mixed globs fn132 body132 nt132 rs132 R0_ok (fun _ => none) [4] 0 ((s132 _ x).trans ?_)
  unfold insN
  simp only [bl_bi]
  cases nble 9223372036854775808 (biased 3 x) <;> rfl
theorem pure154 (x : Nat) : PureAt Tryz.prog 154 [i64 x] (bV (insN x)) := by
  refine pure_fn mixed globs fn154 body154 nt154 rs154 R0_ok (fun _ => none) [4] 0 ((s154 _ x).trans ?_)
  unfold insN
  simp only [bl_bi]
  cases nble 9223372036854775808 (biased 3 x) <;> rfl
theorem pure135 (b : Bool) (x : Nat) : PureAt Tryz.prog 135 [bV b, i64 x] (tupV [i64 (bi b x 0), i64 (bi b 0 3)]) := by
  refine pure_fn mixed globs fn135 body135 nt135 rs135 R0_ok (fun _ => none) [3, 31] 0 ((s135 _ x b).trans ?_)
  cases b <;> rfl
theorem shr_mod {x y : Nat} (hy : y < 64) (hx : x < 2 ^ 64) : shrN 7 x y = x / 2 ^ y := by
  unfold shrN
  rw [gt2_eq]
  have e1 : isNeg 7 x = false := by
    unfold isNeg
    have e : kHalf 7 = 2 ^ 64 := by decide +kernel
    rw [e]; exact nble_f (by omega)
  have e2 : kBits 7 = 64 := by decide +kernel
  rw [e1, bi_false, e2, nble_f (by omega), bi_false]
  exact Nat.shiftRight_eq_div_pow x y
theorem pure153 (x y : Nat) (hx : x < 2 ^ 64) (hy : y < 64) : PureAt Tryz.prog 153 [u64 x, i64 y] (u64 (x / 2 ^ y % 2)) := by
  refine pure_fn mixed globs fn153 body153 nt153 rs153 R0_ok (fun _ => none) [23] 0 ((s153 _ x y).trans ?_)
  simp only [bl_bi, b0, biased3s (show y < 2 ^ 63 by omega)]
  rw [cnv_mod y (by omega), shr_mod hy hx, nble_t (show 9223372036854775808 ≤ y + 2 ^ 63 by omega), nble_t (show y + 2 ^ 63 ≤ 9223372036854775871 by omega), nble_f (show ¬ 18446744073709551616 ≤ y by omega)]
  simp only [nb_t, nb_f, bi_tt, bi_ff, gt2_eq]
  have : Nat.land (x / 2 ^ y) 1 = x / 2 ^ y % 2 := Nat.and_one_is_mod _
  rw [this]; rfl
theorem loop158 (x lp : Nat) (X : List Nat) (hX : X.length < 2 ^ 63) : ∀ k i, i + k = X.length → jmpN Tryz.prog 18 labIs (baseH Tryz.prog) R0 (finY Tryz.prog [.tmp 4] [4]) (bodyC Tryz.f158) (k + 1) [0,0,1,0,1] [i64 x, slP lp 1 (X.map i64), i64 (lenL (X.map i64)), i64 i] = ansY (bV (isS x (X.drop i))) := by
  intro k
  induction k with
  | zero =>
    intro i hi
    have e : i = X.length := by omega
    subst e
    rw [jmpN_succ, l158]
    simp only [bl_bi, lenL_map, biased_le hX hX, Nat.le_refl, decide_true, nb_t, bi_ff, List.drop_length]
    rfl
  | succ k ih =>
    intro i hi
    have hlt : i < X.length := by omega
    have hi63 : i < 2 ^ 63 := by omega
    have e1 : X.drop i = X[i] :: X.drop (i + 1) := List.drop_eq_getElem_cons hlt
    rw [jmpN_succ, l158]
    simp only [bl_bi, n11, n01, lenL_map, biased_le hX hi63, show ¬ X.length ≤ i by omega, decide_false, nb_f, bi_tt, nble_t (show i.succ ≤ X.length from hlt), nthL_map i64 X i hlt, nth1, cells_i64, tg_i, i64_p, succ_mod hi63, mk_slP, mk_i64]
    rw [e1]
    unfold isS
    rw [List.any_cons]
    cases h : nbeq X[i] x
    · rw [bi_ff, Bool.false_or]
      have := ih (i + 1) (by omega)
      rw [lenL_map] at this
      exact this
    · rw [bi_tt]; rfl
theorem pure158 (x lp : Nat) (X : List Nat) (hX : X.length < 2 ^ 63) : PureAt Tryz.prog 158 [i64 x, slP lp 1 (X.map i64)] (bV (isS x X)) :=
  pure_fn mixed globs fn158 body158 nt158 rs158 R0_ok labIs [4] (X.length + 1) ((s158 _ _ _ _).trans (loop158 x lp X hX X.length 0 (by omega)))
theorem pure106 (x : Nat) : PureAt Tryz.prog 106 [i64 x] (i64 (arN x)) := by
  refine pure_fn mixed globs fn106 body106 nt106 rs106 R0_ok (fun _ => none) [3] 0 ((s106 _ x).trans ?_)
  unfold arN
  simp only [bl_bi, mk_i64, ansY_bi, i64_bi]
theorem pure98 (lp : Nat) (X : List Tm) (hX : X.length ≤ 1000) : PureAt Tryz.prog 98 [slP lp 5 (X.map tmA)] (slP (if X.length = 0 then 0 else 1) 1 (X.map fun t => i64 t.w)) := by
  have h := walkA X (fun t => i64 t.w) (fun k i p acc => jmpN Tryz.prog 19 lab98 (baseH Tryz.prog) R0 (finY Tryz.prog [.tmp 2] [40]) (bodyC Tryz.f98) k [0,0,1,0,1,1] [lsD p acc, slP lp 5 (X.map tmA), i64 (lenL (X.map tmA)), i64 i]) (fun p acc => ansY (slP (bi (nbeq p 0) 0 1) 1 acc)) hX ?_ ?_ X.length 0 0 (by omega)
  · simp only [List.take_zero, List.map_nil] at h
    have h2 := h.trans (show _ = ansY (slP (if X.length = 0 then 0 else 1) 1 (X.map fun t => i64 t.w)) by split <;> rfl)
    exact pure_fn mixed globs fn98 body98 nt98 rs98 R0_ok lab98 [40] (X.length + 1) ((s98 _ _ _).trans h2)
  · intro k p acc ha
    have hx : X.length < 2 ^ 63 := by omega
    show jmpN _ _ _ _ _ _ _ (k + 1) _ _ = _
    rw [jmpN_succ, l98]
    simp only [bl_bi, n11, n01, lenL_map, biased_le hx hx, Nat.le_refl, decide_true, nb_t, bi_ff, takeN_self, mk_slP]
  · intro k i p acc hlt ha
    have hx : X.length < 2 ^ 63 := by omega
    have hi63 : i < 2 ^ 63 := by omega
    show jmpN _ _ _ _ _ _ _ (k + 1) _ _ = _
    rw [jmpN_succ, l98]
    simp only [bl_bi, n11, n01, lenL_map, biased_le hx hi63, show ¬ X.length ≤ i by omega, decide_false, nb_f, bi_tt, nble_t (show i.succ ≤ X.length from hlt), nthL_map tmA X i hlt, nth1, cells_tm, n5_0, n5_1, n5_2, n5_3, n5_4, tg_i, tg_u, tg_s, tg_l, i64_p, succ_mod hi63, mk_slP, mk_i64, mk_ls, takeN_self, takeN_snoc]
    rw [lenL_eq, ha, ble_100k (by omega), bi_tt]
theorem pure101 (t : Tm) (hX : t.as.length ≤ 1000) : PureAt Tryz.prog 101 [tmA t] (slP 1 1 (t.as.map fun t => i64 t.w)) := by
  obtain ⟨op, w, v, nq, np, p0, X⟩ := t
  have hX : X.length ≤ 1000 := hX
  have h := walkA X (fun t => i64 t.w) (fun k i p acc => jmpN Tryz.prog 23 lab101 (baseH Tryz.prog) R0 (finY Tryz.prog [.tmp 2] [40]) (bodyC Tryz.f101) k [0,0,1,0,1,1] [bxD [i64 op, i64 w, u64 v, stA nq np, slP p0 5 (X.map tmA)], lsD p acc, i64 i]) (fun p acc => ansY (slP (bi (nbeq p 0) 0 1) 1 acc)) hX ?_ ?_ X.length 0 2 (by omega)
  · simp only [List.take_zero, List.map_nil] at h
    rw [tmA_mk]
    have h2 := h.trans (show _ = ansY (slP 1 1 (X.map fun t => i64 t.w)) by split <;> rfl)
    exact pure_fn mixed globs fn101 body101 nt101 rs101 R0_ok lab101 [40] (X.length + 1) ((s101 _ op w v nq np p0 _).trans h2)
  · intro k p acc ha
    have hx : X.length < 2 ^ 63 := by omega
    show jmpN _ _ _ _ _ _ _ (k + 1) _ _ = _
    rw [jmpN_succ, l101]
    simp only [bl_bi, n11, n01, lenL_map, biased_le hx hx, Nat.le_refl, decide_true, nb_t, bi_ff, takeN_self, mk_slP]
  · intro k i p acc hlt ha
    have hx : X.length < 2 ^ 63 := by omega
    have hi63 : i < 2 ^ 63 := by omega
    show jmpN _ _ _ _ _ _ _ (k + 1) _ _ = _
    rw [jmpN_succ, l101]
    simp only [bl_bi, n11, n01, lenL_map, biased_le hx hi63, show ¬ X.length ≤ i by omega, decide_false, nb_f, bi_tt, nble_t (show i.succ ≤ X.length from hlt), nthL_map tmA X i hlt, nth1, cells_tm, n5_1', tg_i, i64_p, succ_mod hi63, mk_slP, mk_i64, mk_u64, mk_stA, mk_bx, mk_ls, takeN_self, takeN_snoc]
    rw [lenL_eq, ha, ble_100k (by omega), bi_tt]
theorem pure27 (x y : Nat) (a b : Tm) : PureAt Tryz.prog 27 [i64 x, i64 y, tmA a, tmA b] (tmA (.mk x y 0 0 0 1 [a, b])) := by
  rw [tmA_mk]
  obtain ⟨ao, aw, av, aq, an, ap, al⟩ := a
  obtain ⟨bo, bw, bv, bq, bn, bp, bl⟩ := b
  rw [List.map_cons, List.map_cons, List.map_nil, tmA_mk, tmA_mk]
  exact pure_fn mixed globs fn27 body27 nt27 rs27 R0_ok (fun _ => none) [26] 0 (s27 _ x y ao aw av aq an ap bo bw bv bq bn bp _ _)
end Go.Eng
namespace Go.Eng
open Go.RowKit Go.Proofs
noncomputable section
def bitN (x y : Nat) : Nat := gt2 (fun x y => x / 2 ^ y % 2) x y
def isA (x : Nat) (l : List AV) : Bool := l.any fun a => nbeq a.p x
def NtB : Nat → Option Native := ntL [(130, natP Tryz.prog 130 [3] fun l => i64 (clampN (nthL l 0).p)), (131, natP Tryz.prog 131 [22] fun l => bV (knN (nthL l 0).p)), (132, natP Tryz.prog 132 [3] fun l => bV (insN (nthL l 0).p)),
  (154, natP Tryz.prog 154 [3] fun l => bV (insN (nthL l 0).p)), (135, natP Tryz.prog 135 [4, 3] fun l => tupV [i64 (bi (nbeq (nthL l 0).p 1) (nthL l 1).p 0), i64 (bi (nbeq (nthL l 0).p 1) 0 3)]), (152, natP Tryz.prog 152 [3] fun l => i64 (clampN (nthL l 0).p)),
  (153, natP Tryz.prog 153 [23, 3] fun l => u64 (bitN (nthL l 0).p (nthL l 1).p)), (158, natP Tryz.prog 158 [22, 231] fun l => bV (isA (nthL l 0).p (nthL l 1).cs)), (106, natP Tryz.prog 106 [22] fun l => i64 (arN (nthL l 0).p))]
def RB : Rec := evN Tryz.prog NtB (fun _ => false) 2
def lab83 : Lab := labT [([0,0,1,0,1,1], [(0,0),(1,0),(2,0),(3,0),(22,0),(23,0),(24,0)])]
def lab100 : Lab := labT [([0,0,1,0,1,1], [(0,0),(1,0),(2,0),(3,0),(22,0),(23,0)])]
def lab99 : Lab := labT [([0,0,1,0,1,1], [(1,0),(5,0),(8,0),(9,0)])]
def lab28 : Lab := labT [([0,0,1,0,1,1,1], [(1,0),(2,0),(3,100),(7,0)])]
def lab25 : Lab := labT [([0,0,1,0,1,1], [(0,0),(1,0),(5,0)])]
def lab23 : Lab := labT [([0,0,1,0,1,1,1], [(2,100),(3,405),(9,0),(10,0),(11,0)])]
/- count, Same, SameAll, Copy: natives of themselves -/
def unTms (l : List AV) : List Tm := l.map unTm
def cntN (t : Tm) (d n : Nat) : Nat := match cnt t d n with | none => 18446744073709551615 | some k => k
def NtC : Nat → Option Native := ntL [(28, natP Tryz.prog 28 [26, 3, 3] fun l => i64 (cntN (unTm (nthL l 0)) (nthL l 1).p (nthL l 2).p)), (8, natP Tryz.prog 8 [26, 26] fun l => bV (eqT (unTm (nthL l 0)) (unTm (nthL l 1)))),
  (25, natP Tryz.prog 25 [24, 24] fun l => bV (eqTs (unTms (nthL l 0).cs) (unTms (nthL l 1).cs))), (23, natP Tryz.prog 23 [26] fun l => tmE (cpT (unTm (nthL l 0))))]
def RC : Rec := evN Tryz.prog NtC (fun _ => false) 2
end
theorem RB_ok : RecOk Tryz.prog RB := evN_ok mixed (ntL_cons (ntL_cons (ntL_cons (ntL_cons (ntL_cons (ntL_cons (ntL_cons (ntL_cons (ntL_cons ntL_nil))))))))) noGor 2
theorem RC_ok : RecOk Tryz.prog RC := evN_ok mixed (ntL_cons (ntL_cons (ntL_cons (ntL_cons ntL_nil)))) noGor 2
end Go.Eng
namespace Go.Eng
open Go.RowKit Go.Proofs
theorem s82 (J : Jmp) (x : Nat) : (compY Tryz.prog 7 (fun _ => none) (finY Tryz.prog [.tmp 2] [23]) J [] (bodyC Tryz.f82) (finY Tryz.prog [.tmp 2] [23]) []).run RB (setArgs 0 [i64 x] noFr) (baseH Tryz.prog) =
  (bi (nbeq (okN (PureAt Tryz.prog 130 [{ tag := 3, p := x, q := 0, r := 0, s := 0, cs := [] }] { tag := 3, p := clampN x, q := 0, r := 0, s := 0, cs := [] })) 1)
    (bi (nble 9223372036854775808 (gt2 (fun a b => ((a.add (kMod (kCode IntKind.i64))).sub b).mod (kMod (kCode IntKind.i64))) 64 (clampN x)))
      (failR 9)
      (ansY { tag := 7, p := shrN 7 18446744073709551615 (gt2 (fun a b => ((a.add (kMod (kCode IntKind.i64))).sub b).mod (kMod (kCode IntKind.i64))) 64 (clampN x)), q := 0, r := 0, s := 0, cs := [] }))
    (failR 301)) := by kernel_rfl
theorem s155 (J : Jmp) (x : Nat) : (compY Tryz.prog 6 (fun _ => none) (finY Tryz.prog [.tmp 2] [4]) J [] (bodyC Tryz.f155) (finY Tryz.prog [.tmp 2] [4]) []).run RB (setArgs 0 [i64 x] noFr) (baseH Tryz.prog) =
  (bi (nbeq (okN (PureAt Tryz.prog 158 [{ tag := 3, p := x, q := 0, r := 0, s := 0, cs := [] }, { tag := 24, p := 1, q := 0, r := 1, s := 0, cs := [{ tag := 3, p := 1, q := 0, r := 0, s := 0, cs := [] }, { tag := 3, p := 2, q := 0, r := 0, s := 0, cs := [] }, { tag := 3, p := 24, q := 0, r := 0, s := 0, cs := [] }, { tag := 3, p := 25, q := 0, r := 0, s := 0, cs := [] }] }] { tag := 8, p := bi (isA x [{ tag := 3, p := 1, q := 0, r := 0, s := 0, cs := [] }, { tag := 3, p := 2, q := 0, r := 0, s := 0, cs := [] }, { tag := 3, p := 24, q := 0, r := 0, s := 0, cs := [] }, { tag := 3, p := 25, q := 0, r := 0, s := 0, cs := [] }]) 1 0, q := 0, r := 0, s := 0, cs := [] })) 1)
    (ansY { tag := 8, p := bi (isA x [{ tag := 3, p := 1, q := 0, r := 0, s := 0, cs := [] }, { tag := 3, p := 2, q := 0, r := 0, s := 0, cs := [] }, { tag := 3, p := 24, q := 0, r := 0, s := 0, cs := [] }, { tag := 3, p := 25, q := 0, r := 0, s := 0, cs := [] }]) 1 0, q := 0, r := 0, s := 0, cs := [] })
    (failR 301)) := by kernel_rfl
theorem s133 (J : Jmp) (x y z : Nat) : (compY Tryz.prog 26 (fun _ => none) (finY Tryz.prog [.tmp 6, .tmp 7] [3, 31]) J [] (bodyC Tryz.f133) (finY Tryz.prog [.tmp 6, .tmp 7] [3, 31]) []).run RB (setArgs 0 [i64 x, i64 y, u64 z] noFr) (baseH Tryz.prog) =
  (bi (nbeq (okN (PureAt Tryz.prog 132 [{ tag := 3, p := y, q := 0, r := 0, s := 0, cs := [] }] { tag := 8, p := bi (insN y) 1 0, q := 0, r := 0, s := 0, cs := [] })) 1)
    (bi (nbeq (Nat.sub 1 (bi (insN y) 1 0)) 0)
      (bi (nbeq (bi (nbeq x 2) 1 0) 1)
        (bi (nbeq (bi (nb (nble (biased 3 y) 9223372036854775808)) 1 0) 1)
          (bi (nble 9223372036854775808 y)
            (failR 9)
            (bi (nbeq (bi (nb (nbeq (shrN 7 z y) 0)) 1 0) 1)
              (ansY { tag := 16, p := 0, q := 0, r := 0, s := 0, cs := [{ tag := 3, p := 0, q := 0, r := 0, s := 0, cs := [] }, { tag := 3, p := 3, q := 0, r := 0, s := 0, cs := [] }] })
              (ansY { tag := 16, p := 0, q := 0, r := 0, s := 0, cs := [{ tag := 3, p := y, q := 0, r := 0, s := 0, cs := [] }, { tag := 3, p := 0, q := 0, r := 0, s := 0, cs := [] }] })))
          (ansY { tag := 16, p := 0, q := 0, r := 0, s := 0, cs := [{ tag := 3, p := y, q := 0, r := 0, s := 0, cs := [] }, { tag := 3, p := 0, q := 0, r := 0, s := 0, cs := [] }] }))
        (ansY { tag := 16, p := 0, q := 0, r := 0, s := 0, cs := [{ tag := 3, p := y, q := 0, r := 0, s := 0, cs := [] }, { tag := 3, p := 0, q := 0, r := 0, s := 0, cs := [] }] }))
      (ansY { tag := 16, p := 0, q := 0, r := 0, s := 0, cs := [{ tag := 3, p := 0, q := 0, r := 0, s := 0, cs := [] }, { tag := 3, p := 3, q := 0, r := 0, s := 0, cs := [] }] }))
    (failR 301)) := by kernel_rfl
theorem s134 (J : Jmp) (x y z o : Nat) : (compY Tryz.prog 45 (fun _ => none) (finY Tryz.prog [.tmp 8, .tmp 9] [3, 31]) J [] (bodyC Tryz.f134) (finY Tryz.prog [.tmp 8, .tmp 9] [3, 31]) []).run RB (setArgs 0 [i64 x, i64 y, u64 z, i64 o] noFr) (baseH Tryz.prog) =
  (bi (nbeq (bi (nb (nble 9223372036854775809 (biased 3 y))) 1 0) 0)
    (bi (nbeq (bi (nb (nble (biased 3 y) 9223372036854775872)) 1 0) 0)
      (bi (nbeq (bi (nb (nble 9223372036854775809 (biased 3 o))) 1 0) 1)
        (ansY { tag := 16, p := 0, q := 0, r := 0, s := 0, cs := [{ tag := 3, p := 0, q := 0, r := 0, s := 0, cs := [] }, { tag := 3, p := 3, q := 0, r := 0, s := 0, cs := [] }] })
        (bi (nbeq (bi (nb (nbeq x 21)) 1 0) 1)
          (bi (nbeq (bi (nb (nble (biased 3 o) (biased 3 y))) 1 0) 0)
            (bi (nbeq (bi (nbeq x 21) 1 0) 1)
              (bi (nbeq (bi (nb (nble (biased 3 y) (biased 3 o))) 1 0) 0)
                (bi (nbeq (bi (nb (nble (biased 7 z) (biased 7 (cnvN 3 7 (gt2 (fun a b => ((a.add (kMod (kCode IntKind.i64))).sub b).mod (kMod (kCode IntKind.i64))) o y))))) 1 0) 1)
                  (ansY { tag := 16, p := 0, q := 0, r := 0, s := 0, cs := [{ tag := 3, p := 0, q := 0, r := 0, s := 0, cs := [] }, { tag := 3, p := 3, q := 0, r := 0, s := 0, cs := [] }] })
                  (ansY { tag := 16, p := 0, q := 0, r := 0, s := 0, cs := [{ tag := 3, p := y, q := 0, r := 0, s := 0, cs := [] }, { tag := 3, p := 0, q := 0, r := 0, s := 0, cs := [] }] }))
                (ansY { tag := 16, p := 0, q := 0, r := 0, s := 0, cs := [{ tag := 3, p := 0, q := 0, r := 0, s := 0, cs := [] }, { tag := 3, p := 3, q := 0, r := 0, s := 0, cs := [] }] }))
              (ansY { tag := 16, p := 0, q := 0, r := 0, s := 0, cs := [{ tag := 3, p := y, q := 0, r := 0, s := 0, cs := [] }, { tag := 3, p := 0, q := 0, r := 0, s := 0, cs := [] }] }))
            (ansY { tag := 16, p := 0, q := 0, r := 0, s := 0, cs := [{ tag := 3, p := 0, q := 0, r := 0, s := 0, cs := [] }, { tag := 3, p := 3, q := 0, r := 0, s := 0, cs := [] }] }))
          (bi (nbeq (bi (nbeq x 21) 1 0) 1)
            (bi (nbeq (bi (nb (nble (biased 3 y) (biased 3 o))) 1 0) 0)
              (bi (nbeq (bi (nb (nble (biased 7 z) (biased 7 (cnvN 3 7 (gt2 (fun a b => ((a.add (kMod (kCode IntKind.i64))).sub b).mod (kMod (kCode IntKind.i64))) o y))))) 1 0) 1)
                (ansY { tag := 16, p := 0, q := 0, r := 0, s := 0, cs := [{ tag := 3, p := 0, q := 0, r := 0, s := 0, cs := [] }, { tag := 3, p := 3, q := 0, r := 0, s := 0, cs := [] }] })
                (ansY { tag := 16, p := 0, q := 0, r := 0, s := 0, cs := [{ tag := 3, p := y, q := 0, r := 0, s := 0, cs := [] }, { tag := 3, p := 0, q := 0, r := 0, s := 0, cs := [] }] }))
              (ansY { tag := 16, p := 0, q := 0, r := 0, s := 0, cs := [{ tag := 3, p := 0, q := 0, r := 0, s := 0, cs := [] }, { tag := 3, p := 3, q := 0, r := 0, s := 0, cs := [] }] }))
            (ansY { tag := 16, p := 0, q := 0, r := 0, s := 0, cs := [{ tag := 3, p := y, q := 0, r := 0, s := 0, cs := [] }, { tag := 3, p := 0, q := 0, r := 0, s := 0, cs := [] }] }))))
      (ansY { tag := 16, p := 0, q := 0, r := 0, s := 0, cs := [{ tag := 3, p := 0, q := 0, r := 0, s := 0, cs := [] }, { tag := 3, p := 3, q := 0, r := 0, s := 0, cs := [] }] }))
    (ansY { tag := 16, p := 0, q := 0, r := 0, s := 0, cs := [{ tag := 3, p := 0, q := 0, r := 0, s := 0, cs := [] }, { tag := 3, p := 3, q := 0, r := 0, s := 0, cs := [] }] })) := by kernel_rfl
theorem s156 (J : Jmp) (x y z : Nat) : (compY Tryz.prog 31 (fun _ => none) (finY Tryz.prog [.tmp 6, .tmp 7] [3, 31]) J [] (bodyC Tryz.f156) (finY Tryz.prog [.tmp 6, .tmp 7] [3, 31]) []).run RB (setArgs 0 [i64 x, i64 y, u64 z] noFr) (baseH Tryz.prog) =
  (bi (nbeq (okN (PureAt Tryz.prog 154 [{ tag := 3, p := y, q := 0, r := 0, s := 0, cs := [] }] { tag := 8, p := bi (insN y) 1 0, q := 0, r := 0, s := 0, cs := [] })) 1)
    (bi (nbeq (Nat.sub 1 (bi (insN y) 1 0)) 0)
      (bi (nbeq (bi (nbeq x 2) 1 0) 1)
        (bi (nbeq (bi (nb (nble (biased 3 y) 9223372036854775808)) 1 0) 1)
          (bi (nbeq (bi (nb (nble 9223372036854775872 (biased 3 y))) 1 0) 1)
            (bi (nble 18446744073709551616 (cnvN 3 7 y))
              (failR 9)
              (bi (nbeq (bi (nble (biased 7 (shlN 7 1 (cnvN 3 7 y))) (biased 7 z)) 1 0) 1)
                (ansY { tag := 16, p := 0, q := 0, r := 0, s := 0, cs := [{ tag := 3, p := 0, q := 0, r := 0, s := 0, cs := [] }, { tag := 3, p := 3, q := 0, r := 0, s := 0, cs := [] }] })
                (ansY { tag := 16, p := 0, q := 0, r := 0, s := 0, cs := [{ tag := 3, p := y, q := 0, r := 0, s := 0, cs := [] }, { tag := 3, p := 0, q := 0, r := 0, s := 0, cs := [] }] })))
            (ansY { tag := 16, p := 0, q := 0, r := 0, s := 0, cs := [{ tag := 3, p := y, q := 0, r := 0, s := 0, cs := [] }, { tag := 3, p := 0, q := 0, r := 0, s := 0, cs := [] }] }))
          (ansY { tag := 16, p := 0, q := 0, r := 0, s := 0, cs := [{ tag := 3, p := y, q := 0, r := 0, s := 0, cs := [] }, { tag := 3, p := 0, q := 0, r := 0, s := 0, cs := [] }] }))
        (ansY { tag := 16, p := 0, q := 0, r := 0, s := 0, cs := [{ tag := 3, p := y, q := 0, r := 0, s := 0, cs := [] }, { tag := 3, p := 0, q := 0, r := 0, s := 0, cs := [] }] }))
      (ansY { tag := 16, p := 0, q := 0, r := 0, s := 0, cs := [{ tag := 3, p := 0, q := 0, r := 0, s := 0, cs := [] }, { tag := 3, p := 3, q := 0, r := 0, s := 0, cs := [] }] }))
    (failR 301)) := by kernel_rfl
theorem s157 (J : Jmp) (x y z o : Nat) : (compY Tryz.prog 46 (fun _ => none) (finY Tryz.prog [.tmp 8, .tmp 9] [3, 31]) J [] (bodyC Tryz.f157) (finY Tryz.prog [.tmp 8, .tmp 9] [3, 31]) []).run RB (setArgs 0 [i64 x, i64 y, u64 z, i64 o] noFr) (baseH Tryz.prog) =
  (bi (nbeq (okN (PureAt Tryz.prog 154 [{ tag := 3, p := y, q := 0, r := 0, s := 0, cs := [] }] { tag := 8, p := bi (insN y) 1 0, q := 0, r := 0, s := 0, cs := [] })) 1)
    (bi (nbeq (Nat.sub 1 (bi (insN y) 1 0)) 0)
      (bi (nbeq (bi (nb (nble 9223372036854775809 (biased 3 y))) 1 0) 0)
        (bi (nbeq (bi (nb (nble 9223372036854775809 (biased 3 o))) 1 0) 1)
          (ansY { tag := 16, p := 0, q := 0, r := 0, s := 0, cs := [{ tag := 3, p := 0, q := 0, r := 0, s := 0, cs := [] }, { tag := 3, p := 3, q := 0, r := 0, s := 0, cs := [] }] })
          (bi (nbeq (bi (nbeq x 21) 1 0) 1)
            (bi (nbeq (bi (nb (nble (biased 3 y) (biased 3 o))) 1 0) 0)
              (bi (nbeq (bi (nb (nble (biased 7 z) (biased 7 (cnvN 3 7 (gt2 (fun a b => ((a.add (kMod (kCode IntKind.i64))).sub b).mod (kMod (kCode IntKind.i64))) o y))))) 1 0) 0)
                (bi (nbeq (bi (nb (nbeq x 21)) 1 0) 1)
                  (bi (nbeq (bi (nb (nble (biased 3 o) (biased 3 y))) 1 0) 1)
                    (ansY { tag := 16, p := 0, q := 0, r := 0, s := 0, cs := [{ tag := 3, p := 0, q := 0, r := 0, s := 0, cs := [] }, { tag := 3, p := 3, q := 0, r := 0, s := 0, cs := [] }] })
                    (ansY { tag := 16, p := 0, q := 0, r := 0, s := 0, cs := [{ tag := 3, p := y, q := 0, r := 0, s := 0, cs := [] }, { tag := 3, p := 0, q := 0, r := 0, s := 0, cs := [] }] }))
                  (ansY { tag := 16, p := 0, q := 0, r := 0, s := 0, cs := [{ tag := 3, p := y, q := 0, r := 0, s := 0, cs := [] }, { tag := 3, p := 0, q := 0, r := 0, s := 0, cs := [] }] }))
                (ansY { tag := 16, p := 0, q := 0, r := 0, s := 0, cs := [{ tag := 3, p := 0, q := 0, r := 0, s := 0, cs := [] }, { tag := 3, p := 3, q := 0, r := 0, s := 0, cs := [] }] }))
              (ansY { tag := 16, p := 0, q := 0, r := 0, s := 0, cs := [{ tag := 3, p := 0, q := 0, r := 0, s := 0, cs := [] }, { tag := 3, p := 3, q := 0, r := 0, s := 0, cs := [] }] }))
            (bi (nbeq (bi (nb (nbeq x 21)) 1 0) 1)
              (bi (nbeq (bi (nb (nble (biased 3 o) (biased 3 y))) 1 0) 1)
                (ansY { tag := 16, p := 0, q := 0, r := 0, s := 0, cs := [{ tag := 3, p := 0, q := 0, r := 0, s := 0, cs := [] }, { tag := 3, p := 3, q := 0, r := 0, s := 0, cs := [] }] })
                (ansY { tag := 16, p := 0, q := 0, r := 0, s := 0, cs := [{ tag := 3, p := y, q := 0, r := 0, s := 0, cs := [] }, { tag := 3, p := 0, q := 0, r := 0, s := 0, cs := [] }] }))
              (ansY { tag := 16, p := 0, q := 0, r := 0, s := 0, cs := [{ tag := 3, p := y, q := 0, r := 0, s := 0, cs := [] }, { tag := 3, p := 0, q := 0, r := 0, s := 0, cs := [] }] }))))
        (ansY { tag := 16, p := 0, q := 0, r := 0, s := 0, cs := [{ tag := 3, p := 0, q := 0, r := 0, s := 0, cs := [] }, { tag := 3, p := 3, q := 0, r := 0, s := 0, cs := [] }] }))
      (ansY { tag := 16, p := 0, q := 0, r := 0, s := 0, cs := [{ tag := 3, p := 0, q := 0, r := 0, s := 0, cs := [] }, { tag := 3, p := 3, q := 0, r := 0, s := 0, cs := [] }] }))
    (failR 301)) := by kernel_rfl
theorem s99 (J : Jmp) (x y : Nat) : (compY Tryz.prog 22 lab99 (finY Tryz.prog [.tmp 4] [23]) J [] (bodyC Tryz.f99) (finY Tryz.prog [.tmp 4] [23]) []).run RB (setArgs 0 [i64 x, u64 y] noFr) (baseH Tryz.prog) =
  (bi (nbeq (okN (PureAt Tryz.prog 152 [{ tag := 3, p := x, q := 0, r := 0, s := 0, cs := [] }] { tag := 3, p := clampN x, q := 0, r := 0, s := 0, cs := [] })) 1)
    (J [0, 0, 1, 0, 1, 1] [{ tag := 7, p := y, q := 0, r := 0, s := 0, cs := [] }, { tag := 7, p := 0, q := 0, r := 0, s := 0, cs := [] }, { tag := 3, p := clampN x, q := 0, r := 0, s := 0, cs := [] }, { tag := 3, p := 0, q := 0, r := 0, s := 0, cs := [] }])
    (failR 301)) := by kernel_rfl
theorem l99 (J : Jmp) (y a n i : Nat) : lblY Tryz.prog 22 lab99 (baseH Tryz.prog) RB (finY Tryz.prog [.tmp 4] [23]) (bodyC Tryz.f99) J [0,0,1,0,1,1] [u64 y, u64 a, i64 n, i64 i] =
  (bi (nbeq (bi (nb (nble (biased 3 n) (biased 3 i))) 1 0) 1)
    (bi (nbeq (okN (PureAt Tryz.prog 153 [{ tag := 7, p := y, q := 0, r := 0, s := 0, cs := [] }, { tag := 3, p := i, q := 0, r := 0, s := 0, cs := [] }] { tag := 7, p := bitN y i, q := 0, r := 0, s := 0, cs := [] })) 1)
      (bi (nble 18446744073709551616 (cnvN 3 7 i))
        (failR 9)
        (J [0, 0, 1, 0, 1, 1] [{ tag := 7, p := y, q := 0, r := 0, s := 0, cs := [] }, { tag := 7, p := gt2 (fun a b => a.lor b) a (shlN 7 (bitN y i) (cnvN 3 7 i)), q := 0, r := 0, s := 0, cs := [] }, { tag := 3, p := n, q := 0, r := 0, s := 0, cs := [] }, { tag := 3, p := gt2 (fun a b => (a.add b).mod (kMod (kCode IntKind.i64))) i 1, q := 0, r := 0, s := 0, cs := [] }]))
      (failR 301))
    (ansY { tag := 7, p := a, q := 0, r := 0, s := 0, cs := [] })) := by kernel_rfl
theorem s26 (J : Jmp) (x ao aw av aq an ap bo bw bv bq bn bp : Nat) (al bl : List AV) : (compY Tryz.prog 12 (fun _ => none) (finY Tryz.prog [.cell 6 26] [26]) J [] (bodyC Tryz.f26) (finY Tryz.prog [.cell 6 26] [26]) []).run R0 (setArgs 0 [i64 x, tmV ao aw av aq an ap al, tmV bo bw bv bq bn bp bl] noFr) (baseH Tryz.prog) =
  (ansY { tag := 15, p := 0, q := 0, r := 0, s := 0, cs := [{ tag := 3, p := x, q := 0, r := 0, s := 0, cs := [] }, { tag := 3, p := 1, q := 0, r := 0, s := 0, cs := [] }, { tag := 7, p := 0, q := 0, r := 0, s := 0, cs := [] }, { tag := 9, p := 0, q := 0, r := 0, s := 0, cs := [] }, { tag := 24, p := 1, q := 0, r := 5, s := 0, cs := [{ tag := 15, p := 0, q := 0, r := 0, s := 0, cs := [{ tag := 3, p := ao, q := 0, r := 0, s := 0, cs := [] }, { tag := 3, p := aw, q := 0, r := 0, s := 0, cs := [] }, { tag := 7, p := av, q := 0, r := 0, s := 0, cs := [] }, { tag := 9, p := an, q := aq, r := 0, s := 0, cs := [] }, { tag := 24, p := ap, q := 0, r := 5, s := 0, cs := al }] }, { tag := 15, p := 0, q := 0, r := 0, s := 0, cs := [{ tag := 3, p := bo, q := 0, r := 0, s := 0, cs := [] }, { tag := 3, p := bw, q := 0, r := 0, s := 0, cs := [] }, { tag := 7, p := bv, q := 0, r := 0, s := 0, cs := [] }, { tag := 9, p := bn, q := bq, r := 0, s := 0, cs := [] }, { tag := 24, p := bp, q := 0, r := 5, s := 0, cs := bl }] }] }] }) := by kernel_rfl
theorem body82 : Tryz.f82.body = some (bodyC Tryz.f82) := by kernel_rfl
theorem fn82 : Tryz.prog.funcs[82]? = some Tryz.f82 := by kernel_rfl
theorem nt82 : Tryz.f82.ntmps = 7 := by kernel_rfl
theorem rs82 : Tryz.f82.results.toList = [.tmp 2] := by kernel_rfl
theorem body155 : Tryz.f155.body = some (bodyC Tryz.f155) := by kernel_rfl
theorem fn155 : Tryz.prog.funcs[155]? = some Tryz.f155 := by kernel_rfl
theorem nt155 : Tryz.f155.ntmps = 6 := by kernel_rfl
theorem rs155 : Tryz.f155.results.toList = [.tmp 2] := by kernel_rfl
theorem body133 : Tryz.f133.body = some (bodyC Tryz.f133) := by kernel_rfl
theorem fn133 : Tryz.prog.funcs[133]? = some Tryz.f133 := by kernel_rfl
theorem nt133 : Tryz.f133.ntmps = 26 := by kernel_rfl
theorem rs133 : Tryz.f133.results.toList = [.tmp 6, .tmp 7] := by kernel_rfl
theorem body134 : Tryz.f134.body = some (bodyC Tryz.f134) := by kernel_rfl
theorem fn134 : Tryz.prog.funcs[134]? = some Tryz.f134 := by kernel_rfl
theorem nt134 : Tryz.f134.ntmps = 45 := by kernel_rfl
theorem rs134 : Tryz.f134.results.toList = [.tmp 8, .tmp 9] := by kernel_rfl
theorem body156 : Tryz.f156.body = some (bodyC Tryz.f156) := by kernel_rfl
theorem fn156 : Tryz.prog.funcs[156]? = some Tryz.f156 := by kernel_rfl
theorem nt156 : Tryz.f156.ntmps = 31 := by kernel_rfl
theorem rs156 : Tryz.f156.results.toList = [.tmp 6, .tmp 7] := by kernel_rfl
theorem body157 : Tryz.f157.body = some (bodyC Tryz.f157) := by kernel_rfl
theorem fn157 : Tryz.prog.funcs[157]? = some Tryz.f157 := by kernel_rfl
theorem nt157 : Tryz.f157.ntmps = 46 := by kernel_rfl
theorem rs157 : Tryz.f157.results.toList = [.tmp 8, .tmp 9] := by kernel_rfl
theorem body99 : Tryz.f99.body = some (bodyC Tryz.f99) := by kernel_rfl
theorem fn99 : Tryz.prog.funcs[99]? = some Tryz.f99 := by kernel_rfl
theorem nt99 : Tryz.f99.ntmps = 22 := by kernel_rfl
theorem rs99 : Tryz.f99.results.toList = [.tmp 4] := by kernel_rfl
theorem body26 : Tryz.f26.body = some (bodyC Tryz.f26) := by kernel_rfl
theorem fn26 : Tryz.prog.funcs[26]? = some Tryz.f26 := by kernel_rfl
theorem nt26 : Tryz.f26.ntmps = 12 := by kernel_rfl
theorem rs26 : Tryz.f26.results.toList = [.cell 6 26] := by kernel_rfl
theorem body41 : Tryz.f41.body = some (bodyC Tryz.f41) := by kernel_rfl
theorem fn41 : Tryz.prog.funcs[41]? = some Tryz.f41 := by kernel_rfl
theorem nt41 : Tryz.f41.ntmps = 9 := by kernel_rfl
theorem rs41 : Tryz.f41.results.toList = [.tmp 4] := by kernel_rfl

theorem clamp_range {x : Nat} (hx : x < 2 ^ 64) : 1 ≤ clampN x ∧ clampN x ≤ 64 := by
  unfold clampN
  have key : ∀ y, y < 2 ^ 64 → 1 ≤ y → y < 2 ^ 63 → 1 ≤ bi (nble (biased 3 y) 9223372036854775872) y 64 ∧ bi (nble (biased 3 y) 9223372036854775872) y 64 ≤ 64 := by
    intro y hy h1 h2
    rw [biased3s h2]
    by_cases h : y + 2 ^ 63 ≤ 9223372036854775872
    · rw [nble_t h, bi_true]; omega
    · rw [nble_f h, bi_false]; omega
  by_cases h : biased 3 x ≤ 9223372036854775809
  · rw [nble_t h, bi_true]
    exact key 1 (by omega) (by omega) (by omega)
  · rw [nble_f h, bi_false]
    rw [biased3] at h
    exact key x hx (by omega) (by omega)
noncomputable section
def maskN (x : Nat) : Nat := 2 ^ clampN x - 1
def cutN (w x : Nat) : Nat := x % 2 ^ clampN w
def leafR (x : Nat) : Bool := isS x [1, 2, 24, 25]
/-- the width of a leaf -/
def lfP (x y z : Nat) : Bool := bi (insN y) (bi (nbeq x 2) (bi (nbeq y 0) true (nbeq (z / 2 ^ y) 0)) true) false
/-- the width of extract, zext, sext -/
def rsP (x y z o : Nat) : Bool := bi (nble 9223372036854775809 (biased 3 y)) (bi (nble (biased 3 y) 9223372036854775872) (bi (nble 9223372036854775809 (biased 3 o)) (bi (nbeq x 21) (bi (nble (biased 3 y) (biased 3 o)) (nble z (o - y)) false) (nble (biased 3 o) (biased 3 y))) false) false) false
end
theorem sub64 {c : Nat} (h : c ≤ 64) : gt2 (fun a b => ((a.add (kMod (kCode IntKind.i64))).sub b).mod (kMod (kCode IntKind.i64))) 64 c = 64 - c := by
  rw [gt2_eq]
  have e : kMod (kCode IntKind.i64) = 2 ^ 64 := by decide +kernel
  rw [e]
  have h1 : ∀ a b m : Nat, Nat.mod (Nat.sub (Nat.add 64 a) b) m = (64 + a - b) % m := fun _ _ _ => rfl
  rw [h1]
  omega
theorem subN {o y : Nat} (h : y ≤ o) (ho : o < 2 ^ 64) : gt2 (fun a b => ((a.add (kMod (kCode IntKind.i64))).sub b).mod (kMod (kCode IntKind.i64))) o y = o - y := by
  rw [gt2_eq]
  have e : kMod (kCode IntKind.i64) = 2 ^ 64 := by decide +kernel
  rw [e]
  have h1 : ∀ a b m : Nat, Nat.mod (Nat.sub (Nat.add o a) b) m = (o + a - b) % m := fun _ _ _ => rfl
  rw [h1]
  omega
theorem mask_shr {c : Nat} (h1 : 1 ≤ c) (h2 : c ≤ 64) : (2 ^ 64 - 1) / 2 ^ (64 - c) = 2 ^ c - 1 := by
  have e : (2 : Nat) ^ 64 = 2 ^ (64 - c) * 2 ^ c := by rw [← Nat.pow_add]; congr 1; omega
  have hp : 0 < 2 ^ (64 - c) := Nat.two_pow_pos _
  have hq : 0 < 2 ^ c := Nat.two_pow_pos _
  rw [e]
  obtain ⟨q, hq2⟩ : ∃ q, 2 ^ c = q + 1 := ⟨2 ^ c - 1, by omega⟩
  rw [hq2]
  have : 2 ^ (64 - c) * (q + 1) - 1 = (2 ^ (64 - c) - 1) + 2 ^ (64 - c) * q := by rw [Nat.mul_add, Nat.mul_one]; omega
  rw [this, Nat.add_mul_div_left _ _ hp, Nat.div_eq_of_lt (by omega)]
  omega
theorem pure82 (x : Nat) (hx : x < 2 ^ 64) : PureAt Tryz.prog 82 [i64 x] (u64 (maskN x)) := by
  refine pure_fn mixed globs fn82 body82 nt82 rs82 RB_ok (fun _ => none) [23] 0 ((s82 _ x).trans ?_)
  obtain ⟨h1, h2⟩ := clamp_range hx
  have p := okN_one.2 (pure130 x)
  simp only [i64] at p
  rw [p, sub64 h2, nble_f (show ¬ 9223372036854775808 ≤ 64 - clampN x by omega)]
  have := shr_mod (x := 18446744073709551615) (y := 64 - clampN x) (by omega) (by omega)
  rw [this]
  have e := mask_shr h1 h2
  have e2 : (18446744073709551615 : Nat) = 2 ^ 64 - 1 := by decide
  rw [e2, e]
  rfl
noncomputable section
def NtD : Nat → Option Native := ntL [(82, natP Tryz.prog 82 [3] fun l => u64 (maskN (nthL l 0).p))]
def RD : Rec := evN Tryz.prog NtD (fun _ => false) 2
end
theorem RD_ok : RecOk Tryz.prog RD := evN_ok mixed (ntL_cons ntL_nil) noGor 2
theorem s41 (J : Jmp) (x y : Nat) : (compY Tryz.prog 9 (fun _ => none) (finY Tryz.prog [.tmp 4] [23]) J [] (bodyC Tryz.f41) (finY Tryz.prog [.tmp 4] [23]) []).run RD (setArgs 0 [i64 x, u64 y] noFr) (baseH Tryz.prog) =
  (bi (nbeq (okN (PureAt Tryz.prog 82 [i64 x] (u64 (maskN x)))) 1) (ansY (u64 (gt2 (fun a b => a.land b) y (maskN x)))) (failR 301)) := by kernel_rfl
theorem pure41 (x y : Nat) (hx : x < 2 ^ 64) : PureAt Tryz.prog 41 [i64 x, u64 y] (u64 (cutN x y)) := by
  refine pure_fn mixed globs fn41 body41 nt41 rs41 RD_ok (fun _ => none) [23] 0 ((s41 _ x y).trans ?_)
  rw [okN_one.2 (pure82 x hx), gt2_eq]
  have : Nat.land y (maskN x) = cutN x y := Nat.and_two_pow_sub_one_eq_mod _ _
  rw [this]
  rfl
theorem pure155 (x : Nat) : PureAt Tryz.prog 155 [i64 x] (bV (leafR x)) := by
  refine pure_fn mixed globs fn155 body155 nt155 rs155 RB_ok (fun _ => none) [4] 0 ((s155 _ x).trans ?_)
  exact okN_bi (pure158 x 1 [1, 2, 24, 25] (by decide)) _ _
theorem big_lt {y : Nat} (h : nble (biased 3 y) 9223372036854775808 = false) (hy : y < 2 ^ 64) : y < 2 ^ 63 ∧ y ≠ 0 := by
  have h' : ¬ biased 3 y ≤ 9223372036854775808 := fun hh => by rw [nble_t hh] at h; cases h
  rw [biased3] at h'
  omega
theorem ins_iff {y : Nat} (hy : y < 2 ^ 64) : insN y = decide (y ≤ 64) := by
  unfold insN
  rw [nble_dec, nble_dec, biased3, Bool.eq_iff_iff, bi_and, decide_eq_true_eq, decide_eq_true_eq, decide_eq_true_eq]
  omega
theorem shr_z {z y : Nat} (hy : y ≤ 64) (hz : z < 2 ^ 64) : shrN 7 z y = z / 2 ^ y := by
  by_cases h : y = 64
  · subst h
    unfold shrN
    rw [gt2_eq]
    have e1 : isNeg 7 z = false := by
      unfold isNeg
      have e : kHalf 7 = 2 ^ 64 := by decide +kernel
      rw [e]; exact nble_f (by omega)
    have e2 : nble (kBits 7) 64 = true := by decide +kernel
    rw [e1, bi_false, e2, bi_true]
    exact (Nat.div_eq_of_lt hz).symm
  · exact shr_mod (by omega) hz
theorem y0_iff {y : Nat} (hy : y ≤ 64) : nble (biased 3 y) 9223372036854775808 = nbeq y 0 := by
  rw [nble_dec, nbeq_dec, biased3, decide_eq_decide]
  omega
theorem pure133 (x y z : Nat) (hy : y < 2 ^ 64) (hz : z < 2 ^ 64) : PureAt Tryz.prog 133 [i64 x, i64 y, u64 z] (tupV [i64 (bi (lfP x y z) y 0), i64 (bi (lfP x y z) 0 3)]) := by
  refine pure_fn mixed globs fn133 body133 nt133 rs133 RB_ok (fun _ => none) [3, 31] 0 ((s133 _ x y z).trans ?_)
  have p := okN_one.2 (pure132 y)
  simp only [i64, bV, mk1] at p
  rw [p]
  unfold lfP
  have hb0 : ∀ (c : Bool) (α : Type) (a b : α), bi (nbeq (Nat.sub 1 (bi c 1 0)) 0) a b = bi c a b := fun c α a b => by cases c <;> rfl
  simp only [n11, bi_tt, hb0, bl_bi]
  cases hi : insN y
  · rfl
  · rw [ins_iff hy, decide_eq_true_eq] at hi
    rw [y0_iff hi, shr_z hi hz, nble_f (show ¬ 9223372036854775808 ≤ y by omega)]
    cases nbeq x 2 <;> cases nbeq y 0 <;> cases nbeq (z / 2 ^ y) 0 <;> rfl
theorem shl_bit {b i : Nat} (hb : b < 2) (hi : i < 64) : shlN 7 b i = 2 ^ i * b := by
  unfold shlN
  rw [gt2_eq]
  have e2 : kBits 7 = 64 := by decide +kernel
  have e : kMod 7 = 2 ^ 64 := by decide +kernel
  rw [e2, nble_f (by omega), bi_false, e]
  have h1 : Nat.shiftLeft b i = b * 2 ^ i := Nat.shiftLeft_eq b i
  rw [h1]
  have h2 : b * 2 ^ i < 2 ^ 64 := by
    have : 2 ^ i ≤ 2 ^ 63 := Nat.pow_le_pow_right (by omega) (by omega)
    have : b * 2 ^ i ≤ 1 * 2 ^ 63 := Nat.mul_le_mul (by omega) this
    omega
  show b * 2 ^ i % 2 ^ 64 = _
  rw [Nat.mod_eq_of_lt h2, Nat.mul_comm]
theorem pure156 (x y z : Nat) (hy : y < 2 ^ 64) (hz : z < 2 ^ 64) : PureAt Tryz.prog 156 [i64 x, i64 y, u64 z] (tupV [i64 (bi (lfP x y z) y 0), i64 (bi (lfP x y z) 0 3)]) := by
  refine pure_fn mixed globs fn156 body156 nt156 rs156 RB_ok (fun _ => none) [3, 31] 0 ((s156 _ x y z).trans ?_)
  have p := okN_one.2 (pure154 y)
  simp only [i64, bV, mk1] at p
  rw [p]
  unfold lfP
  have hb0 : ∀ (c : Bool) (α : Type) (a b : α), bi (nbeq (Nat.sub 1 (bi c 1 0)) 0) a b = bi c a b := fun c α a b => by cases c <;> rfl
  simp only [n11, bi_tt, hb0, bl_bi]
  cases hi : insN y
  · rfl
  · rw [ins_iff hy, decide_eq_true_eq] at hi
    have e64 : nble 9223372036854775872 (biased 3 y) = nbeq y 64 := by
      rw [nble_dec, nbeq_dec, biased3, decide_eq_decide]; omega
    rw [y0_iff hi, e64, cnv_mod y hy, nble_f (show ¬ 18446744073709551616 ≤ y by omega)]
    by_cases h64 : y = 64
    · subst h64
      have ez : z / 2 ^ 64 = 0 := Nat.div_eq_of_lt hz
      rw [ez]
      cases nbeq x 2 <;> rfl
    · have es : shlN 7 1 y = 2 ^ y := by rw [shl_bit (by omega) (by omega), Nat.mul_one]
      have e7 : ∀ x, x < 2 ^ 64 → biased 7 x = x := by
        intro x hx
        have u : biased 7 x = (x + 2 ^ 64) % 2 ^ 64 := gt_eq _ x
        rw [u]; omega
      have h2 : 2 ^ y < 2 ^ 64 := Nat.pow_lt_pow_right (by omega) (by omega)
      have ed : nble (2 ^ y) z = nb (nbeq (z / 2 ^ y) 0) := by
        rw [nble_dec, nbeq_dec]
        by_cases h : 2 ^ y ≤ z
        · have : z / 2 ^ y ≠ 0 := by
            have := Nat.div_pos h (Nat.two_pow_pos y); omega
          rw [decide_eq_true h, decide_eq_false this]; rfl
        · rw [decide_eq_false h, Nat.div_eq_of_lt (by omega)]; rfl
      rw [es, e7 _ h2, e7 _ hz, ed, beq_false.2 h64]
      cases nbeq x 2 <;> cases nbeq y 0 <;> cases nbeq (z / 2 ^ y) 0 <;> rfl
theorem ins1 {y : Nat} (h : insN y = false) : bi (nble 9223372036854775809 (biased 3 y)) (nble (biased 3 y) 9223372036854775872) false = false := by
  unfold insN at h
  rw [← Bool.not_eq_true, bi_and, ble_true, ble_true] at h ⊢
  omega
theorem ins2 {y : Nat} (h : insN y = true) : nble (biased 3 y) 9223372036854775872 = true := by
  unfold insN at h
  exact (bi_and.1 h).2
theorem rs_sub {y o z : Nat} (h1 : nble 9223372036854775809 (biased 3 y) = true) (h2 : nble (biased 3 y) (biased 3 o) = true) (hy : y < 2 ^ 64) (ho : o < 2 ^ 64) (hz : z < 2 ^ 64) : nble (biased 7 z) (biased 7 (cnvN 3 7 (gt2 (fun a b => ((a.add (kMod (kCode IntKind.i64))).sub b).mod (kMod (kCode IntKind.i64))) o y))) = nble z (o - y) := by
  have h1 := ble_true.1 h1
  have h2 := ble_true.1 h2
  rw [biased3] at h1 h2
  rw [biased3] at h2
  have hyo : y ≤ o := by omega
  rw [subN hyo ho, cnv_mod _ (by omega)]
  have b7 : ∀ x, x < 2 ^ 64 → biased 7 x = x := by
    intro x hx
    have u : biased 7 x = (x + 2 ^ 64) % 2 ^ 64 := gt_eq _ x
    rw [u]; omega
  rw [b7 _ hz, b7 _ (by omega)]
theorem pure134 (x y z o : Nat) (hy : y < 2 ^ 64) (hz : z < 2 ^ 64) (ho : o < 2 ^ 64) : PureAt Tryz.prog 134 [i64 x, i64 y, u64 z, i64 o] (tupV [i64 (bi (rsP x y z o) y 0), i64 (bi (rsP x y z o) 0 3)]) := by
  refine pure_fn mixed globs fn134 body134 nt134 rs134 RB_ok (fun _ => none) [3, 31] 0 ((s134 _ x y z o).trans ?_)
  unfold rsP
  have hnb : ∀ (c : Bool) (α : Type) (a b : α), bi (nbeq (bi (nb c) 1 0) 0) a b = bi c a b := fun c α a b => by cases c <;> rfl
  have hnb1 : ∀ (c : Bool) (α : Type) (a b : α), bi (nbeq (bi (nb c) 1 0) 1) a b = bi c b a := fun c α a b => by cases c <;> rfl
  simp only [hnb, hnb1, bl_bi]
  cases h1 : nble 9223372036854775809 (biased 3 y)
  · rfl
  cases nble (biased 3 y) 9223372036854775872
  · rfl
  cases nble 9223372036854775809 (biased 3 o)
  · rfl
  cases nbeq x 21
  · cases nble (biased 3 o) (biased 3 y) <;> rfl
  cases h2 : nble (biased 3 y) (biased 3 o)
  · rfl
  rw [rs_sub h1 h2 hy ho hz]
  cases nble z (o - y) <;> rfl
theorem pure157 (x y z o : Nat) (hy : y < 2 ^ 64) (hz : z < 2 ^ 64) (ho : o < 2 ^ 64) : PureAt Tryz.prog 157 [i64 x, i64 y, u64 z, i64 o] (tupV [i64 (bi (rsP x y z o) y 0), i64 (bi (rsP x y z o) 0 3)]) := by
  refine pure_fn mixed globs fn157 body157 nt157 rs157 RB_ok (fun _ => none) [3, 31] 0 ((s157 _ x y z o).trans ?_)
  have p := okN_one.2 (pure154 y)
  simp only [i64, bV, mk1] at p
  rw [p]
  have hb0 : ∀ (c : Bool) (α : Type) (a b : α), bi (nbeq (Nat.sub 1 (bi c 1 0)) 0) a b = bi c a b := fun c α a b => by cases c <;> rfl
  have hnb : ∀ (c : Bool) (α : Type) (a b : α), bi (nbeq (bi (nb c) 1 0) 0) a b = bi c a b := fun c α a b => by cases c <;> rfl
  have hnb1 : ∀ (c : Bool) (α : Type) (a b : α), bi (nbeq (bi (nb c) 1 0) 1) a b = bi c b a := fun c α a b => by cases c <;> rfl
  simp only [n11, bi_tt, hb0, hnb, hnb1, bl_bi]
  cases hi : insN y
  · have e := ins1 hi
    have : rsP x y z o = false := by
      unfold rsP
      cases h1 : nble 9223372036854775809 (biased 3 y)
      · rfl
      · rw [h1, bi_true] at e
        rw [e]; rfl
    rw [this]; rfl
  · unfold rsP
    rw [ins2 hi]
    cases h1 : nble 9223372036854775809 (biased 3 y)
    · rfl
    cases nble 9223372036854775809 (biased 3 o)
    · rfl
    cases h21 : nbeq x 21
    · cases nble (biased 3 o) (biased 3 y) <;> rfl
    cases h2 : nble (biased 3 y) (biased 3 o)
    · rfl
    rw [rs_sub h1 h2 hy ho hz]
    cases nble z (o - y) <;> rfl
theorem pure26 (x : Nat) (a b : Tm) : PureAt Tryz.prog 26 [i64 x, tmA a, tmA b] (tmA (.mk x 1 0 0 0 1 [a, b])) := by
  rw [tmA_mk]
  obtain ⟨ao, aw, av, aq, an, ap, al⟩ := a
  obtain ⟨bo, bw, bv, bq, bn, bp, bl⟩ := b
  rw [List.map_cons, List.map_cons, List.map_nil, tmA_mk, tmA_mk]
  exact pure_fn mixed globs fn26 body26 nt26 rs26 R0_ok (fun _ => none) [26] 0 (s26 _ x ao aw av aq an ap bo bw bv bq bn bp _ _)
theorem loop99 (y n : Nat) (hy : y < 2 ^ 64) (hn : n ≤ 64) : ∀ k i, i + k = n → jmpN Tryz.prog 22 lab99 (baseH Tryz.prog) RB (finY Tryz.prog [.tmp 4] [23]) (bodyC Tryz.f99) (k + 1) [0,0,1,0,1,1] [u64 y, u64 (y % 2 ^ i), i64 n, i64 i] = ansY (u64 (y % 2 ^ n)) := by
  intro k
  induction k with
  | zero =>
    intro i hi
    have e : i = n := by omega
    subst e
    have hx : i < 2 ^ 63 := by omega
    rw [jmpN_succ, l99]
    simp only [bl_bi, n11, n01, biased_le hx hx, Nat.le_refl, decide_true, nb_t, bi_ff, mk_u64]
  | succ k ih =>
    intro i hi
    have hi63 : i < 2 ^ 63 := by omega
    have hn63 : n < 2 ^ 63 := by omega
    have p := okN_one.2 (pure153 y i hy (by omega))
    have eb : y / 2 ^ i % 2 = bitN y i := by unfold bitN; rw [gt2_eq]
    rw [eb] at p
    simp only [i64, u64] at p
    rw [jmpN_succ, l99, p]
    simp only [bl_bi, n11, n01, biased_le hn63 hi63, show ¬ n ≤ i by omega, decide_false, nb_f, bi_tt, succ_mod hi63, cnv_mod i (by omega), nble_f (show ¬ 18446744073709551616 ≤ i by omega), bi_ff, mk_u64, mk_i64]
    have hbl : bitN y i < 2 := by rw [← eb]; exact Nat.mod_lt _ (by omega)
    rw [shl_bit hbl (by omega), gt2_eq]
    have e2 : Nat.lor (y % 2 ^ i) (2 ^ i * bitN y i) = y % 2 ^ (i + 1) := by
      show y % 2 ^ i ||| 2 ^ i * bitN y i = _
      rw [Nat.or_comm, ← Nat.two_pow_add_eq_or_of_lt (Nat.mod_lt _ (Nat.two_pow_pos i)), Nat.pow_succ, Nat.mod_mul, eb, Nat.add_comm]
    rw [e2]
    exact ih (i + 1) (by omega)
theorem pure99 (x y : Nat) (hx : x < 2 ^ 64) (hy : y < 2 ^ 64) : PureAt Tryz.prog 99 [i64 x, u64 y] (u64 (cutN x y)) := by
  obtain ⟨h1, h2⟩ := clamp_range hx
  have h := loop99 y (clampN x) hy h2 (clampN x) 0 (by omega)
  rw [Nat.pow_zero, Nat.mod_one] at h
  refine pure_fn mixed globs fn99 body99 nt99 rs99 RB_ok lab99 [23] (clampN x + 1) ((s99 _ x y).trans ?_)
  exact (okN_bi (pure152 x) _ _).trans h
end Go.Eng
namespace Go.Eng
open Go.RowKit Go.Proofs
theorem s28 (J : Jmp) (to tw tv tq tn tp d n : Nat) (tl : List AV) : (compY Tryz.prog 37 lab28 (finY Tryz.prog [.tmp 6] [3]) J [] (bodyC Tryz.f28) (finY Tryz.prog [.tmp 6] [3]) []).run RC (setArgs 0 [tmV to tw tv tq tn tp tl, i64 d, i64 n] noFr) (baseH Tryz.prog) =
  (bi (nbeq (bi (nb (nble 9223372036854775809 (biased 3 d))) 1 0) 0)
    (bi (nbeq (bi (nb (nble 9223372036854775809 (biased 3 n))) 1 0) 1)
      (ansY { tag := 3, p := 18446744073709551615, q := 0, r := 0, s := 0, cs := [] })
      (J [0, 0, 1, 0, 1, 1, 1] [{ tag := 3, p := d, q := 0, r := 0, s := 0, cs := [] }, { tag := 3, p := gt2 (fun a b => ((a.add (kMod (kCode IntKind.i64))).sub b).mod (kMod (kCode IntKind.i64))) n 1, q := 0, r := 0, s := 0, cs := [] }, { tag := 16, p := 0, q := 0, r := 1, s := 0, cs := [{ tag := 3, p := to, q := 0, r := 0, s := 0, cs := [] }, { tag := 3, p := tw, q := 0, r := 0, s := 0, cs := [] }, { tag := 7, p := tv, q := 0, r := 0, s := 0, cs := [] }, { tag := 9, p := tn, q := tq, r := 0, s := 0, cs := [] }, { tag := 24, p := tp, q := 0, r := 5, s := 0, cs := tl }] }, { tag := 3, p := 0, q := 0, r := 0, s := 0, cs := [] }]))
    (ansY { tag := 3, p := 18446744073709551615, q := 0, r := 0, s := 0, cs := [] })) := by kernel_rfl
theorem l28 (J : Jmp) (d n to tw tv tq tn tp i : Nat) (tl : List AV) : lblY Tryz.prog 37 lab28 (baseH Tryz.prog) RC (finY Tryz.prog [.tmp 6] [3]) (bodyC Tryz.f28) J [0,0,1,0,1,1,1] [i64 d, i64 n, bxD [i64 to, i64 tw, u64 tv, stA tq tn, slP tp 5 tl], i64 i] =
  (bi (nbeq (bi (nb (nble (biased 3 (lenL tl)) (biased 3 i))) 1 0) 1)
    (bi (nbeq (bi (nble 9223372036854775808 (biased 3 n)) 1 0) 1)
      (bi (nble i.succ (lenL tl))
        (bi (bi (tagIs 3 (nthL (bi (nbeq (nthL [nthL tl i] 0).1 15) (nthL [nthL tl i] 0).6 [nthL [nthL tl i] 0]) 0)) (bi (tagIs 3 (nthL (bi (nbeq (nthL [nthL tl i] 0).1 15) (nthL [nthL tl i] 0).6 [nthL [nthL tl i] 0]) (Nat.succ 0))) (bi (tagIs 7 (nthL (bi (nbeq (nthL [nthL tl i] 0).1 15) (nthL [nthL tl i] 0).6 [nthL [nthL tl i] 0]) (Nat.succ 0).succ)) (bi (tagIs 9 (nthL (bi (nbeq (nthL [nthL tl i] 0).1 15) (nthL [nthL tl i] 0).6 [nthL [nthL tl i] 0]) (Nat.succ 0).succ.succ)) (bi (tagIs 37 (nthL (bi (nbeq (nthL [nthL tl i] 0).1 15) (nthL [nthL tl i] 0).6 [nthL [nthL tl i] 0]) (Nat.succ 0).succ.succ.succ)) true false) false) false) false) false)
          (bi (nbeq (okN (PureAt Tryz.prog 28 [{ tag := 15, p := 0, q := 0, r := 0, s := 0, cs := [{ tag := 3, p := (nthL (bi (nbeq (nthL [nthL tl i] 0).1 15) (nthL [nthL tl i] 0).6 [nthL [nthL tl i] 0]) 0).2, q := 0, r := 0, s := 0, cs := [] }, { tag := 3, p := (nthL (bi (nbeq (nthL [nthL tl i] 0).1 15) (nthL [nthL tl i] 0).6 [nthL [nthL tl i] 0]) (Nat.succ 0)).2, q := 0, r := 0, s := 0, cs := [] }, { tag := 7, p := (nthL (bi (nbeq (nthL [nthL tl i] 0).1 15) (nthL [nthL tl i] 0).6 [nthL [nthL tl i] 0]) (Nat.succ 0).succ).2, q := 0, r := 0, s := 0, cs := [] }, { tag := 9, p := (nthL (bi (nbeq (nthL [nthL tl i] 0).1 15) (nthL [nthL tl i] 0).6 [nthL [nthL tl i] 0]) (Nat.succ 0).succ.succ).2, q := (nthL (bi (nbeq (nthL [nthL tl i] 0).1 15) (nthL [nthL tl i] 0).6 [nthL [nthL tl i] 0]) (Nat.succ 0).succ.succ).3, r := 0, s := 0, cs := [] }, { tag := 24, p := (nthL (bi (nbeq (nthL [nthL tl i] 0).1 15) (nthL [nthL tl i] 0).6 [nthL [nthL tl i] 0]) (Nat.succ 0).succ.succ.succ).2, q := 0, r := 5, s := 0, cs := (nthL (bi (nbeq (nthL [nthL tl i] 0).1 15) (nthL [nthL tl i] 0).6 [nthL [nthL tl i] 0]) (Nat.succ 0).succ.succ.succ).6 }] }, { tag := 3, p := gt2 (fun a b => ((a.add (kMod (kCode IntKind.i64))).sub b).mod (kMod (kCode IntKind.i64))) d 1, q := 0, r := 0, s := 0, cs := [] }, { tag := 3, p := n, q := 0, r := 0, s := 0, cs := [] }] { tag := 3, p := cntN (unTm { tag := 15, p := 0, q := 0, r := 0, s := 0, cs := [{ tag := 3, p := (nthL (bi (nbeq (nthL [nthL tl i] 0).1 15) (nthL [nthL tl i] 0).6 [nthL [nthL tl i] 0]) 0).2, q := 0, r := 0, s := 0, cs := [] }, { tag := 3, p := (nthL (bi (nbeq (nthL [nthL tl i] 0).1 15) (nthL [nthL tl i] 0).6 [nthL [nthL tl i] 0]) (Nat.succ 0)).2, q := 0, r := 0, s := 0, cs := [] }, { tag := 7, p := (nthL (bi (nbeq (nthL [nthL tl i] 0).1 15) (nthL [nthL tl i] 0).6 [nthL [nthL tl i] 0]) (Nat.succ 0).succ).2, q := 0, r := 0, s := 0, cs := [] }, { tag := 9, p := (nthL (bi (nbeq (nthL [nthL tl i] 0).1 15) (nthL [nthL tl i] 0).6 [nthL [nthL tl i] 0]) (Nat.succ 0).succ.succ).2, q := (nthL (bi (nbeq (nthL [nthL tl i] 0).1 15) (nthL [nthL tl i] 0).6 [nthL [nthL tl i] 0]) (Nat.succ 0).succ.succ).3, r := 0, s := 0, cs := [] }, { tag := 24, p := (nthL (bi (nbeq (nthL [nthL tl i] 0).1 15) (nthL [nthL tl i] 0).6 [nthL [nthL tl i] 0]) (Nat.succ 0).succ.succ.succ).2, q := 0, r := 5, s := 0, cs := (nthL (bi (nbeq (nthL [nthL tl i] 0).1 15) (nthL [nthL tl i] 0).6 [nthL [nthL tl i] 0]) (Nat.succ 0).succ.succ.succ).6 }] }) (gt2 (fun a b => ((a.add (kMod (kCode IntKind.i64))).sub b).mod (kMod (kCode IntKind.i64))) d 1) n, q := 0, r := 0, s := 0, cs := [] })) 1)
            (J [0, 0, 1, 0, 1, 1, 1] [{ tag := 3, p := d, q := 0, r := 0, s := 0, cs := [] }, { tag := 3, p := cntN (unTm { tag := 15, p := 0, q := 0, r := 0, s := 0, cs := [{ tag := 3, p := (nthL (bi (nbeq (nthL [nthL tl i] 0).1 15) (nthL [nthL tl i] 0).6 [nthL [nthL tl i] 0]) 0).2, q := 0, r := 0, s := 0, cs := [] }, { tag := 3, p := (nthL (bi (nbeq (nthL [nthL tl i] 0).1 15) (nthL [nthL tl i] 0).6 [nthL [nthL tl i] 0]) (Nat.succ 0)).2, q := 0, r := 0, s := 0, cs := [] }, { tag := 7, p := (nthL (bi (nbeq (nthL [nthL tl i] 0).1 15) (nthL [nthL tl i] 0).6 [nthL [nthL tl i] 0]) (Nat.succ 0).succ).2, q := 0, r := 0, s := 0, cs := [] }, { tag := 9, p := (nthL (bi (nbeq (nthL [nthL tl i] 0).1 15) (nthL [nthL tl i] 0).6 [nthL [nthL tl i] 0]) (Nat.succ 0).succ.succ).2, q := (nthL (bi (nbeq (nthL [nthL tl i] 0).1 15) (nthL [nthL tl i] 0).6 [nthL [nthL tl i] 0]) (Nat.succ 0).succ.succ).3, r := 0, s := 0, cs := [] }, { tag := 24, p := (nthL (bi (nbeq (nthL [nthL tl i] 0).1 15) (nthL [nthL tl i] 0).6 [nthL [nthL tl i] 0]) (Nat.succ 0).succ.succ.succ).2, q := 0, r := 5, s := 0, cs := (nthL (bi (nbeq (nthL [nthL tl i] 0).1 15) (nthL [nthL tl i] 0).6 [nthL [nthL tl i] 0]) (Nat.succ 0).succ.succ.succ).6 }] }) (gt2 (fun a b => ((a.add (kMod (kCode IntKind.i64))).sub b).mod (kMod (kCode IntKind.i64))) d 1) n, q := 0, r := 0, s := 0, cs := [] }, { tag := 16, p := 0, q := 0, r := 1, s := 0, cs := [{ tag := 3, p := to, q := 0, r := 0, s := 0, cs := [] }, { tag := 3, p := tw, q := 0, r := 0, s := 0, cs := [] }, { tag := 7, p := tv, q := 0, r := 0, s := 0, cs := [] }, { tag := 9, p := tn, q := tq, r := 0, s := 0, cs := [] }, { tag := 24, p := tp, q := 0, r := 5, s := 0, cs := tl }] }, { tag := 3, p := gt2 (fun a b => (a.add b).mod (kMod (kCode IntKind.i64))) i 1, q := 0, r := 0, s := 0, cs := [] }])
            (failR 301))
          (failR 201))
        (failR 205))
      (ansY { tag := 3, p := n, q := 0, r := 0, s := 0, cs := [] }))
    (ansY { tag := 3, p := n, q := 0, r := 0, s := 0, cs := [] })) := by kernel_rfl
theorem s25 (J : Jmp) (ap bp : Nat) (al bl : List AV) : (compY Tryz.prog 27 lab25 (finY Tryz.prog [.tmp 4] [4]) J [] (bodyC Tryz.f25) (finY Tryz.prog [.tmp 4] [4]) []).run RC (setArgs 0 [slP ap 5 al, slP bp 5 bl] noFr) (baseH Tryz.prog) =
  (bi (nbeq (bi (nb (nbeq (lenL al) (lenL bl))) 1 0) 1)
    (ansY { tag := 8, p := 0, q := 0, r := 0, s := 0, cs := [] })
    (J [0, 0, 1, 0, 1, 1] [{ tag := 24, p := ap, q := 0, r := 5, s := 0, cs := al }, { tag := 24, p := bp, q := 0, r := 5, s := 0, cs := bl }, { tag := 3, p := 0, q := 0, r := 0, s := 0, cs := [] }])) := by kernel_rfl
theorem l25 (J : Jmp) (ap bp i : Nat) (al bl : List AV) : lblY Tryz.prog 27 lab25 (baseH Tryz.prog) RC (finY Tryz.prog [.tmp 4] [4]) (bodyC Tryz.f25) J [0,0,1,0,1,1] [slP ap 5 al, slP bp 5 bl, i64 i] =
  (bi (nbeq (bi (nb (nble (biased 3 (lenL al)) (biased 3 i))) 1 0) 1)
    (bi (nble i.succ (lenL al))
      (bi (bi (tagIs 3 (nthL (bi (nbeq (nthL [nthL al i] 0).1 15) (nthL [nthL al i] 0).6 [nthL [nthL al i] 0]) 0)) (bi (tagIs 3 (nthL (bi (nbeq (nthL [nthL al i] 0).1 15) (nthL [nthL al i] 0).6 [nthL [nthL al i] 0]) (Nat.succ 0))) (bi (tagIs 7 (nthL (bi (nbeq (nthL [nthL al i] 0).1 15) (nthL [nthL al i] 0).6 [nthL [nthL al i] 0]) (Nat.succ 0).succ)) (bi (tagIs 9 (nthL (bi (nbeq (nthL [nthL al i] 0).1 15) (nthL [nthL al i] 0).6 [nthL [nthL al i] 0]) (Nat.succ 0).succ.succ)) (bi (tagIs 37 (nthL (bi (nbeq (nthL [nthL al i] 0).1 15) (nthL [nthL al i] 0).6 [nthL [nthL al i] 0]) (Nat.succ 0).succ.succ.succ)) true false) false) false) false) false)
        (bi (nble i.succ (lenL bl))
          (bi (bi (tagIs 3 (nthL (bi (nbeq (nthL [nthL bl i] 0).1 15) (nthL [nthL bl i] 0).6 [nthL [nthL bl i] 0]) 0)) (bi (tagIs 3 (nthL (bi (nbeq (nthL [nthL bl i] 0).1 15) (nthL [nthL bl i] 0).6 [nthL [nthL bl i] 0]) (Nat.succ 0))) (bi (tagIs 7 (nthL (bi (nbeq (nthL [nthL bl i] 0).1 15) (nthL [nthL bl i] 0).6 [nthL [nthL bl i] 0]) (Nat.succ 0).succ)) (bi (tagIs 9 (nthL (bi (nbeq (nthL [nthL bl i] 0).1 15) (nthL [nthL bl i] 0).6 [nthL [nthL bl i] 0]) (Nat.succ 0).succ.succ)) (bi (tagIs 37 (nthL (bi (nbeq (nthL [nthL bl i] 0).1 15) (nthL [nthL bl i] 0).6 [nthL [nthL bl i] 0]) (Nat.succ 0).succ.succ.succ)) true false) false) false) false) false)
            (bi (nbeq (okN (PureAt Tryz.prog 8 [{ tag := 15, p := 0, q := 0, r := 0, s := 0, cs := [{ tag := 3, p := (nthL (bi (nbeq (nthL [nthL al i] 0).1 15) (nthL [nthL al i] 0).6 [nthL [nthL al i] 0]) 0).2, q := 0, r := 0, s := 0, cs := [] }, { tag := 3, p := (nthL (bi (nbeq (nthL [nthL al i] 0).1 15) (nthL [nthL al i] 0).6 [nthL [nthL al i] 0]) (Nat.succ 0)).2, q := 0, r := 0, s := 0, cs := [] }, { tag := 7, p := (nthL (bi (nbeq (nthL [nthL al i] 0).1 15) (nthL [nthL al i] 0).6 [nthL [nthL al i] 0]) (Nat.succ 0).succ).2, q := 0, r := 0, s := 0, cs := [] }, { tag := 9, p := (nthL (bi (nbeq (nthL [nthL al i] 0).1 15) (nthL [nthL al i] 0).6 [nthL [nthL al i] 0]) (Nat.succ 0).succ.succ).2, q := (nthL (bi (nbeq (nthL [nthL al i] 0).1 15) (nthL [nthL al i] 0).6 [nthL [nthL al i] 0]) (Nat.succ 0).succ.succ).3, r := 0, s := 0, cs := [] }, { tag := 24, p := (nthL (bi (nbeq (nthL [nthL al i] 0).1 15) (nthL [nthL al i] 0).6 [nthL [nthL al i] 0]) (Nat.succ 0).succ.succ.succ).2, q := 0, r := 5, s := 0, cs := (nthL (bi (nbeq (nthL [nthL al i] 0).1 15) (nthL [nthL al i] 0).6 [nthL [nthL al i] 0]) (Nat.succ 0).succ.succ.succ).6 }] }, { tag := 15, p := 0, q := 0, r := 0, s := 0, cs := [{ tag := 3, p := (nthL (bi (nbeq (nthL [nthL bl i] 0).1 15) (nthL [nthL bl i] 0).6 [nthL [nthL bl i] 0]) 0).2, q := 0, r := 0, s := 0, cs := [] }, { tag := 3, p := (nthL (bi (nbeq (nthL [nthL bl i] 0).1 15) (nthL [nthL bl i] 0).6 [nthL [nthL bl i] 0]) (Nat.succ 0)).2, q := 0, r := 0, s := 0, cs := [] }, { tag := 7, p := (nthL (bi (nbeq (nthL [nthL bl i] 0).1 15) (nthL [nthL bl i] 0).6 [nthL [nthL bl i] 0]) (Nat.succ 0).succ).2, q := 0, r := 0, s := 0, cs := [] }, { tag := 9, p := (nthL (bi (nbeq (nthL [nthL bl i] 0).1 15) (nthL [nthL bl i] 0).6 [nthL [nthL bl i] 0]) (Nat.succ 0).succ.succ).2, q := (nthL (bi (nbeq (nthL [nthL bl i] 0).1 15) (nthL [nthL bl i] 0).6 [nthL [nthL bl i] 0]) (Nat.succ 0).succ.succ).3, r := 0, s := 0, cs := [] }, { tag := 24, p := (nthL (bi (nbeq (nthL [nthL bl i] 0).1 15) (nthL [nthL bl i] 0).6 [nthL [nthL bl i] 0]) (Nat.succ 0).succ.succ.succ).2, q := 0, r := 5, s := 0, cs := (nthL (bi (nbeq (nthL [nthL bl i] 0).1 15) (nthL [nthL bl i] 0).6 [nthL [nthL bl i] 0]) (Nat.succ 0).succ.succ.succ).6 }] }] { tag := 8, p := bi (eqT (unTm { tag := 15, p := 0, q := 0, r := 0, s := 0, cs := [{ tag := 3, p := (nthL (bi (nbeq (nthL [nthL al i] 0).1 15) (nthL [nthL al i] 0).6 [nthL [nthL al i] 0]) 0).2, q := 0, r := 0, s := 0, cs := [] }, { tag := 3, p := (nthL (bi (nbeq (nthL [nthL al i] 0).1 15) (nthL [nthL al i] 0).6 [nthL [nthL al i] 0]) (Nat.succ 0)).2, q := 0, r := 0, s := 0, cs := [] }, { tag := 7, p := (nthL (bi (nbeq (nthL [nthL al i] 0).1 15) (nthL [nthL al i] 0).6 [nthL [nthL al i] 0]) (Nat.succ 0).succ).2, q := 0, r := 0, s := 0, cs := [] }, { tag := 9, p := (nthL (bi (nbeq (nthL [nthL al i] 0).1 15) (nthL [nthL al i] 0).6 [nthL [nthL al i] 0]) (Nat.succ 0).succ.succ).2, q := (nthL (bi (nbeq (nthL [nthL al i] 0).1 15) (nthL [nthL al i] 0).6 [nthL [nthL al i] 0]) (Nat.succ 0).succ.succ).3, r := 0, s := 0, cs := [] }, { tag := 24, p := (nthL (bi (nbeq (nthL [nthL al i] 0).1 15) (nthL [nthL al i] 0).6 [nthL [nthL al i] 0]) (Nat.succ 0).succ.succ.succ).2, q := 0, r := 5, s := 0, cs := (nthL (bi (nbeq (nthL [nthL al i] 0).1 15) (nthL [nthL al i] 0).6 [nthL [nthL al i] 0]) (Nat.succ 0).succ.succ.succ).6 }] }) (unTm { tag := 15, p := 0, q := 0, r := 0, s := 0, cs := [{ tag := 3, p := (nthL (bi (nbeq (nthL [nthL bl i] 0).1 15) (nthL [nthL bl i] 0).6 [nthL [nthL bl i] 0]) 0).2, q := 0, r := 0, s := 0, cs := [] }, { tag := 3, p := (nthL (bi (nbeq (nthL [nthL bl i] 0).1 15) (nthL [nthL bl i] 0).6 [nthL [nthL bl i] 0]) (Nat.succ 0)).2, q := 0, r := 0, s := 0, cs := [] }, { tag := 7, p := (nthL (bi (nbeq (nthL [nthL bl i] 0).1 15) (nthL [nthL bl i] 0).6 [nthL [nthL bl i] 0]) (Nat.succ 0).succ).2, q := 0, r := 0, s := 0, cs := [] }, { tag := 9, p := (nthL (bi (nbeq (nthL [nthL bl i] 0).1 15) (nthL [nthL bl i] 0).6 [nthL [nthL bl i] 0]) (Nat.succ 0).succ.succ).2, q := (nthL (bi (nbeq (nthL [nthL bl i] 0).1 15) (nthL [nthL bl i] 0).6 [nthL [nthL bl i] 0]) (Nat.succ 0).succ.succ).3, r := 0, s := 0, cs := [] }, { tag := 24, p := (nthL (bi (nbeq (nthL [nthL bl i] 0).1 15) (nthL [nthL bl i] 0).6 [nthL [nthL bl i] 0]) (Nat.succ 0).succ.succ.succ).2, q := 0, r := 5, s := 0, cs := (nthL (bi (nbeq (nthL [nthL bl i] 0).1 15) (nthL [nthL bl i] 0).6 [nthL [nthL bl i] 0]) (Nat.succ 0).succ.succ.succ).6 }] })) 1 0, q := 0, r := 0, s := 0, cs := [] })) 1)
              (bi (nbeq (Nat.sub 1 (bi (eqT (unTm { tag := 15, p := 0, q := 0, r := 0, s := 0, cs := [{ tag := 3, p := (nthL (bi (nbeq (nthL [nthL al i] 0).1 15) (nthL [nthL al i] 0).6 [nthL [nthL al i] 0]) 0).2, q := 0, r := 0, s := 0, cs := [] }, { tag := 3, p := (nthL (bi (nbeq (nthL [nthL al i] 0).1 15) (nthL [nthL al i] 0).6 [nthL [nthL al i] 0]) (Nat.succ 0)).2, q := 0, r := 0, s := 0, cs := [] }, { tag := 7, p := (nthL (bi (nbeq (nthL [nthL al i] 0).1 15) (nthL [nthL al i] 0).6 [nthL [nthL al i] 0]) (Nat.succ 0).succ).2, q := 0, r := 0, s := 0, cs := [] }, { tag := 9, p := (nthL (bi (nbeq (nthL [nthL al i] 0).1 15) (nthL [nthL al i] 0).6 [nthL [nthL al i] 0]) (Nat.succ 0).succ.succ).2, q := (nthL (bi (nbeq (nthL [nthL al i] 0).1 15) (nthL [nthL al i] 0).6 [nthL [nthL al i] 0]) (Nat.succ 0).succ.succ).3, r := 0, s := 0, cs := [] }, { tag := 24, p := (nthL (bi (nbeq (nthL [nthL al i] 0).1 15) (nthL [nthL al i] 0).6 [nthL [nthL al i] 0]) (Nat.succ 0).succ.succ.succ).2, q := 0, r := 5, s := 0, cs := (nthL (bi (nbeq (nthL [nthL al i] 0).1 15) (nthL [nthL al i] 0).6 [nthL [nthL al i] 0]) (Nat.succ 0).succ.succ.succ).6 }] }) (unTm { tag := 15, p := 0, q := 0, r := 0, s := 0, cs := [{ tag := 3, p := (nthL (bi (nbeq (nthL [nthL bl i] 0).1 15) (nthL [nthL bl i] 0).6 [nthL [nthL bl i] 0]) 0).2, q := 0, r := 0, s := 0, cs := [] }, { tag := 3, p := (nthL (bi (nbeq (nthL [nthL bl i] 0).1 15) (nthL [nthL bl i] 0).6 [nthL [nthL bl i] 0]) (Nat.succ 0)).2, q := 0, r := 0, s := 0, cs := [] }, { tag := 7, p := (nthL (bi (nbeq (nthL [nthL bl i] 0).1 15) (nthL [nthL bl i] 0).6 [nthL [nthL bl i] 0]) (Nat.succ 0).succ).2, q := 0, r := 0, s := 0, cs := [] }, { tag := 9, p := (nthL (bi (nbeq (nthL [nthL bl i] 0).1 15) (nthL [nthL bl i] 0).6 [nthL [nthL bl i] 0]) (Nat.succ 0).succ.succ).2, q := (nthL (bi (nbeq (nthL [nthL bl i] 0).1 15) (nthL [nthL bl i] 0).6 [nthL [nthL bl i] 0]) (Nat.succ 0).succ.succ).3, r := 0, s := 0, cs := [] }, { tag := 24, p := (nthL (bi (nbeq (nthL [nthL bl i] 0).1 15) (nthL [nthL bl i] 0).6 [nthL [nthL bl i] 0]) (Nat.succ 0).succ.succ.succ).2, q := 0, r := 5, s := 0, cs := (nthL (bi (nbeq (nthL [nthL bl i] 0).1 15) (nthL [nthL bl i] 0).6 [nthL [nthL bl i] 0]) (Nat.succ 0).succ.succ.succ).6 }] })) 1 0)) 1)
                (ansY { tag := 8, p := 0, q := 0, r := 0, s := 0, cs := [] })
                (J [0, 0, 1, 0, 1, 1] [{ tag := 24, p := ap, q := 0, r := 5, s := 0, cs := al }, { tag := 24, p := bp, q := 0, r := 5, s := 0, cs := bl }, { tag := 3, p := gt2 (fun a b => (a.add b).mod (kMod (kCode IntKind.i64))) i 1, q := 0, r := 0, s := 0, cs := [] }]))
              (failR 301))
            (failR 201))
          (failR 205))
        (failR 201))
      (failR 205))
    (ansY { tag := 8, p := 1, q := 0, r := 0, s := 0, cs := [] })) := by kernel_rfl
theorem s8 (J : Jmp) (ao aw av aq an ap bo bw bv bq bn bp : Nat) (al bl : List AV) : (compY Tryz.prog 38 (fun _ => none) (finY Tryz.prog [.tmp 4] [4]) J [] (bodyC Tryz.f8) (finY Tryz.prog [.tmp 4] [4]) []).run RC (setArgs 0 [tmV ao aw av aq an ap al, tmV bo bw bv bq bn bp bl] noFr) (baseH Tryz.prog) =
  (bi (nbeq (bi (nbeq ao bo) 1 0) 1)
    (bi (nbeq (bi (nbeq aw bw) 1 0) 1)
      (bi (nbeq (bi (nbeq av bv) 1 0) 1)
        (bi (nbeq (bi (bi (nbeq aq bq) (nbeq an bn) false) 1 0) 1)
          (bi (nbeq (okN (PureAt Tryz.prog 25 [{ tag := 24, p := ap, q := 0, r := 5, s := 0, cs := al }, { tag := 24, p := bp, q := 0, r := 5, s := 0, cs := bl }] { tag := 8, p := bi (eqTs (unTms al) (unTms bl)) 1 0, q := 0, r := 0, s := 0, cs := [] })) 1)
            (ansY { tag := 8, p := bi (eqTs (unTms al) (unTms bl)) 1 0, q := 0, r := 0, s := 0, cs := [] })
            (failR 301))
          (ansY { tag := 8, p := 0, q := 0, r := 0, s := 0, cs := [] }))
        (ansY { tag := 8, p := 0, q := 0, r := 0, s := 0, cs := [] }))
      (ansY { tag := 8, p := 0, q := 0, r := 0, s := 0, cs := [] }))
    (ansY { tag := 8, p := 0, q := 0, r := 0, s := 0, cs := [] })) := by kernel_rfl
theorem s23 (J : Jmp) (to tw tv tq tn tp : Nat) (tl : List AV) : (compY Tryz.prog 24 lab23 (finY Tryz.prog [.cell 2 26] [26]) J [] (bodyC Tryz.f23) (finY Tryz.prog [.cell 2 26] [26]) []).run RC (setArgs 0 [tmV to tw tv tq tn tp tl] noFr) (baseH Tryz.prog) =
  (J [0, 0, 1, 0, 1, 1, 1] [{ tag := 16, p := 0, q := 0, r := 1, s := 0, cs := [{ tag := 3, p := 0, q := 0, r := 0, s := 0, cs := [] }, { tag := 3, p := 0, q := 0, r := 0, s := 0, cs := [] }, { tag := 7, p := 0, q := 0, r := 0, s := 0, cs := [] }, { tag := 9, p := 0, q := 0, r := 0, s := 0, cs := [] }, { tag := 17, p := 1, q := 0, r := 0, s := 0, cs := [] }] }, { tag := 16, p := 0, q := 0, r := 1, s := 0, cs := [{ tag := 3, p := to, q := 0, r := 0, s := 0, cs := [] }, { tag := 3, p := tw, q := 0, r := 0, s := 0, cs := [] }, { tag := 7, p := tv, q := 0, r := 0, s := 0, cs := [] }, { tag := 9, p := tn, q := tq, r := 0, s := 0, cs := [] }, { tag := 16, p := 0, q := 0, r := 0, s := 0, cs := [] }] }, { tag := 24, p := tp, q := 0, r := 5, s := 0, cs := tl }, { tag := 3, p := lenL tl, q := 0, r := 0, s := 0, cs := [] }, { tag := 3, p := 0, q := 0, r := 0, s := 0, cs := [] }]) := by kernel_rfl
theorem l23 (J : Jmp) (oo ow ov oq on op tp n i : Nat) (ol tl : List AV) : lblY Tryz.prog 24 lab23 (baseH Tryz.prog) RC (finY Tryz.prog [.cell 2 26] [26]) (bodyC Tryz.f23) J [0,0,1,0,1,1,1] [bxD [i64 0, i64 0, u64 0, stA 0 0, mk1 17 1], bxD [i64 oo, i64 ow, u64 ov, stA oq on, lsD op ol], slP tp 5 tl, i64 n, i64 i] =
  (bi (nbeq (bi (nb (nble (biased 3 n) (biased 3 i))) 1 0) 1)
    (bi (nble i.succ (lenL tl))
      (bi (bi (tagIs 3 (nthL (bi (nbeq (nthL [nthL tl i] 0).1 15) (nthL [nthL tl i] 0).6 [nthL [nthL tl i] 0]) 0)) (bi (tagIs 3 (nthL (bi (nbeq (nthL [nthL tl i] 0).1 15) (nthL [nthL tl i] 0).6 [nthL [nthL tl i] 0]) (Nat.succ 0))) (bi (tagIs 7 (nthL (bi (nbeq (nthL [nthL tl i] 0).1 15) (nthL [nthL tl i] 0).6 [nthL [nthL tl i] 0]) (Nat.succ 0).succ)) (bi (tagIs 9 (nthL (bi (nbeq (nthL [nthL tl i] 0).1 15) (nthL [nthL tl i] 0).6 [nthL [nthL tl i] 0]) (Nat.succ 0).succ.succ)) (bi (tagIs 37 (nthL (bi (nbeq (nthL [nthL tl i] 0).1 15) (nthL [nthL tl i] 0).6 [nthL [nthL tl i] 0]) (Nat.succ 0).succ.succ.succ)) true false) false) false) false) false)
        (bi (nbeq (okN (PureAt Tryz.prog 23 [{ tag := 15, p := 0, q := 0, r := 0, s := 0, cs := [{ tag := 3, p := (nthL (bi (nbeq (nthL [nthL tl i] 0).1 15) (nthL [nthL tl i] 0).6 [nthL [nthL tl i] 0]) 0).2, q := 0, r := 0, s := 0, cs := [] }, { tag := 3, p := (nthL (bi (nbeq (nthL [nthL tl i] 0).1 15) (nthL [nthL tl i] 0).6 [nthL [nthL tl i] 0]) (Nat.succ 0)).2, q := 0, r := 0, s := 0, cs := [] }, { tag := 7, p := (nthL (bi (nbeq (nthL [nthL tl i] 0).1 15) (nthL [nthL tl i] 0).6 [nthL [nthL tl i] 0]) (Nat.succ 0).succ).2, q := 0, r := 0, s := 0, cs := [] }, { tag := 9, p := (nthL (bi (nbeq (nthL [nthL tl i] 0).1 15) (nthL [nthL tl i] 0).6 [nthL [nthL tl i] 0]) (Nat.succ 0).succ.succ).2, q := (nthL (bi (nbeq (nthL [nthL tl i] 0).1 15) (nthL [nthL tl i] 0).6 [nthL [nthL tl i] 0]) (Nat.succ 0).succ.succ).3, r := 0, s := 0, cs := [] }, { tag := 24, p := (nthL (bi (nbeq (nthL [nthL tl i] 0).1 15) (nthL [nthL tl i] 0).6 [nthL [nthL tl i] 0]) (Nat.succ 0).succ.succ.succ).2, q := 0, r := 5, s := 0, cs := (nthL (bi (nbeq (nthL [nthL tl i] 0).1 15) (nthL [nthL tl i] 0).6 [nthL [nthL tl i] 0]) (Nat.succ 0).succ.succ.succ).6 }] }] { tag := 15, p := 0, q := 0, r := 0, s := 0, cs := [{ tag := 3, p := (cpT (unTm { tag := 15, p := 0, q := 0, r := 0, s := 0, cs := [{ tag := 3, p := (nthL (bi (nbeq (nthL [nthL tl i] 0).1 15) (nthL [nthL tl i] 0).6 [nthL [nthL tl i] 0]) 0).2, q := 0, r := 0, s := 0, cs := [] }, { tag := 3, p := (nthL (bi (nbeq (nthL [nthL tl i] 0).1 15) (nthL [nthL tl i] 0).6 [nthL [nthL tl i] 0]) (Nat.succ 0)).2, q := 0, r := 0, s := 0, cs := [] }, { tag := 7, p := (nthL (bi (nbeq (nthL [nthL tl i] 0).1 15) (nthL [nthL tl i] 0).6 [nthL [nthL tl i] 0]) (Nat.succ 0).succ).2, q := 0, r := 0, s := 0, cs := [] }, { tag := 9, p := (nthL (bi (nbeq (nthL [nthL tl i] 0).1 15) (nthL [nthL tl i] 0).6 [nthL [nthL tl i] 0]) (Nat.succ 0).succ.succ).2, q := (nthL (bi (nbeq (nthL [nthL tl i] 0).1 15) (nthL [nthL tl i] 0).6 [nthL [nthL tl i] 0]) (Nat.succ 0).succ.succ).3, r := 0, s := 0, cs := [] }, { tag := 24, p := (nthL (bi (nbeq (nthL [nthL tl i] 0).1 15) (nthL [nthL tl i] 0).6 [nthL [nthL tl i] 0]) (Nat.succ 0).succ.succ.succ).2, q := 0, r := 5, s := 0, cs := (nthL (bi (nbeq (nthL [nthL tl i] 0).1 15) (nthL [nthL tl i] 0).6 [nthL [nthL tl i] 0]) (Nat.succ 0).succ.succ.succ).6 }] })).op, q := 0, r := 0, s := 0, cs := [] }, { tag := 3, p := (cpT (unTm { tag := 15, p := 0, q := 0, r := 0, s := 0, cs := [{ tag := 3, p := (nthL (bi (nbeq (nthL [nthL tl i] 0).1 15) (nthL [nthL tl i] 0).6 [nthL [nthL tl i] 0]) 0).2, q := 0, r := 0, s := 0, cs := [] }, { tag := 3, p := (nthL (bi (nbeq (nthL [nthL tl i] 0).1 15) (nthL [nthL tl i] 0).6 [nthL [nthL tl i] 0]) (Nat.succ 0)).2, q := 0, r := 0, s := 0, cs := [] }, { tag := 7, p := (nthL (bi (nbeq (nthL [nthL tl i] 0).1 15) (nthL [nthL tl i] 0).6 [nthL [nthL tl i] 0]) (Nat.succ 0).succ).2, q := 0, r := 0, s := 0, cs := [] }, { tag := 9, p := (nthL (bi (nbeq (nthL [nthL tl i] 0).1 15) (nthL [nthL tl i] 0).6 [nthL [nthL tl i] 0]) (Nat.succ 0).succ.succ).2, q := (nthL (bi (nbeq (nthL [nthL tl i] 0).1 15) (nthL [nthL tl i] 0).6 [nthL [nthL tl i] 0]) (Nat.succ 0).succ.succ).3, r := 0, s := 0, cs := [] }, { tag := 24, p := (nthL (bi (nbeq (nthL [nthL tl i] 0).1 15) (nthL [nthL tl i] 0).6 [nthL [nthL tl i] 0]) (Nat.succ 0).succ.succ.succ).2, q := 0, r := 5, s := 0, cs := (nthL (bi (nbeq (nthL [nthL tl i] 0).1 15) (nthL [nthL tl i] 0).6 [nthL [nthL tl i] 0]) (Nat.succ 0).succ.succ.succ).6 }] })).w, q := 0, r := 0, s := 0, cs := [] }, { tag := 7, p := (cpT (unTm { tag := 15, p := 0, q := 0, r := 0, s := 0, cs := [{ tag := 3, p := (nthL (bi (nbeq (nthL [nthL tl i] 0).1 15) (nthL [nthL tl i] 0).6 [nthL [nthL tl i] 0]) 0).2, q := 0, r := 0, s := 0, cs := [] }, { tag := 3, p := (nthL (bi (nbeq (nthL [nthL tl i] 0).1 15) (nthL [nthL tl i] 0).6 [nthL [nthL tl i] 0]) (Nat.succ 0)).2, q := 0, r := 0, s := 0, cs := [] }, { tag := 7, p := (nthL (bi (nbeq (nthL [nthL tl i] 0).1 15) (nthL [nthL tl i] 0).6 [nthL [nthL tl i] 0]) (Nat.succ 0).succ).2, q := 0, r := 0, s := 0, cs := [] }, { tag := 9, p := (nthL (bi (nbeq (nthL [nthL tl i] 0).1 15) (nthL [nthL tl i] 0).6 [nthL [nthL tl i] 0]) (Nat.succ 0).succ.succ).2, q := (nthL (bi (nbeq (nthL [nthL tl i] 0).1 15) (nthL [nthL tl i] 0).6 [nthL [nthL tl i] 0]) (Nat.succ 0).succ.succ).3, r := 0, s := 0, cs := [] }, { tag := 24, p := (nthL (bi (nbeq (nthL [nthL tl i] 0).1 15) (nthL [nthL tl i] 0).6 [nthL [nthL tl i] 0]) (Nat.succ 0).succ.succ.succ).2, q := 0, r := 5, s := 0, cs := (nthL (bi (nbeq (nthL [nthL tl i] 0).1 15) (nthL [nthL tl i] 0).6 [nthL [nthL tl i] 0]) (Nat.succ 0).succ.succ.succ).6 }] })).v, q := 0, r := 0, s := 0, cs := [] }, { tag := 9, p := (cpT (unTm { tag := 15, p := 0, q := 0, r := 0, s := 0, cs := [{ tag := 3, p := (nthL (bi (nbeq (nthL [nthL tl i] 0).1 15) (nthL [nthL tl i] 0).6 [nthL [nthL tl i] 0]) 0).2, q := 0, r := 0, s := 0, cs := [] }, { tag := 3, p := (nthL (bi (nbeq (nthL [nthL tl i] 0).1 15) (nthL [nthL tl i] 0).6 [nthL [nthL tl i] 0]) (Nat.succ 0)).2, q := 0, r := 0, s := 0, cs := [] }, { tag := 7, p := (nthL (bi (nbeq (nthL [nthL tl i] 0).1 15) (nthL [nthL tl i] 0).6 [nthL [nthL tl i] 0]) (Nat.succ 0).succ).2, q := 0, r := 0, s := 0, cs := [] }, { tag := 9, p := (nthL (bi (nbeq (nthL [nthL tl i] 0).1 15) (nthL [nthL tl i] 0).6 [nthL [nthL tl i] 0]) (Nat.succ 0).succ.succ).2, q := (nthL (bi (nbeq (nthL [nthL tl i] 0).1 15) (nthL [nthL tl i] 0).6 [nthL [nthL tl i] 0]) (Nat.succ 0).succ.succ).3, r := 0, s := 0, cs := [] }, { tag := 24, p := (nthL (bi (nbeq (nthL [nthL tl i] 0).1 15) (nthL [nthL tl i] 0).6 [nthL [nthL tl i] 0]) (Nat.succ 0).succ.succ.succ).2, q := 0, r := 5, s := 0, cs := (nthL (bi (nbeq (nthL [nthL tl i] 0).1 15) (nthL [nthL tl i] 0).6 [nthL [nthL tl i] 0]) (Nat.succ 0).succ.succ.succ).6 }] })).np, q := (cpT (unTm { tag := 15, p := 0, q := 0, r := 0, s := 0, cs := [{ tag := 3, p := (nthL (bi (nbeq (nthL [nthL tl i] 0).1 15) (nthL [nthL tl i] 0).6 [nthL [nthL tl i] 0]) 0).2, q := 0, r := 0, s := 0, cs := [] }, { tag := 3, p := (nthL (bi (nbeq (nthL [nthL tl i] 0).1 15) (nthL [nthL tl i] 0).6 [nthL [nthL tl i] 0]) (Nat.succ 0)).2, q := 0, r := 0, s := 0, cs := [] }, { tag := 7, p := (nthL (bi (nbeq (nthL [nthL tl i] 0).1 15) (nthL [nthL tl i] 0).6 [nthL [nthL tl i] 0]) (Nat.succ 0).succ).2, q := 0, r := 0, s := 0, cs := [] }, { tag := 9, p := (nthL (bi (nbeq (nthL [nthL tl i] 0).1 15) (nthL [nthL tl i] 0).6 [nthL [nthL tl i] 0]) (Nat.succ 0).succ.succ).2, q := (nthL (bi (nbeq (nthL [nthL tl i] 0).1 15) (nthL [nthL tl i] 0).6 [nthL [nthL tl i] 0]) (Nat.succ 0).succ.succ).3, r := 0, s := 0, cs := [] }, { tag := 24, p := (nthL (bi (nbeq (nthL [nthL tl i] 0).1 15) (nthL [nthL tl i] 0).6 [nthL [nthL tl i] 0]) (Nat.succ 0).succ.succ.succ).2, q := 0, r := 5, s := 0, cs := (nthL (bi (nbeq (nthL [nthL tl i] 0).1 15) (nthL [nthL tl i] 0).6 [nthL [nthL tl i] 0]) (Nat.succ 0).succ.succ.succ).6 }] })).nq, r := 0, s := 0, cs := [] }, { tag := 24, p := (cpT (unTm { tag := 15, p := 0, q := 0, r := 0, s := 0, cs := [{ tag := 3, p := (nthL (bi (nbeq (nthL [nthL tl i] 0).1 15) (nthL [nthL tl i] 0).6 [nthL [nthL tl i] 0]) 0).2, q := 0, r := 0, s := 0, cs := [] }, { tag := 3, p := (nthL (bi (nbeq (nthL [nthL tl i] 0).1 15) (nthL [nthL tl i] 0).6 [nthL [nthL tl i] 0]) (Nat.succ 0)).2, q := 0, r := 0, s := 0, cs := [] }, { tag := 7, p := (nthL (bi (nbeq (nthL [nthL tl i] 0).1 15) (nthL [nthL tl i] 0).6 [nthL [nthL tl i] 0]) (Nat.succ 0).succ).2, q := 0, r := 0, s := 0, cs := [] }, { tag := 9, p := (nthL (bi (nbeq (nthL [nthL tl i] 0).1 15) (nthL [nthL tl i] 0).6 [nthL [nthL tl i] 0]) (Nat.succ 0).succ.succ).2, q := (nthL (bi (nbeq (nthL [nthL tl i] 0).1 15) (nthL [nthL tl i] 0).6 [nthL [nthL tl i] 0]) (Nat.succ 0).succ.succ).3, r := 0, s := 0, cs := [] }, { tag := 24, p := (nthL (bi (nbeq (nthL [nthL tl i] 0).1 15) (nthL [nthL tl i] 0).6 [nthL [nthL tl i] 0]) (Nat.succ 0).succ.succ.succ).2, q := 0, r := 5, s := 0, cs := (nthL (bi (nbeq (nthL [nthL tl i] 0).1 15) (nthL [nthL tl i] 0).6 [nthL [nthL tl i] 0]) (Nat.succ 0).succ.succ.succ).6 }] })).p, q := 0, r := 5, s := 0, cs := List.map tmA (cpT (unTm { tag := 15, p := 0, q := 0, r := 0, s := 0, cs := [{ tag := 3, p := (nthL (bi (nbeq (nthL [nthL tl i] 0).1 15) (nthL [nthL tl i] 0).6 [nthL [nthL tl i] 0]) 0).2, q := 0, r := 0, s := 0, cs := [] }, { tag := 3, p := (nthL (bi (nbeq (nthL [nthL tl i] 0).1 15) (nthL [nthL tl i] 0).6 [nthL [nthL tl i] 0]) (Nat.succ 0)).2, q := 0, r := 0, s := 0, cs := [] }, { tag := 7, p := (nthL (bi (nbeq (nthL [nthL tl i] 0).1 15) (nthL [nthL tl i] 0).6 [nthL [nthL tl i] 0]) (Nat.succ 0).succ).2, q := 0, r := 0, s := 0, cs := [] }, { tag := 9, p := (nthL (bi (nbeq (nthL [nthL tl i] 0).1 15) (nthL [nthL tl i] 0).6 [nthL [nthL tl i] 0]) (Nat.succ 0).succ.succ).2, q := (nthL (bi (nbeq (nthL [nthL tl i] 0).1 15) (nthL [nthL tl i] 0).6 [nthL [nthL tl i] 0]) (Nat.succ 0).succ.succ).3, r := 0, s := 0, cs := [] }, { tag := 24, p := (nthL (bi (nbeq (nthL [nthL tl i] 0).1 15) (nthL [nthL tl i] 0).6 [nthL [nthL tl i] 0]) (Nat.succ 0).succ.succ.succ).2, q := 0, r := 5, s := 0, cs := (nthL (bi (nbeq (nthL [nthL tl i] 0).1 15) (nthL [nthL tl i] 0).6 [nthL [nthL tl i] 0]) (Nat.succ 0).succ.succ.succ).6 }] })).as }] })) 1)
          (bi (eqA 1000 { tag := 25, p := op, q := 5, r := lenL ol, s := 0, cs := [] } { tag := 25, p := op, q := 5, r := lenL ol, s := 0, cs := [] })
            (bi (eqA 1000 { tag := 15, p := 0, q := 0, r := 0, s := 0, cs := [{ tag := 3, p := (nthL (bi (nbeq (nthL [nthL tl i] 0).1 15) (nthL [nthL tl i] 0).6 [nthL [nthL tl i] 0]) 0).2, q := 0, r := 0, s := 0, cs := [] }, { tag := 3, p := (nthL (bi (nbeq (nthL [nthL tl i] 0).1 15) (nthL [nthL tl i] 0).6 [nthL [nthL tl i] 0]) (Nat.succ 0)).2, q := 0, r := 0, s := 0, cs := [] }, { tag := 7, p := (nthL (bi (nbeq (nthL [nthL tl i] 0).1 15) (nthL [nthL tl i] 0).6 [nthL [nthL tl i] 0]) (Nat.succ 0).succ).2, q := 0, r := 0, s := 0, cs := [] }, { tag := 9, p := (nthL (bi (nbeq (nthL [nthL tl i] 0).1 15) (nthL [nthL tl i] 0).6 [nthL [nthL tl i] 0]) (Nat.succ 0).succ.succ).2, q := (nthL (bi (nbeq (nthL [nthL tl i] 0).1 15) (nthL [nthL tl i] 0).6 [nthL [nthL tl i] 0]) (Nat.succ 0).succ.succ).3, r := 0, s := 0, cs := [] }, { tag := 24, p := (nthL (bi (nbeq (nthL [nthL tl i] 0).1 15) (nthL [nthL tl i] 0).6 [nthL [nthL tl i] 0]) (Nat.succ 0).succ.succ.succ).2, q := 0, r := 5, s := 0, cs := (nthL (bi (nbeq (nthL [nthL tl i] 0).1 15) (nthL [nthL tl i] 0).6 [nthL [nthL tl i] 0]) (Nat.succ 0).succ.succ.succ).6 }] } { tag := 15, p := 0, q := 0, r := 0, s := 0, cs := [{ tag := 3, p := (nthL (bi (nbeq (nthL [nthL tl i] 0).1 15) (nthL [nthL tl i] 0).6 [nthL [nthL tl i] 0]) 0).2, q := 0, r := 0, s := 0, cs := [] }, { tag := 3, p := (nthL (bi (nbeq (nthL [nthL tl i] 0).1 15) (nthL [nthL tl i] 0).6 [nthL [nthL tl i] 0]) (Nat.succ 0)).2, q := 0, r := 0, s := 0, cs := [] }, { tag := 7, p := (nthL (bi (nbeq (nthL [nthL tl i] 0).1 15) (nthL [nthL tl i] 0).6 [nthL [nthL tl i] 0]) (Nat.succ 0).succ).2, q := 0, r := 0, s := 0, cs := [] }, { tag := 9, p := (nthL (bi (nbeq (nthL [nthL tl i] 0).1 15) (nthL [nthL tl i] 0).6 [nthL [nthL tl i] 0]) (Nat.succ 0).succ.succ).2, q := (nthL (bi (nbeq (nthL [nthL tl i] 0).1 15) (nthL [nthL tl i] 0).6 [nthL [nthL tl i] 0]) (Nat.succ 0).succ.succ).3, r := 0, s := 0, cs := [] }, { tag := 24, p := (nthL (bi (nbeq (nthL [nthL tl i] 0).1 15) (nthL [nthL tl i] 0).6 [nthL [nthL tl i] 0]) (Nat.succ 0).succ.succ.succ).2, q := 0, r := 5, s := 0, cs := (nthL (bi (nbeq (nthL [nthL tl i] 0).1 15) (nthL [nthL tl i] 0).6 [nthL [nthL tl i] 0]) (Nat.succ 0).succ.succ.succ).6 }] })
              (bi (eqA 1000 { tag := 25, p := op, q := 5, r := lenL ol, s := 0, cs := [] } { tag := 25, p := op, q := 5, r := lenL ol, s := 0, cs := [] })
                (bi (nble ((lenL (takeN (lenL ol) ol)).add 1) 100000)
                  (J [0, 0, 1, 0, 1, 1, 1] [{ tag := 16, p := 0, q := 0, r := 1, s := 0, cs := [{ tag := 3, p := 0, q := 0, r := 0, s := 0, cs := [] }, { tag := 3, p := 0, q := 0, r := 0, s := 0, cs := [] }, { tag := 7, p := 0, q := 0, r := 0, s := 0, cs := [] }, { tag := 9, p := 0, q := 0, r := 0, s := 0, cs := [] }, { tag := 17, p := 1, q := 0, r := 0, s := 0, cs := [] }] }, { tag := 16, p := 0, q := 0, r := 1, s := 0, cs := [{ tag := 3, p := oo, q := 0, r := 0, s := 0, cs := [] }, { tag := 3, p := ow, q := 0, r := 0, s := 0, cs := [] }, { tag := 7, p := ov, q := 0, r := 0, s := 0, cs := [] }, { tag := 9, p := on, q := oq, r := 0, s := 0, cs := [] }, { tag := 16, p := 1, q := 0, r := 0, s := 0, cs := takeN ((lenL (takeN (lenL ol) ol)).add 1) (appL (takeN (lenL ol) ol) [{ tag := 15, p := 0, q := 0, r := 0, s := 0, cs := [{ tag := 3, p := (cpT (unTm { tag := 15, p := 0, q := 0, r := 0, s := 0, cs := [{ tag := 3, p := (nthL (bi (nbeq (nthL [nthL tl i] 0).1 15) (nthL [nthL tl i] 0).6 [nthL [nthL tl i] 0]) 0).2, q := 0, r := 0, s := 0, cs := [] }, { tag := 3, p := (nthL (bi (nbeq (nthL [nthL tl i] 0).1 15) (nthL [nthL tl i] 0).6 [nthL [nthL tl i] 0]) (Nat.succ 0)).2, q := 0, r := 0, s := 0, cs := [] }, { tag := 7, p := (nthL (bi (nbeq (nthL [nthL tl i] 0).1 15) (nthL [nthL tl i] 0).6 [nthL [nthL tl i] 0]) (Nat.succ 0).succ).2, q := 0, r := 0, s := 0, cs := [] }, { tag := 9, p := (nthL (bi (nbeq (nthL [nthL tl i] 0).1 15) (nthL [nthL tl i] 0).6 [nthL [nthL tl i] 0]) (Nat.succ 0).succ.succ).2, q := (nthL (bi (nbeq (nthL [nthL tl i] 0).1 15) (nthL [nthL tl i] 0).6 [nthL [nthL tl i] 0]) (Nat.succ 0).succ.succ).3, r := 0, s := 0, cs := [] }, { tag := 24, p := (nthL (bi (nbeq (nthL [nthL tl i] 0).1 15) (nthL [nthL tl i] 0).6 [nthL [nthL tl i] 0]) (Nat.succ 0).succ.succ.succ).2, q := 0, r := 5, s := 0, cs := (nthL (bi (nbeq (nthL [nthL tl i] 0).1 15) (nthL [nthL tl i] 0).6 [nthL [nthL tl i] 0]) (Nat.succ 0).succ.succ.succ).6 }] })).op, q := 0, r := 0, s := 0, cs := [] }, { tag := 3, p := (cpT (unTm { tag := 15, p := 0, q := 0, r := 0, s := 0, cs := [{ tag := 3, p := (nthL (bi (nbeq (nthL [nthL tl i] 0).1 15) (nthL [nthL tl i] 0).6 [nthL [nthL tl i] 0]) 0).2, q := 0, r := 0, s := 0, cs := [] }, { tag := 3, p := (nthL (bi (nbeq (nthL [nthL tl i] 0).1 15) (nthL [nthL tl i] 0).6 [nthL [nthL tl i] 0]) (Nat.succ 0)).2, q := 0, r := 0, s := 0, cs := [] }, { tag := 7, p := (nthL (bi (nbeq (nthL [nthL tl i] 0).1 15) (nthL [nthL tl i] 0).6 [nthL [nthL tl i] 0]) (Nat.succ 0).succ).2, q := 0, r := 0, s := 0, cs := [] }, { tag := 9, p := (nthL (bi (nbeq (nthL [nthL tl i] 0).1 15) (nthL [nthL tl i] 0).6 [nthL [nthL tl i] 0]) (Nat.succ 0).succ.succ).2, q := (nthL (bi (nbeq (nthL [nthL tl i] 0).1 15) (nthL [nthL tl i] 0).6 [nthL [nthL tl i] 0]) (Nat.succ 0).succ.succ).3, r := 0, s := 0, cs := [] }, { tag := 24, p := (nthL (bi (nbeq (nthL [nthL tl i] 0).1 15) (nthL [nthL tl i] 0).6 [nthL [nthL tl i] 0]) (Nat.succ 0).succ.succ.succ).2, q := 0, r := 5, s := 0, cs := (nthL (bi (nbeq (nthL [nthL tl i] 0).1 15) (nthL [nthL tl i] 0).6 [nthL [nthL tl i] 0]) (Nat.succ 0).succ.succ.succ).6 }] })).w, q := 0, r := 0, s := 0, cs := [] }, { tag := 7, p := (cpT (unTm { tag := 15, p := 0, q := 0, r := 0, s := 0, cs := [{ tag := 3, p := (nthL (bi (nbeq (nthL [nthL tl i] 0).1 15) (nthL [nthL tl i] 0).6 [nthL [nthL tl i] 0]) 0).2, q := 0, r := 0, s := 0, cs := [] }, { tag := 3, p := (nthL (bi (nbeq (nthL [nthL tl i] 0).1 15) (nthL [nthL tl i] 0).6 [nthL [nthL tl i] 0]) (Nat.succ 0)).2, q := 0, r := 0, s := 0, cs := [] }, { tag := 7, p := (nthL (bi (nbeq (nthL [nthL tl i] 0).1 15) (nthL [nthL tl i] 0).6 [nthL [nthL tl i] 0]) (Nat.succ 0).succ).2, q := 0, r := 0, s := 0, cs := [] }, { tag := 9, p := (nthL (bi (nbeq (nthL [nthL tl i] 0).1 15) (nthL [nthL tl i] 0).6 [nthL [nthL tl i] 0]) (Nat.succ 0).succ.succ).2, q := (nthL (bi (nbeq (nthL [nthL tl i] 0).1 15) (nthL [nthL tl i] 0).6 [nthL [nthL tl i] 0]) (Nat.succ 0).succ.succ).3, r := 0, s := 0, cs := [] }, { tag := 24, p := (nthL (bi (nbeq (nthL [nthL tl i] 0).1 15) (nthL [nthL tl i] 0).6 [nthL [nthL tl i] 0]) (Nat.succ 0).succ.succ.succ).2, q := 0, r := 5, s := 0, cs := (nthL (bi (nbeq (nthL [nthL tl i] 0).1 15) (nthL [nthL tl i] 0).6 [nthL [nthL tl i] 0]) (Nat.succ 0).succ.succ.succ).6 }] })).v, q := 0, r := 0, s := 0, cs := [] }, { tag := 9, p := (cpT (unTm { tag := 15, p := 0, q := 0, r := 0, s := 0, cs := [{ tag := 3, p := (nthL (bi (nbeq (nthL [nthL tl i] 0).1 15) (nthL [nthL tl i] 0).6 [nthL [nthL tl i] 0]) 0).2, q := 0, r := 0, s := 0, cs := [] }, { tag := 3, p := (nthL (bi (nbeq (nthL [nthL tl i] 0).1 15) (nthL [nthL tl i] 0).6 [nthL [nthL tl i] 0]) (Nat.succ 0)).2, q := 0, r := 0, s := 0, cs := [] }, { tag := 7, p := (nthL (bi (nbeq (nthL [nthL tl i] 0).1 15) (nthL [nthL tl i] 0).6 [nthL [nthL tl i] 0]) (Nat.succ 0).succ).2, q := 0, r := 0, s := 0, cs := [] }, { tag := 9, p := (nthL (bi (nbeq (nthL [nthL tl i] 0).1 15) (nthL [nthL tl i] 0).6 [nthL [nthL tl i] 0]) (Nat.succ 0).succ.succ).2, q := (nthL (bi (nbeq (nthL [nthL tl i] 0).1 15) (nthL [nthL tl i] 0).6 [nthL [nthL tl i] 0]) (Nat.succ 0).succ.succ).3, r := 0, s := 0, cs := [] }, { tag := 24, p := (nthL (bi (nbeq (nthL [nthL tl i] 0).1 15) (nthL [nthL tl i] 0).6 [nthL [nthL tl i] 0]) (Nat.succ 0).succ.succ.succ).2, q := 0, r := 5, s := 0, cs := (nthL (bi (nbeq (nthL [nthL tl i] 0).1 15) (nthL [nthL tl i] 0).6 [nthL [nthL tl i] 0]) (Nat.succ 0).succ.succ.succ).6 }] })).np, q := (cpT (unTm { tag := 15, p := 0, q := 0, r := 0, s := 0, cs := [{ tag := 3, p := (nthL (bi (nbeq (nthL [nthL tl i] 0).1 15) (nthL [nthL tl i] 0).6 [nthL [nthL tl i] 0]) 0).2, q := 0, r := 0, s := 0, cs := [] }, { tag := 3, p := (nthL (bi (nbeq (nthL [nthL tl i] 0).1 15) (nthL [nthL tl i] 0).6 [nthL [nthL tl i] 0]) (Nat.succ 0)).2, q := 0, r := 0, s := 0, cs := [] }, { tag := 7, p := (nthL (bi (nbeq (nthL [nthL tl i] 0).1 15) (nthL [nthL tl i] 0).6 [nthL [nthL tl i] 0]) (Nat.succ 0).succ).2, q := 0, r := 0, s := 0, cs := [] }, { tag := 9, p := (nthL (bi (nbeq (nthL [nthL tl i] 0).1 15) (nthL [nthL tl i] 0).6 [nthL [nthL tl i] 0]) (Nat.succ 0).succ.succ).2, q := (nthL (bi (nbeq (nthL [nthL tl i] 0).1 15) (nthL [nthL tl i] 0).6 [nthL [nthL tl i] 0]) (Nat.succ 0).succ.succ).3, r := 0, s := 0, cs := [] }, { tag := 24, p := (nthL (bi (nbeq (nthL [nthL tl i] 0).1 15) (nthL [nthL tl i] 0).6 [nthL [nthL tl i] 0]) (Nat.succ 0).succ.succ.succ).2, q := 0, r := 5, s := 0, cs := (nthL (bi (nbeq (nthL [nthL tl i] 0).1 15) (nthL [nthL tl i] 0).6 [nthL [nthL tl i] 0]) (Nat.succ 0).succ.succ.succ).6 }] })).nq, r := 0, s := 0, cs := [] }, { tag := 24, p := (cpT (unTm { tag := 15, p := 0, q := 0, r := 0, s := 0, cs := [{ tag := 3, p := (nthL (bi (nbeq (nthL [nthL tl i] 0).1 15) (nthL [nthL tl i] 0).6 [nthL [nthL tl i] 0]) 0).2, q := 0, r := 0, s := 0, cs := [] }, { tag := 3, p := (nthL (bi (nbeq (nthL [nthL tl i] 0).1 15) (nthL [nthL tl i] 0).6 [nthL [nthL tl i] 0]) (Nat.succ 0)).2, q := 0, r := 0, s := 0, cs := [] }, { tag := 7, p := (nthL (bi (nbeq (nthL [nthL tl i] 0).1 15) (nthL [nthL tl i] 0).6 [nthL [nthL tl i] 0]) (Nat.succ 0).succ).2, q := 0, r := 0, s := 0, cs := [] }, { tag := 9, p := (nthL (bi (nbeq (nthL [nthL tl i] 0).1 15) (nthL [nthL tl i] 0).6 [nthL [nthL tl i] 0]) (Nat.succ 0).succ.succ).2, q := (nthL (bi (nbeq (nthL [nthL tl i] 0).1 15) (nthL [nthL tl i] 0).6 [nthL [nthL tl i] 0]) (Nat.succ 0).succ.succ).3, r := 0, s := 0, cs := [] }, { tag := 24, p := (nthL (bi (nbeq (nthL [nthL tl i] 0).1 15) (nthL [nthL tl i] 0).6 [nthL [nthL tl i] 0]) (Nat.succ 0).succ.succ.succ).2, q := 0, r := 5, s := 0, cs := (nthL (bi (nbeq (nthL [nthL tl i] 0).1 15) (nthL [nthL tl i] 0).6 [nthL [nthL tl i] 0]) (Nat.succ 0).succ.succ.succ).6 }] })).p, q := 0, r := 5, s := 0, cs := List.map tmA (cpT (unTm { tag := 15, p := 0, q := 0, r := 0, s := 0, cs := [{ tag := 3, p := (nthL (bi (nbeq (nthL [nthL tl i] 0).1 15) (nthL [nthL tl i] 0).6 [nthL [nthL tl i] 0]) 0).2, q := 0, r := 0, s := 0, cs := [] }, { tag := 3, p := (nthL (bi (nbeq (nthL [nthL tl i] 0).1 15) (nthL [nthL tl i] 0).6 [nthL [nthL tl i] 0]) (Nat.succ 0)).2, q := 0, r := 0, s := 0, cs := [] }, { tag := 7, p := (nthL (bi (nbeq (nthL [nthL tl i] 0).1 15) (nthL [nthL tl i] 0).6 [nthL [nthL tl i] 0]) (Nat.succ 0).succ).2, q := 0, r := 0, s := 0, cs := [] }, { tag := 9, p := (nthL (bi (nbeq (nthL [nthL tl i] 0).1 15) (nthL [nthL tl i] 0).6 [nthL [nthL tl i] 0]) (Nat.succ 0).succ.succ).2, q := (nthL (bi (nbeq (nthL [nthL tl i] 0).1 15) (nthL [nthL tl i] 0).6 [nthL [nthL tl i] 0]) (Nat.succ 0).succ.succ).3, r := 0, s := 0, cs := [] }, { tag := 24, p := (nthL (bi (nbeq (nthL [nthL tl i] 0).1 15) (nthL [nthL tl i] 0).6 [nthL [nthL tl i] 0]) (Nat.succ 0).succ.succ.succ).2, q := 0, r := 5, s := 0, cs := (nthL (bi (nbeq (nthL [nthL tl i] 0).1 15) (nthL [nthL tl i] 0).6 [nthL [nthL tl i] 0]) (Nat.succ 0).succ.succ.succ).6 }] })).as }] }]) }] }, { tag := 24, p := tp, q := 0, r := 5, s := 0, cs := tl }, { tag := 3, p := n, q := 0, r := 0, s := 0, cs := [] }, { tag := 3, p := gt2 (fun a b => (a.add b).mod (kMod (kCode IntKind.i64))) i 1, q := 0, r := 0, s := 0, cs := [] }])
                  (failR 211))
                (failR 90))
              (failR 90))
            (failR 90))
          (failR 301))
        (failR 201))
      (failR 205))
    (ansY { tag := 15, p := 0, q := 0, r := 0, s := 0, cs := [{ tag := 3, p := oo, q := 0, r := 0, s := 0, cs := [] }, { tag := 3, p := ow, q := 0, r := 0, s := 0, cs := [] }, { tag := 7, p := ov, q := 0, r := 0, s := 0, cs := [] }, { tag := 9, p := on, q := oq, r := 0, s := 0, cs := [] }, { tag := 24, p := bi (nbeq op 0) 0 1, q := 0, r := 5, s := 0, cs := takeN (lenL ol) ol }] })) := by kernel_rfl
theorem body28 : Tryz.f28.body = some (bodyC Tryz.f28) := by kernel_rfl
theorem fn28 : Tryz.prog.funcs[28]? = some Tryz.f28 := by kernel_rfl
theorem nt28 : Tryz.f28.ntmps = 37 := by kernel_rfl
theorem rs28 : Tryz.f28.results.toList = [.tmp 6] := by kernel_rfl
theorem body25 : Tryz.f25.body = some (bodyC Tryz.f25) := by kernel_rfl
theorem fn25 : Tryz.prog.funcs[25]? = some Tryz.f25 := by kernel_rfl
theorem nt25 : Tryz.f25.ntmps = 27 := by kernel_rfl
theorem rs25 : Tryz.f25.results.toList = [.tmp 4] := by kernel_rfl
theorem body8 : Tryz.f8.body = some (bodyC Tryz.f8) := by kernel_rfl
theorem fn8 : Tryz.prog.funcs[8]? = some Tryz.f8 := by kernel_rfl
theorem nt8 : Tryz.f8.ntmps = 38 := by kernel_rfl
theorem rs8 : Tryz.f8.results.toList = [.tmp 4] := by kernel_rfl
theorem body23 : Tryz.f23.body = some (bodyC Tryz.f23) := by kernel_rfl
theorem fn23 : Tryz.prog.funcs[23]? = some Tryz.f23 := by kernel_rfl
theorem nt23 : Tryz.f23.ntmps = 24 := by kernel_rfl
theorem rs23 : Tryz.f23.results.toList = [.cell 2 26] := by kernel_rfl

theorem n00 : nbeq 0 0 = true := rfl
theorem n10 : nbeq 1 0 = false := rfl
theorem mk_tm (t : Tm) : aggV [i64 t.op, i64 t.w, u64 t.v, stA t.nq t.np, slP t.p 5 (t.as.map tmA)] = tmA t := by
  cases t; rw [tmA_mk]; rfl
def cntsN (l : List Tm) (d n : Nat) : Nat := match cnts l d n with | none => 18446744073709551615 | some k => k
theorem cntN_mk (op w v nq np p : Nat) (l : List Tm) (d n : Nat) : cntN (.mk op w v nq np p l) d n = if d = 0 ∨ n = 0 then 18446744073709551615 else cntsN l (d - 1) (n - 1) := by
  unfold cntN cntsN
  rw [cnt]
  split <;> rename_i h <;> split <;> simp_all
mutual
theorem cnt_le : ∀ (t : Tm) (d n k : Nat), cnt t d n = some k → k ≤ n
  | .mk _ _ _ _ _ _ l, d, n, k, h => by
    rw [cnt] at h
    split at h
    · cases h
    · have := cnts_le l _ _ _ h; omega
theorem cnts_le : ∀ (l : List Tm) (d n k : Nat), cnts l d n = some k → k ≤ n
  | [], d, n, k, h => by rw [cnts] at h; cases h; exact Nat.le_refl _
  | a :: l, d, n, k, h => by
    rw [cnts] at h
    split at h
    · cases h
    · rename_i j hj
      have h1 := cnt_le a d n j hj
      have h2 := cnts_le l d j k h
      omega
end
theorem pos_iff {d : Nat} (hd : d < 2 ^ 62) : nble 9223372036854775809 (biased 3 d) = decide (1 ≤ d) := by
  rw [biased3s (by omega), nble_dec, decide_eq_decide]; omega
theorem pure28 : ∀ (t : Tm) (d n : Nat), d < 2 ^ 62 → n < 2 ^ 62 → (t.All fun _ _ _ _ _ _ l => l.length < 2 ^ 63) → PureAt Tryz.prog 28 [tmA t, i64 d, i64 n] (i64 (cntN t d n)) := by
  intro t
  induction t using Tm.ind with
  | h op w v nq np p X ih =>
  intro d n hd hn hall
  obtain ⟨hX, hall⟩ : X.length < 2 ^ 63 ∧ ∀ t ∈ X, t.All fun _ _ _ _ _ _ l => l.length < 2 ^ 63 := by
    cases hall with | mk h1 h2 => exact ⟨h1, h2⟩
  have loop : 1 ≤ d → ∀ k i n', n' < 2 ^ 62 → i + k = X.length → jmpN Tryz.prog 37 lab28 (baseH Tryz.prog) RC (finY Tryz.prog [.tmp 6] [3]) (bodyC Tryz.f28) (k + 2) [0,0,1,0,1,1,1] [i64 d, i64 n', bxD [i64 op, i64 w, u64 v, stA nq np, slP p 5 (X.map tmA)], i64 i] = ansY (i64 (cntsN (X.drop i) (d - 1) n')) := by
    intro hd1 k
    induction k with
    | zero =>
      intro i n' hn' hi
      have e : i = X.length := by omega
      subst e
      rw [jmpN_succ, l28]
      simp only [bl_bi, n11, n01, lenL_map, biased_le hX hX, Nat.le_refl, decide_true, nb_t, bi_ff, List.drop_length, mk_i64]
      rfl
    | succ k ihk =>
      intro i n' hn' hi
      have hlt : i < X.length := by omega
      have hi63 : i < 2 ^ 63 := by omega
      have e1 : X.drop i = X[i] :: X.drop (i + 1) := List.drop_eq_getElem_cons hlt
      have q := okN_one.2 (ih X[i] (List.getElem_mem hlt) (d - 1) n' (by omega) hn' (hall _ (List.getElem_mem hlt)))
      rw [jmpN_succ, l28]
      simp only [lenL_map, biased_le hX hi63, show ¬ X.length ≤ i by omega, decide_false, nb_f, bi_tt, bi_ff, nble_t (show i.succ ≤ X.length from hlt), nthL_map tmA X i hlt, subN hd1 (show d < 2 ^ 64 by omega), nble_t (show 9223372036854775808 ≤ biased 3 n' by rw [biased3s (show n' < 2 ^ 63 by omega)]; omega), succ_mod hi63, q, nth1, cells_tm, n5_0, n5_1, n5_2, n5_3, n5_4, tg_i, tg_u, tg_s, tg_l, i64_p, u64_p, stA_p, stA_q, slP_p, slP_cs, mk_i64, mk_u64, mk_stA, mk_slP, mk_agg, mk_bx, mk_ls, mk_tm, unTm_A, bl_bi, n11, n01]
      rw [e1]
      cases hc : cnt X[i] (d - 1) n' with
      | none =>
        have e3 : cntN X[i] (d - 1) n' = 18446744073709551615 := by unfold cntN; rw [hc]
        have e2 : cntsN (X[i] :: X.drop (i + 1)) (d - 1) n' = 18446744073709551615 := by unfold cntsN; rw [cnts, hc]
        rw [e2]
        rw [e3, jmpN_succ, l28]
        have e4 : nble 9223372036854775808 (biased 3 18446744073709551615) = false := by decide +kernel
        simp only [bl_bi, n11, n01, lenL_map, e4, bi_ff, mk_i64]
        cases nb (nble (biased 3 X.length) (biased 3 (i + 1)))
        · rfl
        · rfl
      | some j =>
        have e3 : cntN X[i] (d - 1) n' = j := by unfold cntN; rw [hc]
        have e2 : cntsN (X[i] :: X.drop (i + 1)) (d - 1) n' = cntsN (X.drop (i + 1)) (d - 1) j := by unfold cntsN; rw [cnts, hc]
        rw [e2]
        rw [e3]
        exact ihk (i + 1) j (by have := cnt_le _ _ _ _ hc; omega) (by omega)
  rw [tmA_mk, cntN_mk]
  refine pure_fn mixed globs fn28 body28 nt28 rs28 RC_ok lab28 [3] (X.length + 2) ((s28 _ op w v nq np p d n _).trans ?_)
  rw [pos_iff hd, pos_iff hn]
  by_cases h1 : 1 ≤ d
  · by_cases h2 : 1 ≤ n
    · have hl := loop h1 X.length 0 (n - 1) (by omega) (by omega)
      simp only [h1, h2, decide_true, nb_t, bl_bi, b0, n00, n10, n11, n01, bi_tt, bi_ff, subN h2 (show n < 2 ^ 64 by omega), mk_i64, mk_u64, mk_stA, mk_slP, mk_bx]
      rw [if_neg (by omega)]
      exact hl
    · simp only [h1, h2, decide_true, decide_false, nb_t, nb_f, bl_bi, b0, n00, n10, n11, n01, bi_ff, bi_tt]
      rw [if_pos (by omega)]; rfl
  · simp only [h1, decide_false, nb_f, bl_bi, b0, n00, n10, n11, n01, bi_ff, bi_tt]
    rw [if_pos (by omega)]; rfl
theorem eqTs_step {a b : Tm} {l l' : List Tm} : eqTs (a :: l) (b :: l') = (eqT a b && eqTs l l') := rfl
theorem pure25 (X Y : List Tm) (pa pb : Nat) (hX : X.length < 2 ^ 63) (hih : ∀ t ∈ X, ∀ b, (b.All fun _ _ _ _ _ _ l => l.length < 2 ^ 63) → PureAt Tryz.prog 8 [tmA t, tmA b] (bV (eqT t b))) (hY : ∀ t ∈ Y, t.All fun _ _ _ _ _ _ l => l.length < 2 ^ 63) : PureAt Tryz.prog 25 [slP pa 5 (X.map tmA), slP pb 5 (Y.map tmA)] (bV (eqTs X Y)) := by
  have loop : X.length = Y.length → ∀ k i, i + k = X.length → jmpN Tryz.prog 27 lab25 (baseH Tryz.prog) RC (finY Tryz.prog [.tmp 4] [4]) (bodyC Tryz.f25) (k + 1) [0,0,1,0,1,1] [slP pa 5 (X.map tmA), slP pb 5 (Y.map tmA), i64 i] = ansY (bV (eqTs (X.drop i) (Y.drop i))) := by
    intro hl k
    induction k with
    | zero =>
      intro i hi
      have e : i = X.length := by omega
      subst e
      rw [jmpN_succ, l25]
      simp only [bl_bi, n11, n01, lenL_map, biased_le hX hX, Nat.le_refl, decide_true, nb_t, bi_ff, List.drop_length]
      rw [hl, List.drop_length]; rfl
    | succ k ihk =>
      intro i hi
      have hlt : i < X.length := by omega
      have hlty : i < Y.length := by omega
      have hi63 : i < 2 ^ 63 := by omega
      have e1 : X.drop i = X[i] :: X.drop (i + 1) := List.drop_eq_getElem_cons hlt
      have e2 : Y.drop i = Y[i] :: Y.drop (i + 1) := List.drop_eq_getElem_cons hlty
      have q := okN_one.2 (hih X[i] (List.getElem_mem hlt) Y[i] (hY _ (List.getElem_mem hlty)))
      simp only [bV, mk1] at q
      rw [jmpN_succ, l25]
      simp only [lenL_map, biased_le hX hi63, show ¬ X.length ≤ i by omega, decide_false, nb_f, bi_tt, bi_ff, nble_t (show i.succ ≤ X.length from hlt), nble_t (show i.succ ≤ Y.length from hlty), nthL_map tmA X i hlt, nthL_map tmA Y i hlty, succ_mod hi63, q, bS, nth1, cells_tm, n5_0, n5_1, n5_2, n5_3, n5_4, tg_i, tg_u, tg_s, tg_l, i64_p, u64_p, stA_p, stA_q, slP_p, slP_cs, mk_i64, mk_u64, mk_stA, mk_slP, mk_agg, mk_bx, mk_ls, mk_tm, unTm_A, bl_bi, n11, n01]
      rw [e1, e2, eqTs_step]
      cases eqT X[i] Y[i]
      · rw [bi_ff, Bool.false_and]; rfl
      · rw [bi_tt, Bool.true_and]
        exact ihk (i + 1) (by omega)
  refine pure_fn mixed globs fn25 body25 nt25 rs25 RC_ok lab25 [4] (X.length + 1) ((s25 _ pa pb _ _).trans ?_)
  simp only [lenL_map, bl_bi]
  by_cases h : X.length = Y.length
  · rw [nbeq_dec, decide_eq_true h, nb_t, bi_ff]
    exact loop h X.length 0 (by omega)
  · rw [nbeq_dec, decide_eq_false h, nb_f, bi_tt]
    have e : ∀ X Y : List Tm, X.length ≠ Y.length → eqTs X Y = false := by
      intro X
      induction X with
      | nil => intro Y h; cases Y with
        | nil => exact absurd rfl h
        | cons _ _ => rfl
      | cons a X ihx =>
        intro Y h
        cases Y with
        | nil => rfl
        | cons b Y => rw [eqTs_step, ihx Y (by simpa using h), Bool.and_false]
    rw [e X Y h]; rfl
theorem pure8 : ∀ a b : Tm, (a.All fun _ _ _ _ _ _ l => l.length < 2 ^ 63) → (b.All fun _ _ _ _ _ _ l => l.length < 2 ^ 63) → PureAt Tryz.prog 8 [tmA a, tmA b] (bV (eqT a b)) := by
  intro a
  induction a using Tm.ind with
  | h op w v nq np p X ih =>
  intro b ha hb
  obtain ⟨op', w', v', nq', np', p', Y⟩ := b
  obtain ⟨hX, ha⟩ : X.length < 2 ^ 63 ∧ ∀ t ∈ X, t.All fun _ _ _ _ _ _ l => l.length < 2 ^ 63 := by
    cases ha with | mk h1 h2 => exact ⟨h1, h2⟩
  have hb : ∀ t ∈ Y, t.All fun _ _ _ _ _ _ l => l.length < 2 ^ 63 := by
    cases hb with | mk h1 h2 => exact h2
  have q := okN_one.2 (pure25 X Y p p' hX (fun t ht b hb => ih t ht b (ha t ht) hb) hb)
  simp only [bV, mk1] at q
  rw [tmA_mk, tmA_mk]
  refine pure_fn mixed globs fn8 body8 nt8 rs8 RC_ok (fun _ => none) [4] 0 ((s8 _ op w v nq np p op' w' v' nq' np' p' _ _).trans ?_)
  have eu : ∀ l : List Tm, unTms (l.map tmA) = l := by
    intro l
    unfold unTms
    rw [List.map_map]
    have : unTm ∘ tmA = id := funext fun t => unTm_A t
    rw [this, List.map_id]
  rw [eu, eu]
  simp only [mk_slP, q, bl_bi, n11, bi_tt]
  rw [eqT]
  simp only [nbeq_dec]
  cases decide (op = op') <;> cases decide (w = w') <;> cases decide (v = v') <;> cases decide (nq = nq') <;> cases decide (np = np') <;> cases eqTs X Y <;> rfl
/-- of so many levels, with not too many operands -/
inductive Tm.Sm : Nat → Tm → Prop
  | mk {d op w v nq np p : Nat} {l : List Tm} : l.length ≤ 1000 → (∀ t ∈ l, Tm.Sm d t) → Tm.Sm (d + 1) (.mk op w v nq np p l)
theorem eqA_agg (n : Nat) (t p q r s : Nat) (cs : List AV) (h : ∀ c ∈ cs, eqA n c c = true) : eqA (n + 1) ⟨t, p, q, r, s, cs⟩ ⟨t, p, q, r, s, cs⟩ = true := by
  have key : ∀ l : List AV, (∀ c ∈ l, eqA n c c = true) → (List.rec (motive := fun _ => List AV → Bool) (fun l => List.rec (motive := fun _ => Bool) true (fun _ _ _ => false) l) (fun x _ ihl l => List.rec (motive := fun _ => Bool) false (fun y l _ => bi (eqA n x y) (ihl l) false) l) l l : Bool) = true := by
    intro l
    induction l with
    | nil => intro _; rfl
    | cons a l ih =>
      intro h
      show bi (eqA n a a) _ false = true
      rw [h a (by simp), bi_true]
      exact ih fun c hc => h c (by simp [hc])
  show bi (nbeq t t) (bi (nbeq p p) (bi (nbeq q q) (bi (nbeq r r) (bi (nbeq s s) _ false) false) false) false) false = true
  rw [nbeq_refl, nbeq_refl, nbeq_refl, nbeq_refl, nbeq_refl]
  exact key cs h
theorem eqA_tm : ∀ (d : Nat) (t : Tm), t.Sm d → ∀ n, 2 * d ≤ n → eqA n (tmA t) (tmA t) = true := by
  intro d
  induction d with
  | zero => intro t h; cases h
  | succ d ih =>
    intro t h n hn
    obtain ⟨op, w, v, nq, np, p, l⟩ := t
    have hl : ∀ t ∈ l, t.Sm d := by cases h with | mk _ h => exact h
    obtain ⟨m, rfl⟩ : ∃ m, n = m + 2 := ⟨n - 2, by omega⟩
    rw [tmA_mk]
    refine eqA_agg (m + 1) 15 0 0 0 0 _ fun c hc => ?_
    simp only [List.mem_cons, List.not_mem_nil, or_false] at hc
    rcases hc with rfl | rfl | rfl | rfl | rfl
    · exact eqA_agg m _ _ _ _ _ _ fun c hc => by cases hc
    · exact eqA_agg m _ _ _ _ _ _ fun c hc => by cases hc
    · exact eqA_agg m _ _ _ _ _ _ fun c hc => by cases hc
    · exact eqA_agg m _ _ _ _ _ _ fun c hc => by cases hc
    · refine eqA_agg m 24 p 0 5 0 _ fun c hc => ?_
      obtain ⟨t, ht, rfl⟩ := List.mem_map.1 hc
      exact ih t (hl t ht) m (by omega)
theorem pure23 : ∀ (d : Nat) (t : Tm), t.Sm d → d ≤ 400 → PureAt Tryz.prog 23 [tmA t] (tmA (cpT t)) := by
  intro d
  induction d with
  | zero => intro t h; cases h
  | succ d ih =>
  intro t ht hd
  obtain ⟨op, w, v, nq, np, p, X⟩ := t
  obtain ⟨hX, hs⟩ : X.length ≤ 1000 ∧ ∀ t ∈ X, t.Sm d := by cases ht with | mk h1 h2 => exact ⟨h1, h2⟩
  have h := walkA X (fun t => tmA (cpT t)) (fun k i p' acc => jmpN Tryz.prog 24 lab23 (baseH Tryz.prog) RC (finY Tryz.prog [.cell 2 26] [26]) (bodyC Tryz.f23) k [0,0,1,0,1,1,1] [bxD [i64 0, i64 0, u64 0, stA 0 0, mk1 17 1], bxD [i64 op, i64 w, u64 v, stA nq np, lsD p' acc], slP p 5 (X.map tmA), i64 (lenL (X.map tmA)), i64 i]) (fun p' acc => ansY (aggV [i64 op, i64 w, u64 v, stA nq np, slP (bi (nbeq p' 0) 0 1) 5 acc])) hX ?_ ?_ X.length 0 0 (by omega)
  · simp only [List.take_zero, List.map_nil] at h
    have h2 := h.trans (show _ = ansY (tmA (cpT (.mk op w v nq np p X))) by
      rw [cpT, tmA_mk, cpTs_map, List.map_map]
      split <;> rfl)
    rw [tmA_mk]
    exact pure_fn mixed globs fn23 body23 nt23 rs23 RC_ok lab23 [26] (X.length + 1) ((s23 _ op w v nq np p _).trans h2)
  · intro k p' acc ha
    have hx : X.length < 2 ^ 63 := by omega
    show jmpN _ _ _ _ _ _ _ (k + 1) _ _ = _
    rw [jmpN_succ, l23]
    simp only [bl_bi, n11, n01, lenL_map, biased_le hx hx, Nat.le_refl, decide_true, nb_t, bi_ff, takeN_self, mk_slP, mk_i64, mk_u64, mk_stA, mk_agg]
  · intro k i p' acc hlt ha
    have hx : X.length < 2 ^ 63 := by omega
    have hi63 : i < 2 ^ 63 := by omega
    have q := okN_one.2 (ih X[i] (hs _ (List.getElem_mem hlt)) (by omega))
    have e1 : ∀ r, eqA 1000 ⟨25, p', 5, r, 0, []⟩ ⟨25, p', 5, r, 0, []⟩ = true := fun r => eqA_agg 999 _ _ _ _ _ _ fun c hc => by cases hc
    have e2 := eqA_tm d X[i] (hs _ (List.getElem_mem hlt)) 1000 (by omega)
    show jmpN _ _ _ _ _ _ _ (k + 1) _ _ = _
    rw [jmpN_succ, l23]
    simp only [lenL_map, biased_le hx hi63, show ¬ X.length ≤ i by omega, decide_false, nb_f, bi_tt, nble_t (show i.succ ≤ X.length from hlt), nthL_map tmA X i hlt, succ_mod hi63, q, e1, e2, takeN_self, takeN_snoc, nth1, cells_tm, n5_0, n5_1, n5_2, n5_3, n5_4, tg_i, tg_u, tg_s, tg_l, i64_p, u64_p, stA_p, stA_q, slP_p, slP_cs, mk_i64, mk_u64, mk_stA, mk_slP, mk_agg, mk_bx, mk_ls, mk_tm, unTm_A, bl_bi, n11, n01]
    rw [lenL_eq, ha, ble_100k (by omega), bi_tt]

    rfl
end Go.Eng
namespace Go.Eng
open Go.RowKit Go.Proofs
noncomputable section
def arR (x : Nat) : Nat := bi (knN x) (bi (leafR x) 0 (bi (isS x [3, 4, 21, 22, 23, 26]) 1 (bi (nbeq x 19) 3 2))) 18446744073709551615
def NtE : Nat → Option Native := ntL [(131, natP Tryz.prog 131 [22] fun l => bV (knN (nthL l 0).p)), (132, natP Tryz.prog 132 [3] fun l => bV (insN (nthL l 0).p)),
  (154, natP Tryz.prog 154 [3] fun l => bV (insN (nthL l 0).p)), (135, natP Tryz.prog 135 [4, 3] fun l => tupV [i64 (bi (nbeq (nthL l 0).p 1) (nthL l 1).p 0), i64 (bi (nbeq (nthL l 0).p 1) 0 3)]),
  (158, natP Tryz.prog 158 [22, 231] fun l => bV (isA (nthL l 0).p (nthL l 1).cs)), (106, natP Tryz.prog 106 [22] fun l => i64 (arN (nthL l 0).p)), (102, natP Tryz.prog 102 [22] fun l => i64 (arR (nthL l 0).p)), (155, natP Tryz.prog 155 [22] fun l => bV (leafR (nthL l 0).p)),
  (133, natP Tryz.prog 133 [22, 3, 23] fun l => tupV [i64 (bi (lfP (nthL l 0).p (nthL l 1).p (nthL l 2).p) (nthL l 1).p 0), i64 (bi (lfP (nthL l 0).p (nthL l 1).p (nthL l 2).p) 0 3)]),
  (156, natP Tryz.prog 156 [22, 3, 23] fun l => tupV [i64 (bi (lfP (nthL l 0).p (nthL l 1).p (nthL l 2).p) (nthL l 1).p 0), i64 (bi (lfP (nthL l 0).p (nthL l 1).p (nthL l 2).p) 0 3)]),
  (134, natP Tryz.prog 134 [22, 3, 23, 3] fun l => tupV [i64 (bi (rsP (nthL l 0).p (nthL l 1).p (nthL l 2).p (nthL l 3).p) (nthL l 1).p 0), i64 (bi (rsP (nthL l 0).p (nthL l 1).p (nthL l 2).p (nthL l 3).p) 0 3)]),
  (157, natP Tryz.prog 157 [22, 3, 23, 3] fun l => tupV [i64 (bi (rsP (nthL l 0).p (nthL l 1).p (nthL l 2).p (nthL l 3).p) (nthL l 1).p 0), i64 (bi (rsP (nthL l 0).p (nthL l 1).p (nthL l 2).p (nthL l 3).p) 0 3)])]
def RE : Rec := evN Tryz.prog NtE (fun _ => false) 2
def zeroT : Tm := .mk 0 0 0 0 0 0 []
def lightO (t : Tm) (d n : Nat) : Tm := match cnt t d n with | none => zeroT | some _ => t
def lightB (t : Tm) (d n : Nat) : Bool := match cnt t d n with | none => false | some _ => true
def NtF : Nat → Option Native := ntL [(28, natP Tryz.prog 28 [26, 3, 3] fun l => i64 (cntN (unTm (nthL l 0)) (nthL l 1).p (nthL l 2).p)), (8, natP Tryz.prog 8 [26, 26] fun l => bV (eqT (unTm (nthL l 0)) (unTm (nthL l 1)))),
  (23, natP Tryz.prog 23 [26] fun l => tmE (cpT (unTm (nthL l 0)))), (26, natP Tryz.prog 26 [22, 26, 26] fun l => tmV (nthL l 0).p 1 0 0 0 1 [nthL l 1, nthL l 2]), (27, natP Tryz.prog 27 [22, 3, 26, 26] fun l => tmV (nthL l 0).p (nthL l 1).p 0 0 0 1 [nthL l 2, nthL l 3]),
  (12, natP Tryz.prog 12 [26, 3, 3] fun l => tupV [tmE (lightO (unTm (nthL l 0)) (nthL l 1).p (nthL l 2).p), bV (lightB (unTm (nthL l 0)) (nthL l 1).p (nthL l 2).p)])]
def RF : Rec := evN Tryz.prog NtF (fun _ => false) 2
end
end Go.Eng
namespace Go.Eng
open Go.RowKit Go.Proofs
theorem s102 (J : Jmp) (x : Nat) : (compY Tryz.prog 16 (fun _ => none) (finY Tryz.prog [.tmp 2] [3]) J [] (bodyC Tryz.f102) (finY Tryz.prog [.tmp 2] [3]) []).run RE (setArgs 0 [i64 x] noFr) (baseH Tryz.prog) =
  (bi (nbeq (bi (nb (nble 9223372036854775809 (biased 3 x))) 1 0) 0)
    (bi (nbeq (bi (nb (nble (biased 3 x) 9223372036854775834)) 1 0) 1)
      (ansY { tag := 3, p := 18446744073709551615, q := 0, r := 0, s := 0, cs := [] })
      (bi (nbeq (okN (PureAt Tryz.prog 155 [{ tag := 3, p := x, q := 0, r := 0, s := 0, cs := [] }] { tag := 8, p := bi (leafR x) 1 0, q := 0, r := 0, s := 0, cs := [] })) 1)
        (bi (nbeq (bi (leafR x) 1 0) 1)
          (ansY { tag := 3, p := 0, q := 0, r := 0, s := 0, cs := [] })
          (bi (nbeq (okN (PureAt Tryz.prog 158 [{ tag := 3, p := x, q := 0, r := 0, s := 0, cs := [] }, { tag := 24, p := 1, q := 0, r := 1, s := 0, cs := [{ tag := 3, p := 3, q := 0, r := 0, s := 0, cs := [] }, { tag := 3, p := 4, q := 0, r := 0, s := 0, cs := [] }, { tag := 3, p := 21, q := 0, r := 0, s := 0, cs := [] }, { tag := 3, p := 22, q := 0, r := 0, s := 0, cs := [] }, { tag := 3, p := 23, q := 0, r := 0, s := 0, cs := [] }, { tag := 3, p := 26, q := 0, r := 0, s := 0, cs := [] }] }] { tag := 8, p := bi (isA x [{ tag := 3, p := 3, q := 0, r := 0, s := 0, cs := [] }, { tag := 3, p := 4, q := 0, r := 0, s := 0, cs := [] }, { tag := 3, p := 21, q := 0, r := 0, s := 0, cs := [] }, { tag := 3, p := 22, q := 0, r := 0, s := 0, cs := [] }, { tag := 3, p := 23, q := 0, r := 0, s := 0, cs := [] }, { tag := 3, p := 26, q := 0, r := 0, s := 0, cs := [] }]) 1 0, q := 0, r := 0, s := 0, cs := [] })) 1)
            (bi (nbeq (bi (isA x [{ tag := 3, p := 3, q := 0, r := 0, s := 0, cs := [] }, { tag := 3, p := 4, q := 0, r := 0, s := 0, cs := [] }, { tag := 3, p := 21, q := 0, r := 0, s := 0, cs := [] }, { tag := 3, p := 22, q := 0, r := 0, s := 0, cs := [] }, { tag := 3, p := 23, q := 0, r := 0, s := 0, cs := [] }, { tag := 3, p := 26, q := 0, r := 0, s := 0, cs := [] }]) 1 0) 1)
              (ansY { tag := 3, p := 1, q := 0, r := 0, s := 0, cs := [] })
              (bi (nbeq (bi (nbeq x 19) 1 0) 1)
                (ansY { tag := 3, p := 3, q := 0, r := 0, s := 0, cs := [] })
                (ansY { tag := 3, p := 2, q := 0, r := 0, s := 0, cs := [] })))
            (failR 301)))
        (failR 301)))
    (ansY { tag := 3, p := 18446744073709551615, q := 0, r := 0, s := 0, cs := [] })) := by kernel_rfl
theorem body102 : Tryz.f102.body = some (bodyC Tryz.f102) := by kernel_rfl
theorem fn102 : Tryz.prog.funcs[102]? = some Tryz.f102 := by kernel_rfl
theorem nt102 : Tryz.f102.ntmps = 16 := by kernel_rfl
theorem rs102 : Tryz.f102.results.toList = [.tmp 2] := by kernel_rfl

theorem RE_ok : RecOk Tryz.prog RE := evN_ok mixed (ntL_cons (ntL_cons (ntL_cons (ntL_cons (ntL_cons (ntL_cons (ntL_cons (ntL_cons (ntL_cons (ntL_cons (ntL_cons (ntL_cons ntL_nil)))))))))))) noGor 2
theorem RF_ok : RecOk Tryz.prog RF := evN_ok mixed (ntL_cons (ntL_cons (ntL_cons (ntL_cons (ntL_cons (ntL_cons ntL_nil)))))) noGor 2
theorem pure102 (x : Nat) : PureAt Tryz.prog 102 [i64 x] (i64 (arR x)) := by
  refine pure_fn mixed globs fn102 body102 nt102 rs102 RE_ok (fun _ => none) [3] 0 ((s102 _ x).trans ?_)
  have p := okN_one.2 (pure155 x)
  have q := okN_one.2 (pure158 x 1 [3, 4, 21, 22, 23, 26] (by decide))
  have e : isA x [i64 3, i64 4, i64 21, i64 22, i64 23, i64 26] = isS x [3, 4, 21, 22, 23, 26] := rfl
  simp only [i64, bV, mk1] at p e
  rw [e]
  simp only [i64, bV, mk1, slP, List.map_cons, List.map_nil] at q
  rw [p, q]
  unfold arR knN
  simp only [bl_bi, b0, n11, n01, n00, n10, bi_tt, bi_ff]
  cases nble 9223372036854775809 (biased 3 x) <;> cases nble (biased 3 x) 9223372036854775834 <;> cases leafR x <;> cases isS x [3, 4, 21, 22, 23, 26] <;> cases nbeq x 19 <;> rfl
/-- how many operands -/
def arT (x : Nat) : Nat := if x = 0 ∨ 26 < x then 18446744073709551615 else if x = 1 ∨ x = 2 ∨ x = 24 ∨ x = 25 then 0 else if x = 3 ∨ x = 4 ∨ x = 21 ∨ x = 22 ∨ x = 23 ∨ x = 26 then 1 else if x = 19 then 3 else 2
theorem kn_iff {x : Nat} (hx : x < 2 ^ 64) : knN x = decide (1 ≤ x ∧ x ≤ 26) := by
  unfold knN
  rw [nble_dec, nble_dec, biased3, Bool.eq_iff_iff, bi_and, decide_eq_true_eq, decide_eq_true_eq, decide_eq_true_eq]
  omega
theorem leafR_iff (x : Nat) : leafR x = decide (x = 1 ∨ x = 2 ∨ x = 24 ∨ x = 25) := by
  unfold leafR isS
  simp only [List.any_cons, List.any_nil, nbeq_dec, Bool.or_false]
  rw [Bool.eq_iff_iff]
  simp only [Bool.or_eq_true, decide_eq_true_eq]
  omega
theorem is2_iff (x : Nat) : isS x [3, 4, 21, 22, 23, 26] = decide (x = 3 ∨ x = 4 ∨ x = 21 ∨ x = 22 ∨ x = 23 ∨ x = 26) := by
  unfold isS
  simp only [List.any_cons, List.any_nil, nbeq_dec, Bool.or_false]
  rw [Bool.eq_iff_iff]
  simp only [Bool.or_eq_true, decide_eq_true_eq]
  omega
theorem arR_eq {x : Nat} (hx : x < 2 ^ 64) : arR x = arT x := by
  unfold arR arT
  rw [kn_iff hx, leafR_iff, is2_iff, nbeq_dec]
  simp only [bi_if, decide_eq_true_eq]
  by_cases h : 1 ≤ x ∧ x ≤ 26
  · rw [if_pos h, if_neg (show ¬ (x = 0 ∨ 26 < x) by omega)]
  · rw [if_neg h, if_pos (show x = 0 ∨ 26 < x by omega)]
theorem arN_eq (x : Nat) : arN x = arT x := by
  by_cases h : x ≤ 26
  · have : ∀ x, x ≤ 26 → arN x = arT x := by
      intro x hx
      rcases (by omega : x = 0 ∨ x = 1 ∨ x = 2 ∨ x = 3 ∨ x = 4 ∨ x = 5 ∨ x = 6 ∨ x = 7 ∨ x = 8 ∨ x = 9 ∨ x = 10 ∨ x = 11 ∨ x = 12 ∨ x = 13 ∨ x = 14 ∨ x = 15 ∨ x = 16 ∨ x = 17 ∨ x = 18 ∨ x = 19 ∨ x = 20 ∨ x = 21 ∨ x = 22 ∨ x = 23 ∨ x = 24 ∨ x = 25 ∨ x = 26) with rfl | rfl | rfl | rfl | rfl | rfl | rfl | rfl | rfl | rfl | rfl | rfl | rfl | rfl | rfl | rfl | rfl | rfl | rfl | rfl | rfl | rfl | rfl | rfl | rfl | rfl | rfl <;> rfl
    exact this x h
  · have hk : ∀ k, k < 27 → nbeq x k = false := fun k hk => beq_false.2 (by omega)
    unfold arN arT
    rw [if_pos (by omega)]
    simp only [hk 1 (by decide), hk 2 (by decide), hk 3 (by decide), hk 4 (by decide), hk 5 (by decide), hk 6 (by decide), hk 7 (by decide), hk 8 (by decide), hk 9 (by decide), hk 10 (by decide), hk 11 (by decide), hk 12 (by decide), hk 13 (by decide), hk 14 (by decide), hk 15 (by decide), hk 16 (by decide), hk 17 (by decide), hk 18 (by decide), hk 19 (by decide), hk 20 (by decide), hk 21 (by decide), hk 22 (by decide), hk 23 (by decide), hk 24 (by decide), hk 25 (by decide), hk 26 (by decide), bi_ff]
/-- the width of an operator's value, or the error -/
noncomputable def wdP (op w v : Nat) (ws : List Nat) : Nat × Nat :=
  if op = 0 ∨ 26 < op ∨ ws.length ≠ arT op then (0, 4) else if ws.all (fun a => decide (a ≤ 64)) = false then (0, 3) else
  match ws with
  | [] => (if lfP op w v = true then (w, 0) else (0, 3))
  | [a] => if op = 21 ∨ op = 22 ∨ op = 23 then (if rsP op w v a = true then (w, 0) else (0, 3)) else (a, 0)
  | [a, b] => if op = 20 then (if 1 ≤ a ∧ 1 ≤ b ∧ a + b ≤ 64 then (a + b, 0) else (0, 3)) else if a = b then (if op = 16 ∨ op = 17 ∨ op = 18 then (1, 0) else (a, 0)) else (0, 3)
  | [a, b, c] => if a = 1 ∧ b = c then (b, 0) else (0, 3)
  | _ => (0, 4)
end Go.Eng
