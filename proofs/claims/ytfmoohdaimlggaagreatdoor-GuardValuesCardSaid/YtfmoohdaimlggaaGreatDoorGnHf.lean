
/- A part of the proof that the evaluator in GnC, and the driver in GnZ, answer as the model does; no conditions. -/
import Derived.Test.YtfmoohdaimlggaaGreatDoorGnHe
namespace Go.Eng
open Go.RowKit Go.Proofs
set_option maxRecDepth 4000
theorem s28 (J : Jmp) (lp nq nn : Nat) (ll : List AV) : (compY Tryz.prog 21 lab28 (finY Tryz.prog [.tmp 4, .tmp 5] [23, 4]) J [] (bodyC Tryz.f28) (finY Tryz.prog [.tmp 4, .tmp 5] [23, 4]) []).run RVl (setArgs 0 [slP lp 2 ll, stA nq nn] noFr) (baseH Tryz.prog) =
  (J [0, 0, 1, 0, 1] [(stA nq nn), ⟨24, lp, 0, 2, 0, ll⟩, (i64 (lenL ll)), (i64 0)]) := by kernel_rfl
theorem l28 (J : Jmp) (nq nn lp k i : Nat) (ll : List AV) : lblY Tryz.prog 21 lab28 (baseH Tryz.prog) RVl (finY Tryz.prog [.tmp 4, .tmp 5] [23, 4]) (bodyC Tryz.f28) J [0,0,1,0,1] [stA nq nn, slP lp 2 ll, i64 k, i64 i] =
  (bi (nbeq (bi (nb (nble (biased 3 k) (biased 3 i))) 1 0) 1)
 (bi (nble i.succ (lenL ll))
 (bi (bi (tagIs 9 (nthL (bi (nbeq (nthL [nthL ll i] 0).1 15) (nthL [nthL ll i] 0).6 [nthL [nthL ll i] 0]) 0)) (bi (tagIs 7 (nthL (bi (nbeq (nthL [nthL ll i] 0).1 15) (nthL [nthL ll i] 0).6 [nthL [nthL ll i] 0]) (Nat.succ 0))) true false) false)
 (bi (nbeq (bi (bi (nbeq (nthL (bi (nbeq (nthL [nthL ll i] 0).1 15) (nthL [nthL ll i] 0).6 [nthL [nthL ll i] 0]) 0).3 nq) (nbeq (nthL (bi (nbeq (nthL [nthL ll i] 0).1 15) (nthL [nthL ll i] 0).6 [nthL [nthL ll i] 0]) 0).2 nn) false) 1 0) 1)
 (ansY (tupV [(u64 ((nthL (bi (nbeq (nthL [nthL ll i] 0).1 15) (nthL [nthL ll i] 0).6 [nthL [nthL ll i] 0]) (Nat.succ 0)).2)), (mk1 8 1)]))
 (J [0, 0, 1, 0, 1] [(stA nq nn), ⟨24, lp, 0, 2, 0, ll⟩, (i64 k), (i64 (g_addi i 1))]))
 (failR 201))
 (failR 205))
 (ansY (tupV [(u64 0), (mk1 8 0)]))) := by kernel_rfl
theorem s31 (J : Jmp) (lp nq nn : Nat) (ll : List AV) : (compY Tryz.prog 25 lab31 (finY Tryz.prog [.tmp 4, .tmp 5] [23, 4]) J [] (bodyC Tryz.f31) (finY Tryz.prog [.tmp 4, .tmp 5] [23, 4]) []).run RVl (setArgs 0 [slP lp 2 ll, stA nq nn] noFr) (baseH Tryz.prog) =
  (J [0, 0, 1, 0, 1] [⟨24, lp, 0, 2, 0, ll⟩, (stA nq nn), (i64 0)]) := by kernel_rfl
theorem l31 (J : Jmp) (lp nq nn i : Nat) (ll : List AV) : lblY Tryz.prog 25 lab31 (baseH Tryz.prog) RVl (finY Tryz.prog [.tmp 4, .tmp 5] [23, 4]) (bodyC Tryz.f31) J [0,0,1,0,1] [slP lp 2 ll, stA nq nn, i64 i] =
  (bi (nbeq (bi (nb (nble (biased 3 (lenL ll)) (biased 3 i))) 1 0) 1)
 (bi (nble i.succ (lenL ll))
 (bi (bi (tagIs 9 (nthL (bi (nbeq (nthL [nthL [nthL ll i] 0] 0).1 15) (nthL [nthL [nthL ll i] 0] 0).6 [nthL [nthL [nthL ll i] 0] 0]) 0)) true false)
 (bi (nbeq (bi (bi (nbeq (nthL (bi (nbeq (nthL [nthL [nthL ll i] 0] 0).1 15) (nthL [nthL [nthL ll i] 0] 0).6 [nthL [nthL [nthL ll i] 0] 0]) 0).3 nq) (nbeq (nthL (bi (nbeq (nthL [nthL [nthL ll i] 0] 0).1 15) (nthL [nthL [nthL ll i] 0] 0).6 [nthL [nthL [nthL ll i] 0] 0]) 0).2 nn) false) 1 0) 1)
 (bi (nble i.succ (lenL ll))
 (bi (bi (tagIs 7 (nthL (bi (nbeq (nthL [nthL [nthL ll i] 0] 0).1 15) (nthL [nthL [nthL ll i] 0] 0).6 [nthL [nthL [nthL ll i] 0] 0]) 1)) true false)
 (ansY (tupV [(u64 ((nthL (bi (nbeq (nthL [nthL [nthL ll i] 0] 0).1 15) (nthL [nthL [nthL ll i] 0] 0).6 [nthL [nthL [nthL ll i] 0] 0]) 1).2)), (mk1 8 1)]))
 (failR 201))
 (failR 205))
 (J [0, 0, 1, 0, 1] [⟨24, lp, 0, 2, 0, ll⟩, (stA nq nn), (i64 (g_addi i 1))]))
 (failR 201))
 (failR 205))
 (ansY (tupV [(u64 0), (mk1 8 0)]))) := by kernel_rfl
theorem s10 (J : Jmp) (to tw tv tq tn tp lp : Nat) (tl ll : List AV) : (compY Tryz.prog 83 lab10 (finY Tryz.prog [.tmp 4, .tmp 5] [23, 4]) J [] (bodyC Tryz.f10) (finY Tryz.prog [.tmp 4, .tmp 5] [23, 4]) []).run RVl (setArgs 0 [tmV to tw tv tq tn tp tl, slP lp 2 ll] noFr) (baseH Tryz.prog) =
  (bi (nbeq (bi (nbeq to 25) 1 0) 1)
 (bi (nbeq (okN (PureAt Tryz.prog 28 [⟨24, lp, 0, 2, 0, ll⟩, (stA tq tn)] (tupV [(u64 (sp_lk ll tq tn)), (mk1 8 (bi (sp_lb ll tq tn) 1 0))]))) 1)
 (bi (nbeq (Nat.sub 1 (bi (sp_lb ll tq tn) 1 0)) 0)
 (bi (nbeq (bi (nb (nble 9223372036854775809 (biased 3 tw))) 1 0) 0)
 (bi (nbeq (bi (nb (nble (biased 3 tw) 9223372036854775872)) 1 0) 1)
 (ansY (tupV [(u64 0), (mk1 8 0)]))
 (bi (nbeq (okN (PureAt Tryz.prog 29 [(i64 tw), (u64 (sp_lk ll tq tn))] (u64 (cutN tw (sp_lk ll tq tn))))) 1)
 (ansY (tupV [(u64 (cutN tw (sp_lk ll tq tn))), (mk1 8 1)]))
 (failR 301)))
 (ansY (tupV [(u64 0), (mk1 8 0)])))
 (ansY (tupV [(u64 0), (mk1 8 0)])))
 (failR 301))
 (bi (nbeq (bi (nbeq to 24) 1 0) 1)
 (ansY (tupV [(u64 0), (mk1 8 0)]))
 (bi (nbeq (bi (nbeq to 1) 1 0) 1)
 (ansY (tupV [(u64 0), (mk1 8 0)]))
 (bi (nbeq (bi (nbeq to 26) 1 0) 1)
 (ansY (tupV [(u64 0), (mk1 8 0)]))
 (J [0, 0, 1, 0, 1, 1, 1] [⟨24, lp, 0, 2, 0, ll⟩, ⟨16, 0, 0, 1, 0, [(i64 to), (i64 tw), (u64 tv), (stA tq tn), ⟨24, tp, 0, 5, 0, tl⟩]⟩, (tupV []), ⟨24, tp, 0, 5, 0, tl⟩, (i64 (lenL tl)), (i64 0)]))))) := by kernel_rfl
theorem l10 (J : Jmp) (lp to tw tv tq tn tp wp ap k i : Nat) (ll tl wl al : List AV) : lblY Tryz.prog 83 lab10 (baseH Tryz.prog) RVl (finY Tryz.prog [.tmp 4, .tmp 5] [23, 4]) (bodyC Tryz.f10) J [0,0,1,0,1,1,1] [slP lp 2 ll, bxD [i64 to, i64 tw, u64 tv, stA tq tn, slP tp 5 tl], lsD wp wl, slP ap 5 al, i64 k, i64 i] =
  (bi (nbeq (bi (nb (nble (biased 3 k) (biased 3 i))) 1 0) 1)
 (bi (nble i.succ (lenL al))
 (bi (bi (tagIs 3 (nthL (bi (nbeq (nthL [nthL al i] 0).1 15) (nthL [nthL al i] 0).6 [nthL [nthL al i] 0]) 0)) (bi (tagIs 3 (nthL (bi (nbeq (nthL [nthL al i] 0).1 15) (nthL [nthL al i] 0).6 [nthL [nthL al i] 0]) (Nat.succ 0))) (bi (tagIs 7 (nthL (bi (nbeq (nthL [nthL al i] 0).1 15) (nthL [nthL al i] 0).6 [nthL [nthL al i] 0]) (Nat.succ 0).succ)) (bi (tagIs 9 (nthL (bi (nbeq (nthL [nthL al i] 0).1 15) (nthL [nthL al i] 0).6 [nthL [nthL al i] 0]) (Nat.succ 0).succ.succ)) (bi (tagIs 37 (nthL (bi (nbeq (nthL [nthL al i] 0).1 15) (nthL [nthL al i] 0).6 [nthL [nthL al i] 0]) (Nat.succ 0).succ.succ.succ)) true false) false) false) false) false)
 (bi (nbeq (okN (PureAt Tryz.prog 10 [⟨15, 0, 0, 0, 0, [(i64 ((nthL (bi (nbeq (nthL [nthL al i] 0).1 15) (nthL [nthL al i] 0).6 [nthL [nthL al i] 0]) 0).2)), (i64 ((nthL (bi (nbeq (nthL [nthL al i] 0).1 15) (nthL [nthL al i] 0).6 [nthL [nthL al i] 0]) (Nat.succ 0)).2)), (u64 ((nthL (bi (nbeq (nthL [nthL al i] 0).1 15) (nthL [nthL al i] 0).6 [nthL [nthL al i] 0]) (Nat.succ 0).succ).2)), (stA ((nthL (bi (nbeq (nthL [nthL al i] 0).1 15) (nthL [nthL al i] 0).6 [nthL [nthL al i] 0]) (Nat.succ 0).succ.succ).3) ((nthL (bi (nbeq (nthL [nthL al i] 0).1 15) (nthL [nthL al i] 0).6 [nthL [nthL al i] 0]) (Nat.succ 0).succ.succ).2)), ⟨24, (nthL (bi (nbeq (nthL [nthL al i] 0).1 15) (nthL [nthL al i] 0).6 [nthL [nthL al i] 0]) (Nat.succ 0).succ.succ.succ).2, 0, 5, 0, (nthL (bi (nbeq (nthL [nthL al i] 0).1 15) (nthL [nthL al i] 0).6 [nthL [nthL al i] 0]) (Nat.succ 0).succ.succ.succ).6⟩]⟩, ⟨24, lp, 0, 2, 0, ll⟩] ⟨16, 0, 0, 0, 0, [⟨7, sp_vv (unTm ⟨15, 0, 0, 0, 0, [(i64 ((nthL (bi (nbeq (nthL [nthL al i] 0).1 15) (nthL [nthL al i] 0).6 [nthL [nthL al i] 0]) 0).2)), (i64 ((nthL (bi (nbeq (nthL [nthL al i] 0).1 15) (nthL [nthL al i] 0).6 [nthL [nthL al i] 0]) (Nat.succ 0)).2)), (u64 ((nthL (bi (nbeq (nthL [nthL al i] 0).1 15) (nthL [nthL al i] 0).6 [nthL [nthL al i] 0]) (Nat.succ 0).succ).2)), (stA ((nthL (bi (nbeq (nthL [nthL al i] 0).1 15) (nthL [nthL al i] 0).6 [nthL [nthL al i] 0]) (Nat.succ 0).succ.succ).3) ((nthL (bi (nbeq (nthL [nthL al i] 0).1 15) (nthL [nthL al i] 0).6 [nthL [nthL al i] 0]) (Nat.succ 0).succ.succ).2)), ⟨24, (nthL (bi (nbeq (nthL [nthL al i] 0).1 15) (nthL [nthL al i] 0).6 [nthL [nthL al i] 0]) (Nat.succ 0).succ.succ.succ).2, 0, 5, 0, (nthL (bi (nbeq (nthL [nthL al i] 0).1 15) (nthL [nthL al i] 0).6 [nthL [nthL al i] 0]) (Nat.succ 0).succ.succ.succ).6⟩]⟩) ll, 0, 0, 0, []⟩, ⟨8, bi (sp_vb (unTm ⟨15, 0, 0, 0, 0, [(i64 ((nthL (bi (nbeq (nthL [nthL al i] 0).1 15) (nthL [nthL al i] 0).6 [nthL [nthL al i] 0]) 0).2)), (i64 ((nthL (bi (nbeq (nthL [nthL al i] 0).1 15) (nthL [nthL al i] 0).6 [nthL [nthL al i] 0]) (Nat.succ 0)).2)), (u64 ((nthL (bi (nbeq (nthL [nthL al i] 0).1 15) (nthL [nthL al i] 0).6 [nthL [nthL al i] 0]) (Nat.succ 0).succ).2)), (stA ((nthL (bi (nbeq (nthL [nthL al i] 0).1 15) (nthL [nthL al i] 0).6 [nthL [nthL al i] 0]) (Nat.succ 0).succ.succ).3) ((nthL (bi (nbeq (nthL [nthL al i] 0).1 15) (nthL [nthL al i] 0).6 [nthL [nthL al i] 0]) (Nat.succ 0).succ.succ).2)), ⟨24, (nthL (bi (nbeq (nthL [nthL al i] 0).1 15) (nthL [nthL al i] 0).6 [nthL [nthL al i] 0]) (Nat.succ 0).succ.succ.succ).2, 0, 5, 0, (nthL (bi (nbeq (nthL [nthL al i] 0).1 15) (nthL [nthL al i] 0).6 [nthL [nthL al i] 0]) (Nat.succ 0).succ.succ.succ).6⟩]⟩) ll) 1 0, 0, 0, 0, []⟩]⟩)) 1)
 (bi (nbeq (Nat.sub 1 (bi (sp_vb (unTm ⟨15, 0, 0, 0, 0, [(i64 ((nthL (bi (nbeq (nthL [nthL al i] 0).1 15) (nthL [nthL al i] 0).6 [nthL [nthL al i] 0]) 0).2)), (i64 ((nthL (bi (nbeq (nthL [nthL al i] 0).1 15) (nthL [nthL al i] 0).6 [nthL [nthL al i] 0]) (Nat.succ 0)).2)), (u64 ((nthL (bi (nbeq (nthL [nthL al i] 0).1 15) (nthL [nthL al i] 0).6 [nthL [nthL al i] 0]) (Nat.succ 0).succ).2)), (stA ((nthL (bi (nbeq (nthL [nthL al i] 0).1 15) (nthL [nthL al i] 0).6 [nthL [nthL al i] 0]) (Nat.succ 0).succ.succ).3) ((nthL (bi (nbeq (nthL [nthL al i] 0).1 15) (nthL [nthL al i] 0).6 [nthL [nthL al i] 0]) (Nat.succ 0).succ.succ).2)), ⟨24, (nthL (bi (nbeq (nthL [nthL al i] 0).1 15) (nthL [nthL al i] 0).6 [nthL [nthL al i] 0]) (Nat.succ 0).succ.succ.succ).2, 0, 5, 0, (nthL (bi (nbeq (nthL [nthL al i] 0).1 15) (nthL [nthL al i] 0).6 [nthL [nthL al i] 0]) (Nat.succ 0).succ.succ.succ).6⟩]⟩) ll) 1 0)) 1)
 (ansY (tupV [(u64 0), (mk1 8 0)]))
 (bi (nble ((lenL (takeN (lenL wl) wl)).add 1) 100000)
 (J [0, 0, 1, 0, 1, 1, 1] [⟨24, lp, 0, 2, 0, ll⟩, ⟨16, 0, 0, 1, 0, [(i64 to), (i64 tw), (u64 tv), (stA tq tn), ⟨24, tp, 0, 5, 0, tl⟩]⟩, ⟨16, 1, 0, 0, 0, takeN ((lenL (takeN (lenL wl) wl)).add 1) (appL (takeN (lenL wl) wl) [⟨15, 0, 0, 0, 0, [(i64 ((nthL (bi (nbeq (nthL [nthL al i] 0).1 15) (nthL [nthL al i] 0).6 [nthL [nthL al i] 0]) (Nat.succ 0)).2)), ⟨7, sp_vv (unTm ⟨15, 0, 0, 0, 0, [(i64 ((nthL (bi (nbeq (nthL [nthL al i] 0).1 15) (nthL [nthL al i] 0).6 [nthL [nthL al i] 0]) 0).2)), (i64 ((nthL (bi (nbeq (nthL [nthL al i] 0).1 15) (nthL [nthL al i] 0).6 [nthL [nthL al i] 0]) (Nat.succ 0)).2)), (u64 ((nthL (bi (nbeq (nthL [nthL al i] 0).1 15) (nthL [nthL al i] 0).6 [nthL [nthL al i] 0]) (Nat.succ 0).succ).2)), (stA ((nthL (bi (nbeq (nthL [nthL al i] 0).1 15) (nthL [nthL al i] 0).6 [nthL [nthL al i] 0]) (Nat.succ 0).succ.succ).3) ((nthL (bi (nbeq (nthL [nthL al i] 0).1 15) (nthL [nthL al i] 0).6 [nthL [nthL al i] 0]) (Nat.succ 0).succ.succ).2)), ⟨24, (nthL (bi (nbeq (nthL [nthL al i] 0).1 15) (nthL [nthL al i] 0).6 [nthL [nthL al i] 0]) (Nat.succ 0).succ.succ.succ).2, 0, 5, 0, (nthL (bi (nbeq (nthL [nthL al i] 0).1 15) (nthL [nthL al i] 0).6 [nthL [nthL al i] 0]) (Nat.succ 0).succ.succ.succ).6⟩]⟩) ll, 0, 0, 0, []⟩]⟩])⟩, ⟨24, ap, 0, 5, 0, al⟩, (i64 k), (i64 (g_addi i 1))])
 (failR 211)))
 (failR 301))
 (failR 201))
 (failR 205))
 (bi (nbeq (okN (PureAt Tryz.prog 30 [(i64 to), (i64 tw), (u64 tv), ⟨24, bi (nbeq wp 0) 0 1, 0, 2, 0, takeN (lenL wl) wl⟩] (tupV [(u64 (sp_apv to tw tv (takeN (lenL wl) wl))), (i64 (sp_ape to tw tv (takeN (lenL wl) wl)))]))) 1)
 (ansY (tupV [(u64 (sp_apv to tw tv (takeN (lenL wl) wl))), (mk1 8 (bi (nbeq (sp_ape to tw tv (takeN (lenL wl) wl)) 0) 1 0))]))
 (failR 301))) := by kernel_rfl
theorem s11 (J : Jmp) (to tw tv tq tn tp lp : Nat) (tl ll : List AV) : (compY Tryz.prog 89 lab11 (finY Tryz.prog [.tmp 4, .tmp 5] [23, 4]) J [] (bodyC Tryz.f11) (finY Tryz.prog [.tmp 4, .tmp 5] [23, 4]) []).run RVl (setArgs 0 [tmV to tw tv tq tn tp tl, slP lp 2 ll] noFr) (baseH Tryz.prog) =
  (bi (nbeq (bi (nbeq to 24) 1 0) 1)
 (ansY (tupV [(u64 0), (mk1 8 0)]))
 (bi (nbeq (bi (nbeq to 1) 1 0) 1)
 (ansY (tupV [(u64 0), (mk1 8 0)]))
 (bi (nbeq (bi (nbeq to 26) 1 0) 1)
 (ansY (tupV [(u64 0), (mk1 8 0)]))
 (bi (nbeq (bi (nbeq to 25) 1 0) 1)
 (bi (nbeq (okN (PureAt Tryz.prog 31 [⟨24, lp, 0, 2, 0, ll⟩, (stA tq tn)] (tupV [(u64 (sp_lk ll tq tn)), (mk1 8 (bi (sp_lb ll tq tn) 1 0))]))) 1)
 (bi (nbeq (Nat.sub 1 (bi (sp_lb ll tq tn) 1 0)) 0)
 (bi (nbeq (bi (nb (nble 9223372036854775809 (biased 3 tw))) 1 0) 0)
 (bi (nbeq (bi (nb (nble (biased 3 tw) 9223372036854775872)) 1 0) 1)
 (ansY (tupV [(u64 0), (mk1 8 0)]))
 (bi (nbeq (okN (PureAt Tryz.prog 32 [(i64 tw), (u64 (sp_lk ll tq tn))] (u64 (cutN tw (sp_lk ll tq tn))))) 1)
 (ansY (tupV [(u64 (cutN tw (sp_lk ll tq tn))), (mk1 8 1)]))
 (failR 301)))
 (ansY (tupV [(u64 0), (mk1 8 0)])))
 (ansY (tupV [(u64 0), (mk1 8 0)])))
 (failR 301))
 (J [0, 0, 1, 0, 1, 1, 1] [⟨24, lp, 0, 2, 0, ll⟩, ⟨16, 0, 0, 1, 0, [(i64 to), (i64 tw), (u64 tv), (stA tq tn), ⟨24, tp, 0, 5, 0, tl⟩]⟩, (tupV []), (i64 0)]))))) := by kernel_rfl
theorem l11 (J : Jmp) (lp to tw tv tq tn tp wp i : Nat) (ll tl wl : List AV) : lblY Tryz.prog 89 lab11 (baseH Tryz.prog) RVl (finY Tryz.prog [.tmp 4, .tmp 5] [23, 4]) (bodyC Tryz.f11) J [0,0,1,0,1,1,1] [slP lp 2 ll, bxD [i64 to, i64 tw, u64 tv, stA tq tn, slP tp 5 tl], lsD wp wl, i64 i] =
  (bi (nbeq (bi (nb (nble (biased 3 (lenL tl)) (biased 3 i))) 1 0) 1)
 (bi (nble i.succ (lenL tl))
 (bi (bi (tagIs 3 (nthL (bi (nbeq (nthL [nthL tl i] 0).1 15) (nthL [nthL tl i] 0).6 [nthL [nthL tl i] 0]) 0)) (bi (tagIs 3 (nthL (bi (nbeq (nthL [nthL tl i] 0).1 15) (nthL [nthL tl i] 0).6 [nthL [nthL tl i] 0]) (Nat.succ 0))) (bi (tagIs 7 (nthL (bi (nbeq (nthL [nthL tl i] 0).1 15) (nthL [nthL tl i] 0).6 [nthL [nthL tl i] 0]) (Nat.succ 0).succ)) (bi (tagIs 9 (nthL (bi (nbeq (nthL [nthL tl i] 0).1 15) (nthL [nthL tl i] 0).6 [nthL [nthL tl i] 0]) (Nat.succ 0).succ.succ)) (bi (tagIs 37 (nthL (bi (nbeq (nthL [nthL tl i] 0).1 15) (nthL [nthL tl i] 0).6 [nthL [nthL tl i] 0]) (Nat.succ 0).succ.succ.succ)) true false) false) false) false) false)
 (bi (nbeq (okN (PureAt Tryz.prog 11 [⟨15, 0, 0, 0, 0, [(i64 ((nthL (bi (nbeq (nthL [nthL tl i] 0).1 15) (nthL [nthL tl i] 0).6 [nthL [nthL tl i] 0]) 0).2)), (i64 ((nthL (bi (nbeq (nthL [nthL tl i] 0).1 15) (nthL [nthL tl i] 0).6 [nthL [nthL tl i] 0]) (Nat.succ 0)).2)), (u64 ((nthL (bi (nbeq (nthL [nthL tl i] 0).1 15) (nthL [nthL tl i] 0).6 [nthL [nthL tl i] 0]) (Nat.succ 0).succ).2)), (stA ((nthL (bi (nbeq (nthL [nthL tl i] 0).1 15) (nthL [nthL tl i] 0).6 [nthL [nthL tl i] 0]) (Nat.succ 0).succ.succ).3) ((nthL (bi (nbeq (nthL [nthL tl i] 0).1 15) (nthL [nthL tl i] 0).6 [nthL [nthL tl i] 0]) (Nat.succ 0).succ.succ).2)), ⟨24, (nthL (bi (nbeq (nthL [nthL tl i] 0).1 15) (nthL [nthL tl i] 0).6 [nthL [nthL tl i] 0]) (Nat.succ 0).succ.succ.succ).2, 0, 5, 0, (nthL (bi (nbeq (nthL [nthL tl i] 0).1 15) (nthL [nthL tl i] 0).6 [nthL [nthL tl i] 0]) (Nat.succ 0).succ.succ.succ).6⟩]⟩, ⟨24, lp, 0, 2, 0, ll⟩] ⟨16, 0, 0, 0, 0, [⟨7, sp_vv (unTm ⟨15, 0, 0, 0, 0, [(i64 ((nthL (bi (nbeq (nthL [nthL tl i] 0).1 15) (nthL [nthL tl i] 0).6 [nthL [nthL tl i] 0]) 0).2)), (i64 ((nthL (bi (nbeq (nthL [nthL tl i] 0).1 15) (nthL [nthL tl i] 0).6 [nthL [nthL tl i] 0]) (Nat.succ 0)).2)), (u64 ((nthL (bi (nbeq (nthL [nthL tl i] 0).1 15) (nthL [nthL tl i] 0).6 [nthL [nthL tl i] 0]) (Nat.succ 0).succ).2)), (stA ((nthL (bi (nbeq (nthL [nthL tl i] 0).1 15) (nthL [nthL tl i] 0).6 [nthL [nthL tl i] 0]) (Nat.succ 0).succ.succ).3) ((nthL (bi (nbeq (nthL [nthL tl i] 0).1 15) (nthL [nthL tl i] 0).6 [nthL [nthL tl i] 0]) (Nat.succ 0).succ.succ).2)), ⟨24, (nthL (bi (nbeq (nthL [nthL tl i] 0).1 15) (nthL [nthL tl i] 0).6 [nthL [nthL tl i] 0]) (Nat.succ 0).succ.succ.succ).2, 0, 5, 0, (nthL (bi (nbeq (nthL [nthL tl i] 0).1 15) (nthL [nthL tl i] 0).6 [nthL [nthL tl i] 0]) (Nat.succ 0).succ.succ.succ).6⟩]⟩) ll, 0, 0, 0, []⟩, ⟨8, bi (sp_vb (unTm ⟨15, 0, 0, 0, 0, [(i64 ((nthL (bi (nbeq (nthL [nthL tl i] 0).1 15) (nthL [nthL tl i] 0).6 [nthL [nthL tl i] 0]) 0).2)), (i64 ((nthL (bi (nbeq (nthL [nthL tl i] 0).1 15) (nthL [nthL tl i] 0).6 [nthL [nthL tl i] 0]) (Nat.succ 0)).2)), (u64 ((nthL (bi (nbeq (nthL [nthL tl i] 0).1 15) (nthL [nthL tl i] 0).6 [nthL [nthL tl i] 0]) (Nat.succ 0).succ).2)), (stA ((nthL (bi (nbeq (nthL [nthL tl i] 0).1 15) (nthL [nthL tl i] 0).6 [nthL [nthL tl i] 0]) (Nat.succ 0).succ.succ).3) ((nthL (bi (nbeq (nthL [nthL tl i] 0).1 15) (nthL [nthL tl i] 0).6 [nthL [nthL tl i] 0]) (Nat.succ 0).succ.succ).2)), ⟨24, (nthL (bi (nbeq (nthL [nthL tl i] 0).1 15) (nthL [nthL tl i] 0).6 [nthL [nthL tl i] 0]) (Nat.succ 0).succ.succ.succ).2, 0, 5, 0, (nthL (bi (nbeq (nthL [nthL tl i] 0).1 15) (nthL [nthL tl i] 0).6 [nthL [nthL tl i] 0]) (Nat.succ 0).succ.succ.succ).6⟩]⟩) ll) 1 0, 0, 0, 0, []⟩]⟩)) 1)
 (bi (nbeq (Nat.sub 1 (bi (sp_vb (unTm ⟨15, 0, 0, 0, 0, [(i64 ((nthL (bi (nbeq (nthL [nthL tl i] 0).1 15) (nthL [nthL tl i] 0).6 [nthL [nthL tl i] 0]) 0).2)), (i64 ((nthL (bi (nbeq (nthL [nthL tl i] 0).1 15) (nthL [nthL tl i] 0).6 [nthL [nthL tl i] 0]) (Nat.succ 0)).2)), (u64 ((nthL (bi (nbeq (nthL [nthL tl i] 0).1 15) (nthL [nthL tl i] 0).6 [nthL [nthL tl i] 0]) (Nat.succ 0).succ).2)), (stA ((nthL (bi (nbeq (nthL [nthL tl i] 0).1 15) (nthL [nthL tl i] 0).6 [nthL [nthL tl i] 0]) (Nat.succ 0).succ.succ).3) ((nthL (bi (nbeq (nthL [nthL tl i] 0).1 15) (nthL [nthL tl i] 0).6 [nthL [nthL tl i] 0]) (Nat.succ 0).succ.succ).2)), ⟨24, (nthL (bi (nbeq (nthL [nthL tl i] 0).1 15) (nthL [nthL tl i] 0).6 [nthL [nthL tl i] 0]) (Nat.succ 0).succ.succ.succ).2, 0, 5, 0, (nthL (bi (nbeq (nthL [nthL tl i] 0).1 15) (nthL [nthL tl i] 0).6 [nthL [nthL tl i] 0]) (Nat.succ 0).succ.succ.succ).6⟩]⟩) ll) 1 0)) 1)
 (ansY (tupV [(u64 0), (mk1 8 0)]))
 (bi (nble i.succ (lenL tl))
 (bi (bi (tagIs 3 (nthL (bi (nbeq (nthL [nthL [nthL tl i] 0] 0).1 15) (nthL [nthL [nthL tl i] 0] 0).6 [nthL [nthL [nthL tl i] 0] 0]) 1)) true false)
 (bi (nble ((lenL (takeN (lenL wl) wl)).add 1) 100000)
 (J [0, 0, 1, 0, 1, 1, 1] [⟨24, lp, 0, 2, 0, ll⟩, ⟨16, 0, 0, 1, 0, [(i64 to), (i64 tw), (u64 tv), (stA tq tn), ⟨24, tp, 0, 5, 0, tl⟩]⟩, ⟨16, 1, 0, 0, 0, takeN ((lenL (takeN (lenL wl) wl)).add 1) (appL (takeN (lenL wl) wl) [⟨15, 0, 0, 0, 0, [(i64 ((nthL (bi (nbeq (nthL [nthL [nthL tl i] 0] 0).1 15) (nthL [nthL [nthL tl i] 0] 0).6 [nthL [nthL [nthL tl i] 0] 0]) 1).2)), ⟨7, sp_vv (unTm ⟨15, 0, 0, 0, 0, [(i64 ((nthL (bi (nbeq (nthL [nthL tl i] 0).1 15) (nthL [nthL tl i] 0).6 [nthL [nthL tl i] 0]) 0).2)), (i64 ((nthL (bi (nbeq (nthL [nthL tl i] 0).1 15) (nthL [nthL tl i] 0).6 [nthL [nthL tl i] 0]) (Nat.succ 0)).2)), (u64 ((nthL (bi (nbeq (nthL [nthL tl i] 0).1 15) (nthL [nthL tl i] 0).6 [nthL [nthL tl i] 0]) (Nat.succ 0).succ).2)), (stA ((nthL (bi (nbeq (nthL [nthL tl i] 0).1 15) (nthL [nthL tl i] 0).6 [nthL [nthL tl i] 0]) (Nat.succ 0).succ.succ).3) ((nthL (bi (nbeq (nthL [nthL tl i] 0).1 15) (nthL [nthL tl i] 0).6 [nthL [nthL tl i] 0]) (Nat.succ 0).succ.succ).2)), ⟨24, (nthL (bi (nbeq (nthL [nthL tl i] 0).1 15) (nthL [nthL tl i] 0).6 [nthL [nthL tl i] 0]) (Nat.succ 0).succ.succ.succ).2, 0, 5, 0, (nthL (bi (nbeq (nthL [nthL tl i] 0).1 15) (nthL [nthL tl i] 0).6 [nthL [nthL tl i] 0]) (Nat.succ 0).succ.succ.succ).6⟩]⟩) ll, 0, 0, 0, []⟩]⟩])⟩, (i64 (g_addi i 1))])
 (failR 211))
 (failR 201))
 (failR 205)))
 (failR 301))
 (failR 201))
 (failR 205))
 (bi (nbeq (okN (PureAt Tryz.prog 33 [(i64 to), (i64 tw), (u64 tv), ⟨24, bi (nbeq wp 0) 0 1, 0, 2, 0, takeN (lenL wl) wl⟩] (tupV [(u64 (sp_apv to tw tv (takeN (lenL wl) wl))), (i64 (sp_ape to tw tv (takeN (lenL wl) wl)))]))) 1)
 (ansY (tupV [(u64 (sp_apv to tw tv (takeN (lenL wl) wl))), (mk1 8 (bi (nbeq (sp_ape to tw tv (takeN (lenL wl) wl)) 0) 1 0))]))
 (failR 301))) := by kernel_rfl
theorem body28 : Tryz.f28.body = some (bodyC Tryz.f28) := by kernel_rfl
theorem fn28 : Tryz.prog.funcs[28]? = some Tryz.f28 := by kernel_rfl
theorem nt28 : Tryz.f28.ntmps = 21 := by kernel_rfl
theorem rs28 : Tryz.f28.results.toList = [.tmp 4, .tmp 5] := by kernel_rfl
theorem body31 : Tryz.f31.body = some (bodyC Tryz.f31) := by kernel_rfl
theorem fn31 : Tryz.prog.funcs[31]? = some Tryz.f31 := by kernel_rfl
theorem nt31 : Tryz.f31.ntmps = 25 := by kernel_rfl
theorem rs31 : Tryz.f31.results.toList = [.tmp 4, .tmp 5] := by kernel_rfl
theorem body10 : Tryz.f10.body = some (bodyC Tryz.f10) := by kernel_rfl
theorem fn10 : Tryz.prog.funcs[10]? = some Tryz.f10 := by kernel_rfl
theorem nt10 : Tryz.f10.ntmps = 83 := by kernel_rfl
theorem rs10 : Tryz.f10.results.toList = [.tmp 4, .tmp 5] := by kernel_rfl
theorem body11 : Tryz.f11.body = some (bodyC Tryz.f11) := by kernel_rfl
theorem fn11 : Tryz.prog.funcs[11]? = some Tryz.f11 := by kernel_rfl
theorem nt11 : Tryz.f11.ntmps = 89 := by kernel_rfl
theorem rs11 : Tryz.f11.results.toList = [.tmp 4, .tmp 5] := by kernel_rfl
abbrev Bd := Nat × Nat × Nat
theorem cells_bd (x : Bd) : (bi (nbeq (bdA x).1 15) (bdA x).6 [bdA x]) = [stA x.1 x.2.1, u64 x.2.2] := rfl
theorem unB_bd (l : List Bd) : (l.map bdA).map unB = l := by rw [List.map_map]; exact (List.map_congr_left fun a _ => rfl).trans (List.map_id l)
theorem lk_eq (l : List Bd) (q n : Nat) : sp_lk (l.map bdA) q n = (lkF q n l).getD 0 := by unfold sp_lk; rw [unB_bd]
theorem lb_eq (l : List Bd) (q n : Nat) : sp_lb (l.map bdA) q n = (lkF q n l).isSome := by unfold sp_lb; rw [unB_bd]
noncomputable def lkR (o : Option Nat) : RL := match o with | some v => ansY (tupV [u64 v, mk1 8 1]) | none => ansY (tupV [u64 0, mk1 8 0])
theorem lkR_eq (o : Option Nat) : lkR o = ansY (tupV [u64 (o.getD 0), bV o.isSome]) := by cases o <;> rfl
theorem pure28 (lp q n : Nat) (l : List Bd) (hl : l.length < 2 ^ 62) : PureAt Tryz.prog 28 [slP lp 2 (l.map bdA), stA q n] (tupV [u64 (sp_lk (l.map bdA) q n), bV (sp_lb (l.map bdA) q n)]) := by
  have h := walkR (n := l.length) (L := fun k i => jmpN Tryz.prog 21 lab28 (baseH Tryz.prog) RVl (finY Tryz.prog [.tmp 4, .tmp 5] [23, 4]) (bodyC Tryz.f28) k [0,0,1,0,1] [stA q n, slP lp 2 (l.map bdA), i64 l.length, i64 i]) (A := fun i => lkR (lkF q n (l.drop i))) (fun k => ?_) (fun k i hi ih => ?_) l.length 0 (by omega)
  · refine pure_fn mixed globs fn28 body28 nt28 rs28 RVl_ok lab28 [23, 4] (l.length + 1) ((s28 _ lp q n _).trans ?_)
    rw [lk_eq, lb_eq, ← lkR_eq, lenL_map]
    exact h
  · show jmpN _ _ _ _ _ _ _ (k + 1) _ _ = _
    rw [jmpN_succ, l28, ctr (by omega) (by omega), if_neg (by omega), List.drop_length]; rfl
  · show jmpN _ _ _ _ _ _ _ (k + 1) _ _ = _
    rw [jmpN_succ, l28, ctr (by omega) (by omega), if_pos hi, lenL_map, nble_t (show i.succ ≤ l.length from hi), bi_tt, nthL_map bdA l i hi, List.drop_eq_getElem_cons hi, lkF]
    simp only [nth1, cells_bd, p2_0, p2_1, tg_s, tg_u, bi_tt, stA_p, stA_q, u64_p, bl_bi, addi1 (show i < 2 ^ 63 by omega), mk_slP]
    rw [nbeq_dec, nbeq_dec]
    by_cases h1 : l[i].1 = q
    · by_cases h2 : l[i].2.1 = n
      · rw [decide_eq_true h1, decide_eq_true h2, bi_tt, bi_tt, if_pos ⟨h1, h2⟩]; rfl
      · rw [decide_eq_true h1, decide_eq_false h2, bi_tt, bi_ff, if_neg (fun h => h2 h.2)]
        exact ih
    · rw [decide_eq_false h1, bi_ff, bi_ff, if_neg (fun h => h1 h.1)]
      exact ih
theorem pure31 (lp q n : Nat) (l : List Bd) (hl : l.length < 2 ^ 62) : PureAt Tryz.prog 31 [slP lp 2 (l.map bdA), stA q n] (tupV [u64 (sp_lk (l.map bdA) q n), bV (sp_lb (l.map bdA) q n)]) := by
  have h := walkR (n := l.length) (L := fun k i => jmpN Tryz.prog 25 lab31 (baseH Tryz.prog) RVl (finY Tryz.prog [.tmp 4, .tmp 5] [23, 4]) (bodyC Tryz.f31) k [0,0,1,0,1] [slP lp 2 (l.map bdA), stA q n, i64 i]) (A := fun i => lkR (lkF q n (l.drop i))) (fun k => ?_) (fun k i hi ih => ?_) l.length 0 (by omega)
  · refine pure_fn mixed globs fn31 body31 nt31 rs31 RVl_ok lab31 [23, 4] (l.length + 1) ((s31 _ lp q n _).trans ?_)
    rw [lk_eq, lb_eq, ← lkR_eq]
    exact h
  · show jmpN _ _ _ _ _ _ _ (k + 1) _ _ = _
    rw [jmpN_succ, l31, lenL_map, ctr (by omega) (by omega), if_neg (by omega), List.drop_length]; rfl
  · show jmpN _ _ _ _ _ _ _ (k + 1) _ _ = _
    rw [jmpN_succ, l31, lenL_map, ctr (by omega) (by omega), if_pos hi, nble_t (show i.succ ≤ l.length from hi), bi_tt, nthL_map bdA l i hi, List.drop_eq_getElem_cons hi, lkF]
    simp only [nth1, cells_bd, p2_0, p_1, tg_s, tg_u, bi_tt, stA_p, stA_q, u64_p, bl_bi, addi1 (show i < 2 ^ 63 by omega), mk_slP]
    rw [nbeq_dec, nbeq_dec]
    by_cases h1 : l[i].1 = q
    · by_cases h2 : l[i].2.1 = n
      · rw [decide_eq_true h1, decide_eq_true h2, bi_tt, bi_tt, if_pos ⟨h1, h2⟩]; rfl
      · rw [decide_eq_true h1, decide_eq_false h2, bi_tt, bi_ff, if_neg (fun h => h2 h.2)]
        exact ih
    · rw [decide_eq_false h1, bi_ff, bi_ff, if_neg (fun h => h1 h.1)]
      exact ih
theorem bin_lt {o w a b : Nat} (hw : w < 2 ^ 64) (hb : b < 2 ^ 64) : sp_bin o w a b < 2 ^ 64 := by
  have hc : ∀ x, cutN w x < 2 ^ 64 := fun x => cut64 x hw
  have hm := mask_lt hw
  have h01 : ∀ (c : Prop) [Decidable c], (if c then 1 else 0) < 2 ^ 64 := fun c _ => by split <;> decide
  have hshr : sp_shr w a b < 2 ^ 64 := by
    unfold sp_shr
    split
    · decide
    · exact Nat.lt_of_le_of_lt (Nat.div_le_self _ _) (hc a)
  have hi : ∀ (c : Prop) [Decidable c] (x y : Nat), x < 2 ^ 64 → y < 2 ^ 64 → (if c then x else y) < 2 ^ 64 := fun c _ x y h1 h2 => by by_cases h : c; rw [if_pos h]; exact h1; rw [if_neg h]; exact h2
  have hdiv : sp_div w a b < 2 ^ 64 := by unfold sp_div; split; exact hm; exact Nat.lt_of_le_of_lt (Nat.div_le_self _ _) (hc a)
  have hrem : sp_rem w a b < 2 ^ 64 := by unfold sp_rem; split; exact hc a; exact Nat.lt_of_le_of_lt (Nat.mod_le _ _) (hc a)
  have hshl : sp_shl w a b < 2 ^ 64 := by unfold sp_shl; split; exact (by decide : (0 : Nat) < 2 ^ 64); exact hc _
  have hsar : sp_sar w a b < 2 ^ 64 := by
    unfold sp_sar
    split
    · split
      · exact hm
      · exact hc _
    · exact hshr
  unfold sp_bin
  exact hi _ _ _ (hc _) (hi _ _ _ (hc _) (hi _ _ _ (hc _) (hi _ _ _ (hc _) (hi _ _ _ (hc _) (hi _ _ _ (hc _) (hi _ _ _ hdiv (hi _ _ _ hrem (hi _ _ _ hshl (hi _ _ _ hshr (hi _ _ _ hsar (hi _ _ _ (h01 _) (hi _ _ _ (h01 _) (h01 _)))))))))))))
theorem ap_lt {o w v : Nat} {ws : List (Nat × Nat)} (hw : w < 2 ^ 64) (hv : v < 2 ^ 64) (hws : W64 ws) : (sp_ap o w v ws).1 < 2 ^ 64 := by
  have hcw := cutW64 hws
  have h0 : (0 : Nat) < 2 ^ 64 := by decide
  unfold sp_ap
  split
  · exact h0
  split
  · exact h0
  split
  · exact h0
  show sp_cmp o _ v (ws.map cutW) < 2 ^ 64
  have hr := wdP_lt (op := o) (z := v) (ws := ws.map Prod.fst) hw
  generalize (wdP o w v (ws.map Prod.fst)).1 = r at *
  generalize ws.map cutW = us at *
  match us, hcw with
  | [], _ => exact hv
  | [x], h =>
    obtain ⟨h1, h2⟩ := h x (by simp)
    show sp_one o r v x.1 x.2 < 2 ^ 64
    unfold sp_one
    repeat' split
    · exact cut64 _ h1
    · exact cut64 _ h1
    · unfold sp_ext; split; exact cut64 _ hr; exact h0
    · exact cut64 _ hr
    · exact h2
  | [x, y], h =>
    obtain ⟨h1, h2⟩ := h x (by simp)
    obtain ⟨h3, h4⟩ := h y (by simp)
    show (if o = 20 then sp_cat x.1 y.1 x.2 y.2 else sp_bin o x.1 x.2 y.2) < 2 ^ 64
    split
    · unfold sp_cat
      exact Nat.or_lt_two_pow (Nat.mod_lt _ (by decide)) (cut64 _ h3)
    · exact bin_lt h1 h4
  | [x, y, z], h =>
    show (if x.2 = 1 then y.2 else z.2) < 2 ^ 64
    split
    · exact (h y (by simp)).2
    · exact (h z (by simp)).2
  | _ :: _ :: _ :: _ :: _, _ => exact h0
theorem vl_lt (nums : List AV) : ∀ t : Tm, t.ok → (vlT nums t).1 < 2 ^ 64 ∧ ∀ l ws, (∀ a ∈ l, a.ok ∧ (vlT nums a).1 < 2 ^ 64) → vlTs nums l = some ws → W64 ws := by
  have hs : ∀ l ws, (∀ a ∈ l, a.ok ∧ (vlT nums a).1 < 2 ^ 64) → vlTs nums l = some ws → W64 ws := by
    intro l
    induction l with
    | nil => intro ws _ h; rw [vlTs] at h; cases h; intro x hx; cases hx
    | cons a l ih =>
      intro ws ha h
      rw [vlTs] at h
      split at h
      · cases hw : vlTs nums l with
        | none => rw [hw] at h; cases h
        | some us =>
          rw [hw] at h
          cases h
          intro x hx
          rcases List.mem_cons.1 hx with rfl | hx
          · obtain ⟨h1, h2⟩ := ha a (by simp)
            exact ⟨by cases h1 with | mk h1 _ => exact h1.2.1, h2⟩
          · exact ih us (fun b hb => ha b (by simp [hb])) hw x hx
      · cases h
  intro t
  induction t using Tm.ind with
  | h op w v nq np p X ih =>
    intro hok
    obtain ⟨⟨hop, hw, hv, _⟩, hoks⟩ : Tm.Q0 op w v nq np p X ∧ ∀ t ∈ X, t.ok := by cases hok with | mk h1 h2 => exact ⟨h1, h2⟩
    refine ⟨?_, hs⟩
    rw [vlT]
    split
    · split
      · exact cut64 _ hw
      · exact (by decide : (0 : Nat) < 2 ^ 64)
    split
    · exact (by decide : (0 : Nat) < 2 ^ 64)
    cases hws : vlTs nums X with
    | none => exact (by decide : (0 : Nat) < 2 ^ 64)
    | some ws => exact ap_lt hw hv (hs X ws (fun a ha => ⟨hoks a ha, (ih a ha (hoks a ha)).1⟩) hws)
theorem ok_w {t : Tm} (h : t.ok) : t.w < 2 ^ 64 := by cases h with | mk h1 _ => exact h1.2.1
theorem walkV (nums : List AV) (X : List Tm) (L : Nat → Nat → Nat → List (Nat × Nat) → RL) (bad : RL) (fin : List (Nat × Nat) → RL) (hend : ∀ k p acc, acc.length = X.length → W64 acc → L (k + 1) X.length p acc = fin acc) (hok : ∀ x ∈ X, x.ok)
    (hstep : ∀ k i p acc (h : i < X.length), acc.length = i → L (k + 1) i p acc = bi (vlT nums X[i]).2 (L k (i + 1) 1 (acc ++ [(X[i].w, (vlT nums X[i]).1)])) bad) : ∀ k i p acc, i + k = X.length → acc.length = i → W64 acc → L (k + 1) i p acc = match vlTs nums (X.drop i) with | none => bad | some ws => fin (acc ++ ws) := by
  intro k
  induction k with
  | zero =>
    intro i p acc hi ha hw
    have e : i = X.length := by omega
    subst e
    rw [List.drop_length, hend _ _ _ ha hw]
    show _ = fin (acc ++ [])
    rw [List.append_nil]
  | succ k ih =>
    intro i p acc hi ha hw
    have hlt : i < X.length := by omega
    have hx := hok _ (List.getElem_mem hlt)
    rw [hstep _ _ _ _ hlt ha, List.drop_eq_getElem_cons hlt, vlTs]
    cases hb : (vlT nums X[i]).2
    · rw [bi_ff, if_neg (by decide)]
    · rw [bi_tt, if_pos rfl, ih (i + 1) 1 _ (by omega) (by simp; omega) (fun x hx' => by
        rcases List.mem_append.1 hx' with h | h
        · exact hw x h
        · rw [List.mem_singleton.1 h]; exact ⟨ok_w hx, (vl_lt nums _ hx).1⟩)]
      cases vlTs nums (X.drop (i + 1)) with
      | none => rfl
      | some us =>
        show fin (acc ++ [_] ++ us) = fin (acc ++ (_ :: us))
        rw [List.append_assoc]; rfl
theorem bneg (c : Bool) {α : Type} (x y : α) : bi (nbeq (Nat.sub 1 (bi c 1 0)) 0) x y = bi c x y := by cases c <;> rfl
theorem in_w {α : Type} {w : Nat} (hw : w < 2 ^ 64) (X Y : α) : bi (nbeq (bi (nb (nble 9223372036854775809 (biased 3 w))) 1 0) 0) (bi (nbeq (bi (nb (nble (biased 3 w) 9223372036854775872)) 1 0) 1) X Y) X = if 1 ≤ w ∧ w ≤ 64 then Y else X := by
  rw [b0, bl_bi, biased3, nble_dec, nble_dec]
  by_cases h1 : 9223372036854775809 ≤ (w + 2 ^ 63) % 2 ^ 64
  · by_cases h2 : (w + 2 ^ 63) % 2 ^ 64 ≤ 9223372036854775872
    · rw [decide_eq_true h1, decide_eq_true h2, if_pos (by omega)]; rfl
    · rw [decide_eq_true h1, decide_eq_false h2, if_neg (by omega)]; rfl
  · rw [decide_eq_false h1, if_neg (by omega)]; rfl
theorem lk_lt {l : List Bd} (hl : ∀ x ∈ l, x.2.2 < 2 ^ 64) (q n : Nat) : sp_lk (l.map bdA) q n < 2 ^ 64 := by
  rw [lk_eq]
  induction l with
  | nil => exact (by decide : (0 : Nat) < 2 ^ 64)
  | cons x l ih =>
    rw [lkF]
    split
    · exact hl x (by simp)
    · exact ih fun y hy => hl y (by simp [hy])
theorem apv_eq (o w v : Nat) (ws : List (Nat × Nat)) : sp_apv o w v (ws.map wdA) = (sp_ap o w v ws).1 := by unfold sp_apv; rw [unW_wd]
theorem ape_eq (o w v : Nat) (ws : List (Nat × Nat)) : sp_ape o w v (ws.map wdA) = (sp_ap o w v ws).2 := by unfold sp_ape; rw [unW_wd]
theorem pure10 (lp : Nat) (l : List Bd) (hl : l.length < 2 ^ 62) (hl2 : ∀ x ∈ l, x.2.2 < 2 ^ 64) : ∀ (d : Nat) (t : Tm), t.Sm d → d ≤ 400 → t.ok → PureAt Tryz.prog 10 [tmA t, slP lp 2 (l.map bdA)] (tupV [u64 (vlT (l.map bdA) t).1, bV (vlT (l.map bdA) t).2]) := by
  intro d
  induction d with
  | zero => intro t h; cases h
  | succ d ih =>
  intro t ht hd hok
  obtain ⟨op, w, v, nq, np, p, X⟩ := t
  obtain ⟨hX, hs⟩ : X.length ≤ 1000 ∧ ∀ t ∈ X, t.Sm d := by cases ht with | mk h1 h2 => exact ⟨h1, h2⟩
  obtain ⟨⟨hop, hwd, hv, _⟩, hoks⟩ : Tm.Q0 op w v nq np p X ∧ ∀ t ∈ X, t.ok := by cases hok with | mk h1 h2 => exact ⟨h1, h2⟩
  have hx : X.length < 2 ^ 63 := by omega
  have loop := walkV (l.map bdA) X (fun k i p' acc => jmpN Tryz.prog 83 lab10 (baseH Tryz.prog) RVl (finY Tryz.prog [.tmp 4, .tmp 5] [23, 4]) (bodyC Tryz.f10) k [0,0,1,0,1,1,1] [slP lp 2 (l.map bdA), bxD [i64 op, i64 w, u64 v, stA nq np, slP p 5 (X.map tmA)], lsD p' (acc.map wdA), slP p 5 (X.map tmA), i64 X.length, i64 i]) (ansY (tupV [u64 0, mk1 8 0])) (fun acc => ansY (tupV [u64 (sp_ap op w v acc).1, mk1 8 (bi (nbeq (sp_ap op w v acc).2 0) 1 0)])) (fun k p' acc ha hw => ?_) hoks (fun k i p' acc hlt ha => ?_) X.length 0 0 [] (by omega) rfl (fun x hx => by cases hx)
  · rw [List.drop_zero] at loop
    rw [tmA_mk]
    refine pure_fn mixed globs fn10 body10 nt10 rs10 RVl_ok lab10 [23, 4] (X.length + 1) ((s10 _ op w v nq np p lp _ _).trans ?_)
    have q1 : okN (PureAt Tryz.prog 28 [⟨24, lp, 0, 2, 0, l.map bdA⟩, stA nq np] (tupV [u64 (sp_lk (l.map bdA) nq np), mk1 8 (bi (sp_lb (l.map bdA) nq np) 1 0)])) = 1 := okN_one.2 (pure28 lp nq np l hl)
    rw [q1, n11, bi_tt, bneg, in_w hwd, okN_bi (pure29 w _ hwd)]
    rw [vlT]
    simp only [bl_bi, nbeq_dec, bi_dec, lenL_map, mk_slP, mk_bx]
    have h25 : (bi (sp_lb (l.map bdA) nq np) (if 1 ≤ w ∧ w ≤ 64 then ansY (tupV [u64 (cutN w (sp_lk (l.map bdA) nq np)), mk1 8 1]) else ansY (tupV [u64 0, mk1 8 0])) (ansY (tupV [u64 0, mk1 8 0]))) = ansY (tupV [u64 (if sp_lb (l.map bdA) nq np = true ∧ 1 ≤ w ∧ w ≤ 64 then (cutN w (sp_lk (l.map bdA) nq np), true) else (0, false)).1, bV (if sp_lb (l.map bdA) nq np = true ∧ 1 ≤ w ∧ w ≤ 64 then (cutN w (sp_lk (l.map bdA) nq np), true) else (0, false)).2]) := by
      cases sp_lb (l.map bdA) nq np
      · rw [bi_ff, if_neg (by simp)]; rfl
      · rw [bi_tt]
        by_cases h : 1 ≤ w ∧ w ≤ 64
        · rw [if_pos h, if_pos ⟨rfl, h⟩]; rfl
        · rw [if_neg h, if_neg (fun h' => h h'.2)]; rfl
    have hfin : (match vlTs (l.map bdA) X with | none => ansY (tupV [u64 0, mk1 8 0]) | some ws => ansY (tupV [u64 (sp_ap op w v ([] ++ ws)).1, mk1 8 (bi (nbeq (sp_ap op w v ([] ++ ws)).2 0) 1 0)])) = ansY (tupV [u64 (match vlTs (l.map bdA) X with | none => (0, false) | some ws => ((sp_ap op w v ws).1, decide ((sp_ap op w v ws).2 = 0))).1, bV (match vlTs (l.map bdA) X with | none => (0, false) | some ws => ((sp_ap op w v ws).1, decide ((sp_ap op w v ws).2 = 0))).2]) := by
      cases vlTs (l.map bdA) X with
      | none => rfl
      | some ws =>
        show ansY (tupV [u64 (sp_ap op w v ws).1, mk1 8 (bi (nbeq (sp_ap op w v ws).2 0) 1 0)]) = _
        rw [nbeq_dec]; rfl
    rw [hfin] at loop
    by_cases h25c : op = 25
    · simp only [h25c, if_true, show ¬ (25 : Nat) = 24 by decide, show ¬ (25 : Nat) = 1 by decide, show ¬ (25 : Nat) = 26 by decide, if_false]
      exact h25
    · simp only [h25c, if_false]
      by_cases h24 : op = 24
      · rw [if_pos h24, if_pos (c := op = 24 ∨ op = 1 ∨ op = 26) (.inl h24)]; rfl
      · rw [if_neg h24]
        by_cases h1 : op = 1
        · rw [if_pos h1, if_pos (c := op = 24 ∨ op = 1 ∨ op = 26) (.inr (.inl h1))]; rfl
        · rw [if_neg h1]
          by_cases h26 : op = 26
          · rw [if_pos h26, if_pos (c := op = 24 ∨ op = 1 ∨ op = 26) (.inr (.inr h26))]; rfl
          · rw [if_neg h26, if_neg (c := op = 24 ∨ op = 1 ∨ op = 26) (by rintro (h | h | h) <;> contradiction)]
            exact loop
  · have q1 := okN_one.2 (pure30 op w v (bi (nbeq p' 0) 0 1) acc hop hwd hv hw (by omega))
    show jmpN _ _ _ _ _ _ _ (k + 1) _ _ = _
    rw [jmpN_succ, l10]
    simp only [takeN_self]
    simp only [lenL_map, ctr hx hx, Nat.lt_irrefl, if_false, mk_slP, apv_eq, ape_eq]
    rw [q1, n11, bi_tt]
  · have hi63 : i < 2 ^ 63 := by omega
    have q := okN_one.2 (ih X[i] (hs _ (List.getElem_mem hlt)) (by omega) (hoks _ (List.getElem_mem hlt)))
    have q' : okN (PureAt Tryz.prog 10 [tmA X[i], slP lp 2 (l.map bdA)] (lsD 0 [u64 (vlT (l.map bdA) X[i]).1, ⟨8, bi (vlT (l.map bdA) X[i]).2 1 0, 0, 0, 0, []⟩])) = 1 := q
    show jmpN _ _ _ _ _ _ _ (k + 1) _ _ = _
    rw [jmpN_succ, l10]
    simp only [takeN_self, takeN_snoc]
    simp only [lenL_map, ctr hx hi63, hlt, if_true, nble_t (show i.succ ≤ X.length from hlt), bi_tt, nthL_map tmA X i hlt, nth1, cells_tm, n5_0, n5_1, n5_1', n5_2, n5_3, n5_4, tg_i, tg_u, tg_s, tg_l, i64_p, u64_p, stA_p, stA_q, slP_p, slP_cs, mk_i64, mk_u64, mk_stA, mk_slP, mk_agg, mk_bx, mk_ls, mk_tm, unTm_A, addi1 hi63, bS]
    rw [show sp_vv X[i] (l.map bdA) = (vlT (l.map bdA) X[i]).1 from rfl, show sp_vb X[i] (l.map bdA) = (vlT (l.map bdA) X[i]).2 from rfl, q', n11, bi_tt]
    rw [ha, ble_100k (by omega), bi_tt]
    cases (vlT (l.map bdA) X[i]).2
    · rfl
    · rw [bi_tt, bi_tt, List.map_append]; rfl
theorem pure11 (lp : Nat) (l : List Bd) (hl : l.length < 2 ^ 62) (hl2 : ∀ x ∈ l, x.2.2 < 2 ^ 64) : ∀ (d : Nat) (t : Tm), t.Sm d → d ≤ 400 → t.ok → PureAt Tryz.prog 11 [tmA t, slP lp 2 (l.map bdA)] (tupV [u64 (vlT (l.map bdA) t).1, bV (vlT (l.map bdA) t).2]) := by
  intro d
  induction d with
  | zero => intro t h; cases h
  | succ d ih =>
  intro t ht hd hok
  obtain ⟨op, w, v, nq, np, p, X⟩ := t
  obtain ⟨hX, hs⟩ : X.length ≤ 1000 ∧ ∀ t ∈ X, t.Sm d := by cases ht with | mk h1 h2 => exact ⟨h1, h2⟩
  obtain ⟨⟨hop, hwd, hv, _⟩, hoks⟩ : Tm.Q0 op w v nq np p X ∧ ∀ t ∈ X, t.ok := by cases hok with | mk h1 h2 => exact ⟨h1, h2⟩
  have hx : X.length < 2 ^ 63 := by omega
  have loop := walkV (l.map bdA) X (fun k i p' acc => jmpN Tryz.prog 89 lab11 (baseH Tryz.prog) RVl (finY Tryz.prog [.tmp 4, .tmp 5] [23, 4]) (bodyC Tryz.f11) k [0,0,1,0,1,1,1] [slP lp 2 (l.map bdA), bxD [i64 op, i64 w, u64 v, stA nq np, slP p 5 (X.map tmA)], lsD p' (acc.map wdA), i64 i]) (ansY (tupV [u64 0, mk1 8 0])) (fun acc => ansY (tupV [u64 (sp_ap op w v acc).1, mk1 8 (bi (nbeq (sp_ap op w v acc).2 0) 1 0)])) (fun k p' acc ha hw => ?_) hoks (fun k i p' acc hlt ha => ?_) X.length 0 0 [] (by omega) rfl (fun x hx => by cases hx)
  · rw [List.drop_zero] at loop
    rw [tmA_mk]
    refine pure_fn mixed globs fn11 body11 nt11 rs11 RVl_ok lab11 [23, 4] (X.length + 1) ((s11 _ op w v nq np p lp _ _).trans ?_)
    have q1 : okN (PureAt Tryz.prog 31 [⟨24, lp, 0, 2, 0, l.map bdA⟩, stA nq np] (tupV [u64 (sp_lk (l.map bdA) nq np), mk1 8 (bi (sp_lb (l.map bdA) nq np) 1 0)])) = 1 := okN_one.2 (pure31 lp nq np l hl)
    rw [q1, n11, bi_tt, bneg, in_w hwd, okN_bi (pure32 w _ hwd (lk_lt hl2 nq np))]
    rw [vlT]
    simp only [bl_bi, nbeq_dec, bi_dec, lenL_map, mk_slP, mk_bx]
    have h25 : (bi (sp_lb (l.map bdA) nq np) (if 1 ≤ w ∧ w ≤ 64 then ansY (tupV [u64 (cutN w (sp_lk (l.map bdA) nq np)), mk1 8 1]) else ansY (tupV [u64 0, mk1 8 0])) (ansY (tupV [u64 0, mk1 8 0]))) = ansY (tupV [u64 (if sp_lb (l.map bdA) nq np = true ∧ 1 ≤ w ∧ w ≤ 64 then (cutN w (sp_lk (l.map bdA) nq np), true) else (0, false)).1, bV (if sp_lb (l.map bdA) nq np = true ∧ 1 ≤ w ∧ w ≤ 64 then (cutN w (sp_lk (l.map bdA) nq np), true) else (0, false)).2]) := by
      cases sp_lb (l.map bdA) nq np
      · rw [bi_ff, if_neg (by simp)]; rfl
      · rw [bi_tt]
        by_cases h : 1 ≤ w ∧ w ≤ 64
        · rw [if_pos h, if_pos ⟨rfl, h⟩]; rfl
        · rw [if_neg h, if_neg (fun h' => h h'.2)]; rfl
    have hfin : (match vlTs (l.map bdA) X with | none => ansY (tupV [u64 0, mk1 8 0]) | some ws => ansY (tupV [u64 (sp_ap op w v ([] ++ ws)).1, mk1 8 (bi (nbeq (sp_ap op w v ([] ++ ws)).2 0) 1 0)])) = ansY (tupV [u64 (match vlTs (l.map bdA) X with | none => (0, false) | some ws => ((sp_ap op w v ws).1, decide ((sp_ap op w v ws).2 = 0))).1, bV (match vlTs (l.map bdA) X with | none => (0, false) | some ws => ((sp_ap op w v ws).1, decide ((sp_ap op w v ws).2 = 0))).2]) := by
      cases vlTs (l.map bdA) X with
      | none => rfl
      | some ws =>
        show ansY (tupV [u64 (sp_ap op w v ws).1, mk1 8 (bi (nbeq (sp_ap op w v ws).2 0) 1 0)]) = _
        rw [nbeq_dec]; rfl
    rw [hfin] at loop
    by_cases h25c : op = 25
    · simp only [h25c, if_true, show ¬ (25 : Nat) = 24 by decide, show ¬ (25 : Nat) = 1 by decide, show ¬ (25 : Nat) = 26 by decide, if_false]
      exact h25
    · simp only [h25c, if_false]
      by_cases h24 : op = 24
      · rw [if_pos h24, if_pos (c := op = 24 ∨ op = 1 ∨ op = 26) (.inl h24)]; rfl
      · rw [if_neg h24]
        by_cases h1 : op = 1
        · rw [if_pos h1, if_pos (c := op = 24 ∨ op = 1 ∨ op = 26) (.inr (.inl h1))]; rfl
        · rw [if_neg h1]
          by_cases h26 : op = 26
          · rw [if_pos h26, if_pos (c := op = 24 ∨ op = 1 ∨ op = 26) (.inr (.inr h26))]; rfl
          · rw [if_neg h26, if_neg (c := op = 24 ∨ op = 1 ∨ op = 26) (by rintro (h | h | h) <;> contradiction)]
            exact loop
  · have q1 := okN_one.2 (pure33 op w v (bi (nbeq p' 0) 0 1) acc hop hwd hv hw (by omega))
    show jmpN _ _ _ _ _ _ _ (k + 1) _ _ = _
    rw [jmpN_succ, l11]
    simp only [takeN_self]
    simp only [lenL_map, ctr hx hx, Nat.lt_irrefl, if_false, mk_slP, apv_eq, ape_eq]
    rw [q1, n11, bi_tt]
  · have hi63 : i < 2 ^ 63 := by omega
    have q := okN_one.2 (ih X[i] (hs _ (List.getElem_mem hlt)) (by omega) (hoks _ (List.getElem_mem hlt)))
    have q' : okN (PureAt Tryz.prog 11 [tmA X[i], slP lp 2 (l.map bdA)] (lsD 0 [u64 (vlT (l.map bdA) X[i]).1, ⟨8, bi (vlT (l.map bdA) X[i]).2 1 0, 0, 0, 0, []⟩])) = 1 := q
    show jmpN _ _ _ _ _ _ _ (k + 1) _ _ = _
    rw [jmpN_succ, l11]
    simp only [takeN_self, takeN_snoc]
    simp only [lenL_map, ctr hx hi63, hlt, if_true, nble_t (show i.succ ≤ X.length from hlt), bi_tt, nthL_map tmA X i hlt, nth1, cells_tm, n5_0, n5_1, n5_1', n5_2, n5_3, n5_4, tg_i, tg_u, tg_s, tg_l, i64_p, u64_p, stA_p, stA_q, slP_p, slP_cs, mk_i64, mk_u64, mk_stA, mk_slP, mk_agg, mk_bx, mk_ls, mk_tm, unTm_A, addi1 hi63, bS]
    rw [show sp_vv X[i] (l.map bdA) = (vlT (l.map bdA) X[i]).1 from rfl, show sp_vb X[i] (l.map bdA) = (vlT (l.map bdA) X[i]).2 from rfl, q', n11, bi_tt]
    rw [ha, ble_100k (by omega), bi_tt]
    cases (vlT (l.map bdA) X[i]).2
    · rfl
    · rw [bi_tt, bi_tt, List.map_append]; rfl
end Go.Eng
namespace Go.Eng
open Go.RowKit Go.Proofs
set_option maxRecDepth 4000
theorem s9 (J : Jmp) (rp hp np : Nat) (rl hl nl : List AV) : (compY Tryz.prog 51 lab9 (finY Tryz.prog [.tmp 2] [4]) J [] (bodyC Tryz.f9) (finY Tryz.prog [.tmp 2] [4]) []).run RVl (setArgs 0 [aggV [slP rp 1 rl, slP hp 2 hl, slP np 2 nl]] noFr) (baseH Tryz.prog) =
  (bi (nbeq (bi (nb (nble (biased 3 (lenL rl)) 9223372036854775828)) 1 0) 0)
 (bi (nbeq (bi (nb (nble (biased 3 (lenL hl)) 9223372036854775828)) 1 0) 0)
 (bi (nbeq (bi (nb (nble (biased 3 (lenL nl)) 9223372036854775828)) 1 0) 1)
 (ansY (mk1 8 0))
 (J [0, 0, 1, 0, 1, 1] [⟨16, 0, 0, 1, 0, [⟨24, rp, 0, 1, 0, rl⟩, ⟨24, hp, 0, 2, 0, hl⟩, ⟨24, np, 0, 2, 0, nl⟩]⟩, (i64 0)]))
 (ansY (mk1 8 0)))
 (ansY (mk1 8 0))) := by kernel_rfl
theorem l9a (J : Jmp) (rp hp np i : Nat) (rl hl nl : List AV) : lblY Tryz.prog 51 lab9 (baseH Tryz.prog) RVl (finY Tryz.prog [.tmp 2] [4]) (bodyC Tryz.f9) J [0,0,1,0,1,1] [bxD [slP rp 1 rl, slP hp 2 hl, slP np 2 nl], i64 i] =
  (bi (nbeq (bi (nb (nble (biased 3 (lenL hl)) (biased 3 i))) 1 0) 1)
 (bi (nble i.succ (lenL hl))
 (bi (bi (tagIs 9 (nthL (bi (nbeq (nthL [nthL [nthL hl i] 0] 0).1 15) (nthL [nthL [nthL hl i] 0] 0).6 [nthL [nthL [nthL hl i] 0] 0]) 0)) true false)
 (bi (nble (nthL (bi (nbeq (nthL [nthL [nthL hl i] 0] 0).1 15) (nthL [nthL [nthL hl i] 0] 0).6 [nthL [nthL [nthL hl i] 0] 0]) 0).3 4611686018427387904)
 (bi (nbeq (bi (nb (nble (biased 3 (nthL (bi (nbeq (nthL [nthL [nthL hl i] 0] 0).1 15) (nthL [nthL [nthL hl i] 0] 0).6 [nthL [nthL [nthL hl i] 0] 0]) 0).3) 9223372036854775908)) 1 0) 1)
 (ansY (mk1 8 0))
 (J [0, 0, 1, 0, 1, 1] [⟨16, 0, 0, 1, 0, [⟨24, rp, 0, 1, 0, rl⟩, ⟨24, hp, 0, 2, 0, hl⟩, ⟨24, np, 0, 2, 0, nl⟩]⟩, (i64 (g_addi i 1))]))
 (failR 31))
 (failR 201))
 (failR 205))
 (J [0, 0, 1, 0, 1, 1, 1] [⟨16, 0, 0, 1, 0, [⟨24, rp, 0, 1, 0, rl⟩, ⟨24, hp, 0, 2, 0, hl⟩, ⟨24, np, 0, 2, 0, nl⟩]⟩, (i64 0)])) := by kernel_rfl
theorem l9b (J : Jmp) (rp hp np i : Nat) (rl hl nl : List AV) : lblY Tryz.prog 51 lab9 (baseH Tryz.prog) RVl (finY Tryz.prog [.tmp 2] [4]) (bodyC Tryz.f9) J [0,0,1,0,1,1,1] [bxD [slP rp 1 rl, slP hp 2 hl, slP np 2 nl], i64 i] =
  (bi (nbeq (bi (nb (nble (biased 3 (lenL nl)) (biased 3 i))) 1 0) 1)
 (bi (nble i.succ (lenL nl))
 (bi (bi (tagIs 9 (nthL (bi (nbeq (nthL [nthL [nthL nl i] 0] 0).1 15) (nthL [nthL [nthL nl i] 0] 0).6 [nthL [nthL [nthL nl i] 0] 0]) 0)) true false)
 (bi (nble (nthL (bi (nbeq (nthL [nthL [nthL nl i] 0] 0).1 15) (nthL [nthL [nthL nl i] 0] 0).6 [nthL [nthL [nthL nl i] 0] 0]) 0).3 4611686018427387904)
 (bi (nbeq (bi (nb (nble (biased 3 (nthL (bi (nbeq (nthL [nthL [nthL nl i] 0] 0).1 15) (nthL [nthL [nthL nl i] 0] 0).6 [nthL [nthL [nthL nl i] 0] 0]) 0).3) 9223372036854775908)) 1 0) 1)
 (ansY (mk1 8 0))
 (J [0, 0, 1, 0, 1, 1, 1] [⟨16, 0, 0, 1, 0, [⟨24, rp, 0, 1, 0, rl⟩, ⟨24, hp, 0, 2, 0, hl⟩, ⟨24, np, 0, 2, 0, nl⟩]⟩, (i64 (g_addi i 1))]))
 (failR 31))
 (failR 201))
 (failR 205))
 (ansY (mk1 8 1))) := by kernel_rfl
theorem s82 (J : Jmp) (w z o l h : Nat) : (compY Tryz.prog 46 (fun _ => none) (finY Tryz.prog [.cell 2 40, .tmp 3] [40, 4]) J [] (bodyC Tryz.f82) (finY Tryz.prog [.cell 2 40, .tmp 3] [40, 4]) []).run RZ (setArgs 0 [aggV [i64 w, u64 z, u64 o, u64 l, u64 h]] noFr) (baseH Tryz.prog) =
  (bi (nbeq (okN (PureAt Tryz.prog 84 [(i64 w)] (aggV [(u64 0), (u64 (maskN w))]))) 1)
 (bi (eqA 1000 (u64 z) (u64 z))
 (bi (eqA 1000 (u64 o) (u64 o))
 (bi (eqA 1000 (aggV [(u64 l), (u64 h)]) (aggV [(u64 l), (u64 h)]))
 (bi (eqA 1000 (i64 w) (i64 w))
 (bi (nbeq (okN (PureAt Tryz.prog 152 [(i64 w), (aggV [(u64 l), (u64 h)]), (aggV [(u64 o), (u64 (g_andn (maskN w) z))])] (tupV [(aggV [(u64 (sp_ml w l h o (g_andn (maskN w) z))), (u64 (sp_mh w l h o (g_andn (maskN w) z)))]), (mk1 8 (bi (sp_mb w l h o (g_andn (maskN w) z)) 1 0))]))) 1)
 (bi (eqA 1000 (mk1 8 (bi (sp_mb w l h o (g_andn (maskN w) z)) 1 0)) (mk1 8 (bi (sp_mb w l h o (g_andn (maskN w) z)) 1 0)))
 (bi (nbeq (Nat.sub 1 (bi (sp_mb w l h o (g_andn (maskN w) z)) 1 0)) 1)
 (ansY (tupV [(aggV [(i64 w), (u64 z), (u64 o), (u64 l), (u64 h)]), (mk1 8 0)]))
 (bi (nbeq (okN (PureAt Tryz.prog 154 [(i64 w), (aggV [(u64 (sp_ml w l h o (g_andn (maskN w) z))), (u64 (sp_mh w l h o (g_andn (maskN w) z)))])] (aggV [(u64 (sp_pz w (sp_ml w l h o (g_andn (maskN w) z)) (sp_mh w l h o (g_andn (maskN w) z)))), (u64 (sp_po w (sp_ml w l h o (g_andn (maskN w) z)) (sp_mh w l h o (g_andn (maskN w) z))))]))) 1)
 (bi (eqA 1000 (aggV [(u64 z), (u64 o)]) (aggV [(u64 z), (u64 o)]))
 (bi (eqA 1000 (i64 w) (i64 w))
 (bi (nbeq (okN (PureAt Tryz.prog 153 [(i64 w), (aggV [(u64 z), (u64 o)]), (aggV [(u64 (sp_pz w (sp_ml w l h o (g_andn (maskN w) z)) (sp_mh w l h o (g_andn (maskN w) z)))), (u64 (sp_po w (sp_ml w l h o (g_andn (maskN w) z)) (sp_mh w l h o (g_andn (maskN w) z))))])] (tupV [(aggV [(u64 (sp_nz w z o (sp_pz w (sp_ml w l h o (g_andn (maskN w) z)) (sp_mh w l h o (g_andn (maskN w) z))) (sp_po w (sp_ml w l h o (g_andn (maskN w) z)) (sp_mh w l h o (g_andn (maskN w) z))))), (u64 (sp_no w z o (sp_pz w (sp_ml w l h o (g_andn (maskN w) z)) (sp_mh w l h o (g_andn (maskN w) z))) (sp_po w (sp_ml w l h o (g_andn (maskN w) z)) (sp_mh w l h o (g_andn (maskN w) z)))))]), (mk1 8 (bi (sp_nb w z o (sp_pz w (sp_ml w l h o (g_andn (maskN w) z)) (sp_mh w l h o (g_andn (maskN w) z))) (sp_po w (sp_ml w l h o (g_andn (maskN w) z)) (sp_mh w l h o (g_andn (maskN w) z)))) 1 0))]))) 1)
 (bi (eqA 1000 (mk1 8 (bi (sp_nb w z o (sp_pz w (sp_ml w l h o (g_andn (maskN w) z)) (sp_mh w l h o (g_andn (maskN w) z))) (sp_po w (sp_ml w l h o (g_andn (maskN w) z)) (sp_mh w l h o (g_andn (maskN w) z)))) 1 0)) (mk1 8 (bi (sp_nb w z o (sp_pz w (sp_ml w l h o (g_andn (maskN w) z)) (sp_mh w l h o (g_andn (maskN w) z))) (sp_po w (sp_ml w l h o (g_andn (maskN w) z)) (sp_mh w l h o (g_andn (maskN w) z)))) 1 0)))
 (ansY (tupV [(aggV [(i64 w), (u64 (sp_nz w z o (sp_pz w (sp_ml w l h o (g_andn (maskN w) z)) (sp_mh w l h o (g_andn (maskN w) z))) (sp_po w (sp_ml w l h o (g_andn (maskN w) z)) (sp_mh w l h o (g_andn (maskN w) z))))), (u64 (sp_no w z o (sp_pz w (sp_ml w l h o (g_andn (maskN w) z)) (sp_mh w l h o (g_andn (maskN w) z))) (sp_po w (sp_ml w l h o (g_andn (maskN w) z)) (sp_mh w l h o (g_andn (maskN w) z))))), (u64 (sp_ml w l h o (g_andn (maskN w) z))), (u64 (sp_mh w l h o (g_andn (maskN w) z)))]), (mk1 8 (bi (sp_nb w z o (sp_pz w (sp_ml w l h o (g_andn (maskN w) z)) (sp_mh w l h o (g_andn (maskN w) z))) (sp_po w (sp_ml w l h o (g_andn (maskN w) z)) (sp_mh w l h o (g_andn (maskN w) z)))) 1 0))]))
 (failR 90))
 (failR 301))
 (failR 90))
 (failR 90))
 (failR 301)))
 (failR 90))
 (failR 301))
 (failR 90))
 (failR 90))
 (failR 90))
 (failR 90))
 (failR 301)) := by kernel_rfl
theorem s157 (J : Jmp) (w z o l h : Nat) : (compY Tryz.prog 48 (fun _ => none) (finY Tryz.prog [.cell 2 40, .tmp 3] [40, 4]) J [] (bodyC Tryz.f157) (finY Tryz.prog [.cell 2 40, .tmp 3] [40, 4]) []).run RZ (setArgs 0 [aggV [i64 w, u64 z, u64 o, u64 l, u64 h]] noFr) (baseH Tryz.prog) =
  (bi (nbeq (okN (PureAt Tryz.prog 222 [(i64 w)] (u64 (maskN w)))) 1)
 (bi (eqA 1000 (u64 z) (u64 z))
 (bi (eqA 1000 (u64 o) (u64 o))
 (bi (eqA 1000 (aggV [(u64 l), (u64 h)]) (aggV [(u64 l), (u64 h)]))
 (bi (eqA 1000 (i64 w) (i64 w))
 (bi (nbeq (okN (PureAt Tryz.prog 223 [(i64 w), (aggV [(u64 l), (u64 h)]), (aggV [(u64 o), (u64 (g_subu (maskN w) z))])] (tupV [(aggV [(u64 (sp_ml w l h o (g_subu (maskN w) z))), (u64 (sp_mh w l h o (g_subu (maskN w) z)))]), (mk1 8 (bi (sp_mb w l h o (g_subu (maskN w) z)) 1 0))]))) 1)
 (bi (eqA 1000 (mk1 8 (bi (sp_mb w l h o (g_subu (maskN w) z)) 1 0)) (mk1 8 (bi (sp_mb w l h o (g_subu (maskN w) z)) 1 0)))
 (bi (nbeq (Nat.sub 1 (bi (sp_mb w l h o (g_subu (maskN w) z)) 1 0)) 1)
 (ansY (tupV [(aggV [(i64 w), (u64 z), (u64 o), (u64 l), (u64 h)]), (mk1 8 0)]))
 (bi (nbeq (okN (PureAt Tryz.prog 225 [(i64 w), (aggV [(u64 (sp_ml w l h o (g_subu (maskN w) z))), (u64 (sp_mh w l h o (g_subu (maskN w) z)))])] (aggV [(u64 (sp_pz w (sp_ml w l h o (g_subu (maskN w) z)) (sp_mh w l h o (g_subu (maskN w) z)))), (u64 (sp_po w (sp_ml w l h o (g_subu (maskN w) z)) (sp_mh w l h o (g_subu (maskN w) z))))]))) 1)
 (bi (eqA 1000 (aggV [(u64 z), (u64 o)]) (aggV [(u64 z), (u64 o)]))
 (bi (eqA 1000 (i64 w) (i64 w))
 (bi (nbeq (okN (PureAt Tryz.prog 224 [(i64 w), (aggV [(u64 z), (u64 o)]), (aggV [(u64 (sp_pz w (sp_ml w l h o (g_subu (maskN w) z)) (sp_mh w l h o (g_subu (maskN w) z)))), (u64 (sp_po w (sp_ml w l h o (g_subu (maskN w) z)) (sp_mh w l h o (g_subu (maskN w) z))))])] (tupV [(aggV [(u64 (sp_nz w z o (sp_pz w (sp_ml w l h o (g_subu (maskN w) z)) (sp_mh w l h o (g_subu (maskN w) z))) (sp_po w (sp_ml w l h o (g_subu (maskN w) z)) (sp_mh w l h o (g_subu (maskN w) z))))), (u64 (sp_no w z o (sp_pz w (sp_ml w l h o (g_subu (maskN w) z)) (sp_mh w l h o (g_subu (maskN w) z))) (sp_po w (sp_ml w l h o (g_subu (maskN w) z)) (sp_mh w l h o (g_subu (maskN w) z)))))]), (mk1 8 (bi (sp_nb w z o (sp_pz w (sp_ml w l h o (g_subu (maskN w) z)) (sp_mh w l h o (g_subu (maskN w) z))) (sp_po w (sp_ml w l h o (g_subu (maskN w) z)) (sp_mh w l h o (g_subu (maskN w) z)))) 1 0))]))) 1)
 (bi (eqA 1000 (mk1 8 (bi (sp_nb w z o (sp_pz w (sp_ml w l h o (g_subu (maskN w) z)) (sp_mh w l h o (g_subu (maskN w) z))) (sp_po w (sp_ml w l h o (g_subu (maskN w) z)) (sp_mh w l h o (g_subu (maskN w) z)))) 1 0)) (mk1 8 (bi (sp_nb w z o (sp_pz w (sp_ml w l h o (g_subu (maskN w) z)) (sp_mh w l h o (g_subu (maskN w) z))) (sp_po w (sp_ml w l h o (g_subu (maskN w) z)) (sp_mh w l h o (g_subu (maskN w) z)))) 1 0)))
 (ansY (tupV [(aggV [(i64 w), (u64 (sp_nz w z o (sp_pz w (sp_ml w l h o (g_subu (maskN w) z)) (sp_mh w l h o (g_subu (maskN w) z))) (sp_po w (sp_ml w l h o (g_subu (maskN w) z)) (sp_mh w l h o (g_subu (maskN w) z))))), (u64 (sp_no w z o (sp_pz w (sp_ml w l h o (g_subu (maskN w) z)) (sp_mh w l h o (g_subu (maskN w) z))) (sp_po w (sp_ml w l h o (g_subu (maskN w) z)) (sp_mh w l h o (g_subu (maskN w) z))))), (u64 (sp_ml w l h o (g_subu (maskN w) z))), (u64 (sp_mh w l h o (g_subu (maskN w) z)))]), (mk1 8 (bi (sp_nb w z o (sp_pz w (sp_ml w l h o (g_subu (maskN w) z)) (sp_mh w l h o (g_subu (maskN w) z))) (sp_po w (sp_ml w l h o (g_subu (maskN w) z)) (sp_mh w l h o (g_subu (maskN w) z)))) 1 0))]))
 (failR 90))
 (failR 301))
 (failR 90))
 (failR 90))
 (failR 301)))
 (failR 90))
 (failR 301))
 (failR 90))
 (failR 90))
 (failR 90))
 (failR 90))
 (failR 301)) := by kernel_rfl
theorem s34 (J : Jmp) (w z o l h : Nat) : (compY Tryz.prog 38 (fun _ => none) (finY Tryz.prog [.tmp 2] [4]) J [] (bodyC Tryz.f34) (finY Tryz.prog [.tmp 2] [4]) []).run RZ (setArgs 0 [aggV [i64 w, u64 z, u64 o, u64 l, u64 h]] noFr) (baseH Tryz.prog) =
  (bi (nbeq (okN (PureAt Tryz.prog 79 [(i64 w)] (i64 (clampN w)))) 1)
 (bi (eqA 1000 (i64 w) (i64 w))
 (bi (nbeq (bi (nb (nbeq w (clampN w))) 1 0) 1)
 (ansY (mk1 8 0))
 (bi (nbeq (bi (nb (nbeq w (clampN w))) 1 0) 0)
 (bi (nbeq (okN (PureAt Tryz.prog 80 [(i64 w), (aggV [(u64 z), (u64 o)])] (mk1 8 (bi (sp_kv w z o) 1 0)))) 1)
 (bi (nbeq (Nat.sub 1 (bi (sp_kv w z o) 1 0)) 1)
 (ansY (mk1 8 0))
 (bi (nbeq (Nat.sub 1 (bi (sp_kv w z o) 1 0)) 0)
 (bi (nbeq (okN (PureAt Tryz.prog 81 [(i64 w), (aggV [(u64 l), (u64 h)])] (mk1 8 (bi (sp_rv w l h) 1 0)))) 1)
 (bi (nbeq (Nat.sub 1 (bi (sp_rv w l h) 1 0)) 1)
 (ansY (mk1 8 0))
 (bi (nbeq (okN (PureAt Tryz.prog 82 [(aggV [(i64 w), (u64 z), (u64 o), (u64 l), (u64 h)])] (tupV [(aggV [(i64 w), (u64 (sp_t1 w z o l h)), (u64 (sp_t2 w z o l h)), (u64 (sp_t3 w z o l h)), (u64 (sp_t4 w z o l h))]), (mk1 8 (bi (sp_tb w z o l h) 1 0))]))) 1)
 (bi (nbeq (bi (sp_tb w z o l h) 1 0) 1)
 (ansY (mk1 8 (bi (bi (nbeq w w) (bi (bi (nbeq (sp_t1 w z o l h) z) (bi (nbeq (sp_t2 w z o l h) o) true false) false) (bi (bi (nbeq (sp_t3 w z o l h) l) (bi (nbeq (sp_t4 w z o l h) h) true false) false) true false) false) false) 1 0)))
 (ansY (mk1 8 0)))
 (failR 301)))
 (failR 301))
 (failR 40)))
 (failR 301))
 (failR 40)))
 (failR 90))
 (failR 301)) := by kernel_rfl
theorem s85 (J : Jmp) (w z o l h : Nat) : (compY Tryz.prog 40 (fun _ => none) (finY Tryz.prog [.tmp 2] [4]) J [] (bodyC Tryz.f85) (finY Tryz.prog [.tmp 2] [4]) []).run RZ (setArgs 0 [aggV [i64 w, u64 z, u64 o, u64 l, u64 h]] noFr) (baseH Tryz.prog) =
  (bi (nbeq (bi (nb (nble 9223372036854775809 (biased 3 w))) 1 0) 0)
 (bi (nbeq (bi (nb (nble (biased 3 w) 9223372036854775872)) 1 0) 0)
 (bi (nbeq (okN (PureAt Tryz.prog 155 [(i64 w), (aggV [(u64 z), (u64 o)])] (mk1 8 (bi (sp_kv w z o) 1 0)))) 1)
 (bi (nbeq (Nat.sub 1 (bi (sp_kv w z o) 1 0)) 0)
 (bi (nbeq (okN (PureAt Tryz.prog 156 [(i64 w), (aggV [(u64 l), (u64 h)])] (mk1 8 (bi (sp_rv w l h) 1 0)))) 1)
 (bi (nbeq (Nat.sub 1 (bi (sp_rv w l h) 1 0)) 1)
 (ansY (mk1 8 0))
 (bi (nbeq (okN (PureAt Tryz.prog 157 [(aggV [(i64 w), (u64 z), (u64 o), (u64 l), (u64 h)])] (tupV [(aggV [(i64 w), (u64 (sp_t1 w z o l h)), (u64 (sp_t2 w z o l h)), (u64 (sp_t3 w z o l h)), (u64 (sp_t4 w z o l h))]), (mk1 8 (bi (sp_tb w z o l h) 1 0))]))) 1)
 (bi (nbeq (bi (sp_tb w z o l h) 1 0) 1)
 (ansY (mk1 8 (bi (bi (nbeq w w) (bi (bi (nbeq (sp_t1 w z o l h) z) (bi (nbeq (sp_t2 w z o l h) o) true false) false) (bi (bi (nbeq (sp_t3 w z o l h) l) (bi (nbeq (sp_t4 w z o l h) h) true false) false) true false) false) false) 1 0)))
 (ansY (mk1 8 0)))
 (failR 301)))
 (failR 301))
 (ansY (mk1 8 0)))
 (failR 301))
 (ansY (mk1 8 0)))
 (ansY (mk1 8 0))) := by kernel_rfl
theorem s36 (J : Jmp) (w z o l h : Nat) : (compY Tryz.prog 9 (fun _ => none) (finY Tryz.prog [.cell 2 40] [40]) J [] (bodyC Tryz.f36) (finY Tryz.prog [.cell 2 40] [40]) []).run RZ (setArgs 0 [aggV [i64 w, u64 z, u64 o, u64 l, u64 h]] noFr) (baseH Tryz.prog) =
  (bi (nbeq (okN (PureAt Tryz.prog 85 [(aggV [(i64 w), (u64 z), (u64 o), (u64 l), (u64 h)])] (mk1 8 (bi (sp_vd w z o l h) 1 0)))) 1)
 (bi (nbeq (bi (sp_vd w z o l h) 1 0) 1)
 (ansY (aggV [(i64 w), (u64 z), (u64 o), (u64 l), (u64 h)]))
 (bi (nbeq (okN (PureAt Tryz.prog 86 [(i64 w)] (aggV [(i64 (clampN w)), (u64 0), (u64 0), (u64 0), (u64 (maskN w))]))) 1)
 (ansY (aggV [(i64 (clampN w)), (u64 0), (u64 0), (u64 0), (u64 (maskN w))]))
 (failR 301)))
 (failR 301)) := by kernel_rfl
theorem body9 : Tryz.f9.body = some (bodyC Tryz.f9) := by kernel_rfl
theorem fn9 : Tryz.prog.funcs[9]? = some Tryz.f9 := by kernel_rfl
theorem nt9 : Tryz.f9.ntmps = 51 := by kernel_rfl
theorem rs9 : Tryz.f9.results.toList = [.tmp 2] := by kernel_rfl
theorem body82 : Tryz.f82.body = some (bodyC Tryz.f82) := by kernel_rfl
theorem fn82 : Tryz.prog.funcs[82]? = some Tryz.f82 := by kernel_rfl
theorem nt82 : Tryz.f82.ntmps = 46 := by kernel_rfl
theorem rs82 : Tryz.f82.results.toList = [.cell 2 40, .tmp 3] := by kernel_rfl
theorem body157 : Tryz.f157.body = some (bodyC Tryz.f157) := by kernel_rfl
theorem fn157 : Tryz.prog.funcs[157]? = some Tryz.f157 := by kernel_rfl
theorem nt157 : Tryz.f157.ntmps = 48 := by kernel_rfl
theorem rs157 : Tryz.f157.results.toList = [.cell 2 40, .tmp 3] := by kernel_rfl
theorem body34 : Tryz.f34.body = some (bodyC Tryz.f34) := by kernel_rfl
theorem fn34 : Tryz.prog.funcs[34]? = some Tryz.f34 := by kernel_rfl
theorem nt34 : Tryz.f34.ntmps = 38 := by kernel_rfl
theorem rs34 : Tryz.f34.results.toList = [.tmp 2] := by kernel_rfl
theorem body85 : Tryz.f85.body = some (bodyC Tryz.f85) := by kernel_rfl
theorem fn85 : Tryz.prog.funcs[85]? = some Tryz.f85 := by kernel_rfl
theorem nt85 : Tryz.f85.ntmps = 40 := by kernel_rfl
theorem rs85 : Tryz.f85.results.toList = [.tmp 2] := by kernel_rfl
theorem body36 : Tryz.f36.body = some (bodyC Tryz.f36) := by kernel_rfl
theorem fn36 : Tryz.prog.funcs[36]? = some Tryz.f36 := by kernel_rfl
theorem nt36 : Tryz.f36.ntmps = 9 := by kernel_rfl
theorem rs36 : Tryz.f36.results.toList = [.cell 2 40] := by kernel_rfl
noncomputable def fewB (l : List Bd) : Bool := decide (l.length ≤ 20 ∧ ∀ x ∈ l, x.1 ≤ 100)
theorem few_bi {q : Nat} (hq : q < 2 ^ 62) {α : Type} (X Y : α) : bi (nbeq (bi (nb (nble (biased 3 q) 9223372036854775908)) 1 0) 1) X Y = if q ≤ 100 then Y else X := by
  rw [bl_bi, biased3s (by omega), nble_dec]
  by_cases h : q ≤ 100
  · rw [if_pos h, decide_eq_true (by omega)]; rfl
  · rw [if_neg h, decide_eq_false (by omega)]; rfl
theorem pure9 (np : Nat) (l : List Bd) (hl : l.length < 2 ^ 62) (hq : ∀ x ∈ l, x.1 < 2 ^ 62) : PureAt Tryz.prog 9 [aggV [slP 0 1 [], slP 0 2 [], slP np 2 (l.map bdA)]] (bV (fewB l)) := by
  have loopb : ∀ e, jmpN Tryz.prog 51 lab9 (baseH Tryz.prog) RVl (finY Tryz.prog [.tmp 2] [4]) (bodyC Tryz.f9) (l.length + 1 + e) [0,0,1,0,1,1,1] [bxD [slP 0 1 [], slP 0 2 [], slP np 2 (l.map bdA)], i64 0] = ansY (bV (decide (∀ x ∈ l, x.1 ≤ 100))) := by
    intro e
    have h := walkR (n := l.length) (L := fun k i => jmpN Tryz.prog 51 lab9 (baseH Tryz.prog) RVl (finY Tryz.prog [.tmp 2] [4]) (bodyC Tryz.f9) (k + e) [0,0,1,0,1,1,1] [bxD [slP 0 1 [], slP 0 2 [], slP np 2 (l.map bdA)], i64 i]) (A := fun i => ansY (bV (decide (∀ x ∈ l.drop i, x.1 ≤ 100)))) (fun k => ?_) (fun k i hi ih => ?_) l.length 0 (by omega)
    · exact h
    · show jmpN _ _ _ _ _ _ _ (k + 1 + e) _ _ = _
      rw [Nat.add_right_comm, jmpN_succ, l9b, lenL_map, ctr (by omega) (by omega), if_neg (by omega), List.drop_length]
      rfl
    · show jmpN _ _ _ _ _ _ _ (k + 1 + e) _ _ = _
      rw [Nat.add_right_comm, jmpN_succ, l9b, lenL_map, ctr (by omega) (by omega), if_pos hi, nble_t (show i.succ ≤ l.length from hi), bi_tt, nthL_map bdA l i hi]
      have hq' := hq _ (List.getElem_mem hi)
      simp only [nth1, cells_bd, p2_0, tg_s, bi_tt, stA_q, few_bi hq', addi1 (show i < 2 ^ 63 by omega), mk_slP, mk_bx]
      rw [nble_t (by omega), bi_tt]
      by_cases h1 : l[i].1 ≤ 100
      · rw [if_pos h1]
        refine ih.trans ?_
        have : (∀ x ∈ l.drop i, x.1 ≤ 100) ↔ ∀ x ∈ l.drop (i + 1), x.1 ≤ 100 := by
          rw [List.drop_eq_getElem_cons hi]
          simp only [List.mem_cons, forall_eq_or_imp, h1, true_and]
        simp only [this]
      · have hn : ¬ ∀ x ∈ l.drop i, x.1 ≤ 100 := fun h => h1 (h l[i] (by rw [List.drop_eq_getElem_cons hi]; exact List.mem_cons_self))
        rw [if_neg h1, decide_eq_false hn]
        rfl
  refine pure_fn mixed globs fn9 body9 nt9 rs9 RVl_ok lab9 [4] (l.length + 1 + 1) ((s9 _ 0 0 np _ _ _).trans ?_)
  rw [lenL_map, biased3s (show l.length < 2 ^ 63 by omega), bl_bi]
  have e0 : nble (biased 3 (lenL ([] : List AV))) 9223372036854775828 = true := by decide +kernel
  rw [e0]
  simp only [nb_t, bi_ff, n00, bi_tt]
  unfold fewB
  rw [nble_dec]
  by_cases h20 : l.length ≤ 20
  · rw [decide_eq_true (show l.length + 2 ^ 63 ≤ 9223372036854775828 by omega), nb_t, bi_ff]
    show jmpN _ _ _ _ _ _ _ (l.length + 1 + 1) _ [bxD [slP 0 1 [], slP 0 2 [], slP np 2 (l.map bdA)], i64 0] = _
    rw [jmpN_succ, l9a]
    have e1 : bi (nbeq (bi (nb (nble (biased 3 (lenL ([] : List AV))) (biased 3 0))) 1 0) 1) = fun (_ : RL) (y : RL) => y := by
      funext x y
      exact ctr (n := 0) (i := 0) (by decide) (by decide) x y
    rw [e1]
    refine (loopb 0).trans ?_
    have : (∀ x ∈ l, x.1 ≤ 100) ↔ (l.length ≤ 20 ∧ ∀ x ∈ l, x.1 ≤ 100) := ⟨fun h => ⟨h20, h⟩, fun h => h.2⟩
    exact congrArg (fun b => ansY (bV b)) (decide_eq_decide.2 this)
  · rw [decide_eq_false (show ¬ l.length + 2 ^ 63 ≤ 9223372036854775828 by omega), nb_f, bi_tt, decide_eq_false (fun h => h20 h.1)]
    rfl
theorem eqa_b (b : Nat) : eqA 1000 (mk1 8 b) (mk1 8 b) = true := eqA_agg 999 _ _ _ _ _ _ fun c hc => by cases hc
theorem andn_sub {w z : Nat} (hw : w < 2 ^ 64) (hz : z ≤ maskN w) : g_andn (maskN w) z = maskN w - z := by
  have h2 := (clamp_range hw).2
  have em : maskN w = 2 ^ clampN w - 1 := rfl
  have hp := Nat.two_pow_pos (clampN w)
  have hle : (2 : Nat) ^ clampN w ≤ 2 ^ 64 := Nat.pow_le_pow_right (by decide) h2
  rw [em] at hz ⊢
  rw [g_andn_eq, Nat.and_comm, Nat.and_two_pow_sub_one_eq_mod, not_mod h2 (by omega), Nat.mod_eq_of_lt (by omega)]
theorem preA_lt (l h : Nat) : ∀ t x, t ≤ 64 → x.1 < 2 ^ 64 → x.2 < 2 ^ 64 → (preA l h t x).1 < 2 ^ 64 ∧ (preA l h t x).2 < 2 ^ 64 := by
  intro t
  induction t with
  | zero => intro x _ h1 h2; exact ⟨h1, h2⟩
  | succ t ih =>
    intro x ht h1 h2
    have hp : (2 : Nat) ^ t < 2 ^ 64 := Nat.pow_lt_pow_right (by decide) (by omega)
    rw [preA]
    split
    · refine ih _ (by omega) ?_ ?_
      · split
        · exact h1
        · exact Nat.or_lt_two_pow h1 hp
      · split
        · exact Nat.or_lt_two_pow h2 hp
        · exact h2
    · exact ⟨h1, h2⟩
theorem pz_lt {w l h : Nat} (hw : w ≤ 64) : sp_pz w l h < 2 ^ 64 := (preA_lt l h w (0, 0) hw (by decide) (by decide)).1
theorem po_lt {w l h : Nat} (hw : w ≤ 64) : sp_po w l h < 2 ^ 64 := (preA_lt l h w (0, 0) hw (by decide) (by decide)).2
theorem ml_lt {w a b c d : Nat} (h1 : Lt2 a b) (h2 : Lt2 c d) : sp_ml w a b c d < 2 ^ 64 := by
  have := rl_lt (w := w) h1; have := rl_lt (w := w) h2
  unfold sp_ml
  cases sp_mb w a b c d
  · exact (by decide : (0 : Nat) < 2 ^ 64)
  · show max _ _ < _; omega
theorem mh_lt {w a b c d : Nat} (hw : w < 2 ^ 64) (h1 : Lt2 a b) : sp_mh w a b c d < 2 ^ 64 := by
  have := rh_lt hw h1
  unfold sp_mh
  cases sp_mb w a b c d
  · exact mask_lt hw
  · show min _ _ < _; omega
structure F64 (w z o l h : Nat) : Prop where
  w1 : 1 ≤ w
  w2 : w ≤ 64
  fz : z < 2 ^ 64
  fo : o < 2 ^ 64
  fl : l < 2 ^ 64
  fh : h < 2 ^ 64
  zm : z ≤ maskN w
theorem F64.w {w z o l h : Nat} (f : F64 w z o l h) : w < 2 ^ 64 := by have := f.w2; omega
theorem pure82 (w z o l h : Nat) (f : F64 w z o l h) : PureAt Tryz.prog 82 [fcA w z o l h] (tupV [fcA w (sp_t1 w z o l h) (sp_t2 w z o l h) (sp_t3 w z o l h) (sp_t4 w z o l h), bV (sp_tb w z o l h)]) := by
  show PureAt Tryz.prog 82 [aggV [i64 w, u64 z, u64 o, u64 l, u64 h]] (tupV [aggV [i64 w, u64 (sp_t1 w z o l h), u64 (sp_t2 w z o l h), u64 (sp_t3 w z o l h), u64 (sp_t4 w z o l h)], bV (sp_tb w z o l h)])
  refine pure_fn mixed globs fn82 body82 nt82 rs82 RZ_ok (fun _ => none) [40, 4] 0 ((s82 _ w z o l h).trans ?_)
  have hw := f.w
  have hm : maskN w - z < 2 ^ 64 := by have := mask_lt hw; omega
  have hl : Lt2 l h := ⟨f.fl, f.fh⟩
  have ho : Lt2 o (maskN w - z) := ⟨f.fo, hm⟩
  have q0 : PureAt Tryz.prog 84 [i64 w] (aggV [u64 0, u64 (maskN w)]) := pure84 w hw
  rw [okN_bi q0, andn_sub hw f.zm]
  simp only [eqa_u, eqa_i, eqA_pr, eqa_b, bi_tt]
  have q1 := okN_one.2 (pure152 w l h o (maskN w - z) hw hl ho (pure220 w l h hw f.fl f.fh) (pure220 w o _ hw f.fo hm))
  have q2 := okN_one.2 (pure154 w (sp_ml w l h o (maskN w - z)) (sp_mh w l h o (maskN w - z)) f.w1 f.w2)
  have q3 := okN_one.2 (pure153 w z o (sp_pz w (sp_ml w l h o (maskN w - z)) (sp_mh w l h o (maskN w - z))) (sp_po w (sp_ml w l h o (maskN w - z)) (sp_mh w l h o (maskN w - z))) (pure221 w z o hw f.fz f.fo) (pure221 w _ _ hw (pz_lt f.w2) (po_lt f.w2)))
  simp only [pr2, bV] at q1 q2 q3
  rw [q1, q2, q3]
  simp only [n11, bi_tt, bS1]
  unfold sp_t1 sp_t2 sp_t3 sp_t4 sp_tb sp_sr
  cases sp_mb w l h o (maskN w - z)
  · rfl
  · rfl
theorem pure157 (w z o l h : Nat) (f : F64 w z o l h) : PureAt Tryz.prog 157 [fcA w z o l h] (tupV [fcA w (sp_t1 w z o l h) (sp_t2 w z o l h) (sp_t3 w z o l h) (sp_t4 w z o l h), bV (sp_tb w z o l h)]) := by
  show PureAt Tryz.prog 157 [aggV [i64 w, u64 z, u64 o, u64 l, u64 h]] (tupV [aggV [i64 w, u64 (sp_t1 w z o l h), u64 (sp_t2 w z o l h), u64 (sp_t3 w z o l h), u64 (sp_t4 w z o l h)], bV (sp_tb w z o l h)])
  refine pure_fn mixed globs fn157 body157 nt157 rs157 RZ_ok (fun _ => none) [40, 4] 0 ((s157 _ w z o l h).trans ?_)
  have hw := f.w
  have hm : maskN w - z < 2 ^ 64 := by have := mask_lt hw; omega
  have hl : Lt2 l h := ⟨f.fl, f.fh⟩
  have ho : Lt2 o (maskN w - z) := ⟨f.fo, hm⟩
  have es : g_subu (maskN w) z = maskN w - z := by rw [g_subu_eq]; have := mask_lt hw; have := f.zm; omega
  rw [okN_bi (pure222 w hw), es]
  simp only [eqa_u, eqa_i, eqA_pr, eqa_b, bi_tt]
  have q1 := okN_one.2 (pure223 w l h o (maskN w - z) hw hl ho (pure257 w l h hw f.fl f.fh) (pure257 w o _ hw f.fo hm))
  have q2 := okN_one.2 (pure225 w (sp_ml w l h o (maskN w - z)) (sp_mh w l h o (maskN w - z)) f.w1 f.w2 (ml_lt hl ho) (mh_lt hw hl))
  have q3 := okN_one.2 (pure224 w z o (sp_pz w (sp_ml w l h o (maskN w - z)) (sp_mh w l h o (maskN w - z))) (sp_po w (sp_ml w l h o (maskN w - z)) (sp_mh w l h o (maskN w - z))) (pure258 w z o hw f.fz f.fo) (pure258 w _ _ hw (pz_lt f.w2) (po_lt f.w2)))
  simp only [pr2, bV] at q1 q2 q3
  rw [q1, q2, q3]
  simp only [n11, bi_tt, bS1]
  unfold sp_t1 sp_t2 sp_t3 sp_t4 sp_tb sp_sr
  cases sp_mb w l h o (maskN w - z)
  · rfl
  · rfl
end Go.Eng
namespace Go.Eng
open Go.RowKit Go.Proofs
theorem same_f (w a b c d z o l h : Nat) : bi (nbeq w w) (bi (bi (nbeq a z) (bi (nbeq b o) true false) false) (bi (bi (nbeq c l) (bi (nbeq d h) true false) false) true false) false) false = decide (a = z ∧ b = o ∧ c = l ∧ d = h) := by
  rw [nbeq_dec, nbeq_dec, nbeq_dec, nbeq_dec, nbeq_dec]
  by_cases h1 : a = z <;> by_cases h2 : b = o <;> by_cases h3 : c = l <;> by_cases h4 : d = h <;> simp only [h1, h2, h3, h4, decide_true, decide_false, true_and, false_and, and_false, and_true] <;> rfl
theorem in_w2 {α : Type} {w : Nat} (hw : w < 2 ^ 64) (X Y : α) : bi (nbeq (bi (nb (nble 9223372036854775809 (biased 3 w))) 1 0) 0) (bi (nbeq (bi (nb (nble (biased 3 w) 9223372036854775872)) 1 0) 0) X Y) Y = if 1 ≤ w ∧ w ≤ 64 then X else Y := by
  rw [b0, b0, biased3, nble_dec, nble_dec]
  by_cases h1 : 9223372036854775809 ≤ (w + 2 ^ 63) % 2 ^ 64
  · by_cases h2 : (w + 2 ^ 63) % 2 ^ 64 ≤ 9223372036854775872
    · rw [decide_eq_true h1, decide_eq_true h2, if_pos (by omega)]; rfl
    · rw [decide_eq_true h1, decide_eq_false h2, if_neg (by omega)]; rfl
  · rw [decide_eq_false h1, if_neg (by omega)]; rfl
theorem kv_zm {w z o : Nat} (h : sp_kv w z o = true) : z ≤ maskN w := by
  unfold sp_kv at h
  exact (of_decide_eq_true h).2.1
theorem pure34 (w z o l h : Nat) (hw : w < 2 ^ 64) (hz : z < 2 ^ 64) (ho : o < 2 ^ 64) (hl : l < 2 ^ 64) (hh : h < 2 ^ 64) : PureAt Tryz.prog 34 [fcA w z o l h] (bV (sp_vd w z o l h)) := by
  show PureAt Tryz.prog 34 [aggV [i64 w, u64 z, u64 o, u64 l, u64 h]] (bV (sp_vd w z o l h))
  refine pure_fn mixed globs fn34 body34 nt34 rs34 RZ_ok (fun _ => none) [4] 0 ((s34 _ w z o l h).trans ?_)
  rw [okN_bi (pure79 w hw), eqa_i, bi_tt, bl_bi, b0, nbeq_dec]
  by_cases hc : 1 ≤ w ∧ w ≤ 64
  · rw [decide_eq_true (show w = clampN w from (clamp_in hc.1 hc.2).symm), nb_t, bi_ff, bi_ff]
    have q80 : PureAt Tryz.prog 80 [i64 w, aggV [u64 z, u64 o]] (mk1 8 (bi (sp_kv w z o) 1 0)) := pure80 w z o hw hz ho
    have q81 : PureAt Tryz.prog 81 [i64 w, aggV [u64 l, u64 h]] (mk1 8 (bi (sp_rv w l h) 1 0)) := pure81 w l h hw hl hh
    rw [okN_bi q80, bS1, bneg, okN_bi q81, bS1]
    cases hkv : sp_kv w z o
    · unfold sp_vd; rw [hkv, decide_eq_true hc]; rfl
    · rw [bi_tt, bi_tt]
      cases hrv : sp_rv w l h
      · unfold sp_vd; rw [hkv, hrv, decide_eq_true hc]; rfl
      · have q82 : PureAt Tryz.prog 82 [aggV [i64 w, u64 z, u64 o, u64 l, u64 h]] (tupV [aggV [i64 w, u64 (sp_t1 w z o l h), u64 (sp_t2 w z o l h), u64 (sp_t3 w z o l h), u64 (sp_t4 w z o l h)], mk1 8 (bi (sp_tb w z o l h) 1 0)]) := pure82 w z o l h ⟨hc.1, hc.2, hz, ho, hl, hh, kv_zm hkv⟩
        rw [bi_tt, okN_bi q82, bl_bi, same_f]
        unfold sp_vd
        rw [hkv, hrv, decide_eq_true hc]
        cases sp_tb w z o l h <;> rfl
  · have hr := clamp_range hw
    rw [decide_eq_false (show ¬ w = clampN w from fun e => hc (by omega)), nb_f, bi_tt]
    unfold sp_vd
    rw [decide_eq_false hc]; rfl
theorem pure85 (w z o l h : Nat) (hw : w < 2 ^ 64) (hz : z < 2 ^ 64) (ho : o < 2 ^ 64) (hl : l < 2 ^ 64) (hh : h < 2 ^ 64) : PureAt Tryz.prog 85 [fcA w z o l h] (bV (sp_vd w z o l h)) := by
  show PureAt Tryz.prog 85 [aggV [i64 w, u64 z, u64 o, u64 l, u64 h]] (bV (sp_vd w z o l h))
  refine pure_fn mixed globs fn85 body85 nt85 rs85 RZ_ok (fun _ => none) [4] 0 ((s85 _ w z o l h).trans ?_)
  rw [in_w2 hw]
  by_cases hc : 1 ≤ w ∧ w ≤ 64
  · rw [if_pos hc]
    have q80 : PureAt Tryz.prog 155 [i64 w, aggV [u64 z, u64 o]] (mk1 8 (bi (sp_kv w z o) 1 0)) := pure155 w z o hw hz ho
    have q81 : PureAt Tryz.prog 156 [i64 w, aggV [u64 l, u64 h]] (mk1 8 (bi (sp_rv w l h) 1 0)) := pure156 w l h hw hl hh
    rw [okN_bi q80, bneg, okN_bi q81, bS1]
    cases hkv : sp_kv w z o
    · unfold sp_vd; rw [hkv, decide_eq_true hc]; rfl
    · rw [bi_tt]
      cases hrv : sp_rv w l h
      · unfold sp_vd; rw [hkv, hrv, decide_eq_true hc]; rfl
      · have q82 : PureAt Tryz.prog 157 [aggV [i64 w, u64 z, u64 o, u64 l, u64 h]] (tupV [aggV [i64 w, u64 (sp_t1 w z o l h), u64 (sp_t2 w z o l h), u64 (sp_t3 w z o l h), u64 (sp_t4 w z o l h)], mk1 8 (bi (sp_tb w z o l h) 1 0)]) := pure157 w z o l h ⟨hc.1, hc.2, hz, ho, hl, hh, kv_zm hkv⟩
        rw [bi_tt, okN_bi q82, bl_bi, same_f]
        unfold sp_vd
        rw [hkv, hrv, decide_eq_true hc]
        cases sp_tb w z o l h <;> rfl
  · rw [if_neg hc]
    unfold sp_vd
    rw [decide_eq_false hc]; rfl
theorem pure36 (w z o l h : Nat) (hw : w < 2 ^ 64) (hz : z < 2 ^ 64) (ho : o < 2 ^ 64) (hl : l < 2 ^ 64) (hh : h < 2 ^ 64) : PureAt Tryz.prog 36 [fcA w z o l h] (fcA (sp_n1 w z o l h) (sp_n2 w z o l h) (sp_n3 w z o l h) (sp_n4 w z o l h) (sp_n5 w z o l h)) := by
  show PureAt Tryz.prog 36 [aggV [i64 w, u64 z, u64 o, u64 l, u64 h]] (aggV [i64 (sp_n1 w z o l h), u64 (sp_n2 w z o l h), u64 (sp_n3 w z o l h), u64 (sp_n4 w z o l h), u64 (sp_n5 w z o l h)])
  refine pure_fn mixed globs fn36 body36 nt36 rs36 RZ_ok (fun _ => none) [40] 0 ((s36 _ w z o l h).trans ?_)
  have q85 : PureAt Tryz.prog 85 [aggV [i64 w, u64 z, u64 o, u64 l, u64 h]] (mk1 8 (bi (sp_vd w z o l h) 1 0)) := pure85 w z o l h hw hz ho hl hh
  have q86 : PureAt Tryz.prog 86 [i64 w] (aggV [i64 (clampN w), u64 0, u64 0, u64 0, u64 (maskN w)]) := pure86 w hw
  rw [okN_bi q85, bl_bi, okN_bi q86]
  unfold sp_n1 sp_n2 sp_n3 sp_n4 sp_n5
  cases sp_vd w z o l h <;> rfl
end Go.Eng
