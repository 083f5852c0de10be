/- A part of the proof that the evaluator in GnC, and the driver in GnZ, answer as the model does; no conditions. -/
import Derived.Test.YtfbgcggkgelaaaaGreatDoorGnT
import Derived.Test.YtfbgcggkgelaaaaGreatDoorProg
import Derived.ProofKit
import Derived.Test.YtfbgcggkgelaaaaGreatDoorGnLd
import Derived.Test.YtfbgcggkgelaaaaGreatDoorRows
namespace Go.Eng
open Go.RowKit Go.Proofs
theorem noGor : NoGor Tryz.prog := by
  have h : (Tryz.prog.funcs.all fun fn => !(fn.name == "runtime.NumGoroutine")) = true := by kernel_rfl
  intro f fn hf
  have := Array.all_eq_true_iff_forall_mem.1 h fn (Array.mem_of_getElem? hf)
  simpa using this
theorem mixed : Tryz.prog.follows .mixedOrders = true := by kernel_rfl
theorem globs : Tryz.prog.globals.size ≤ 32767 := of_decide_eq_true (by kernel_rfl)
noncomputable section
def R0 : Rec := evN Tryz.prog (ntL []) (fun _ => false) 3
def cmpN (x y : Nat) : Nat := bi (nble (biased 3 y) (biased 3 x)) (bi (nble (biased 3 x) (biased 3 y)) 0 1) 18446744073709551615
end
theorem R0_ok : RecOk Tryz.prog R0 := evN_ok mixed ntL_nil noGor 3
theorem e19 (J : Jmp) (x y : Nat) : (compY Tryz.prog 20 (fun _ => none) (finY Tryz.prog [.tmp 4] [3]) J [] (bodyC Tryz.f19) (finY Tryz.prog [.tmp 4] [3]) []).run R0 (setArgs 0 [i64 x, i64 y] noFr) (baseH Tryz.prog) =
  (bi (nbeq (bi (nb (nbeq x x)) 1 0) 1)
    (bi (nbeq (bi (nb (nbeq y y)) 1 0) 1)
      (ansY { tag := 3, p := 0, q := 0, r := 0, s := 0, cs := [] })
      (ansY { tag := 3, p := 18446744073709551615, q := 0, r := 0, s := 0, cs := [] }))
    (bi (nbeq (bi (nb (nbeq y y)) 1 0) 1)
      (ansY { tag := 3, p := 1, q := 0, r := 0, s := 0, cs := [] })
      (bi (nbeq (bi (nb (nble (biased 3 y) (biased 3 x))) 1 0) 1)
        (ansY { tag := 3, p := 18446744073709551615, q := 0, r := 0, s := 0, cs := [] })
        (bi (nbeq (bi (nb (nble (biased 3 x) (biased 3 y))) 1 0) 1)
          (ansY { tag := 3, p := 1, q := 0, r := 0, s := 0, cs := [] })
          (ansY { tag := 3, p := 0, q := 0, r := 0, s := 0, cs := [] }))))) := by kernel_rfl
theorem body19 : Tryz.f19.body = some (bodyC Tryz.f19) := by kernel_rfl
theorem func19 : Tryz.prog.funcs[19]? = some Tryz.f19 := by kernel_rfl
theorem n19 : Tryz.f19.ntmps = 20 := by kernel_rfl
theorem res19 : Tryz.f19.results.toList = [.tmp 4] := by kernel_rfl
theorem pure19 (x y : Nat) : PureAt Tryz.prog 19 [i64 x, i64 y] (i64 (cmpN x y)) := by
  refine pure_fn mixed globs func19 body19 n19 res19 R0_ok (fun _ => none) [3] 0 ((e19 _ x y).trans ?_)
  unfold cmpN
  simp only [bl_bi, nbeq_refl]
  cases nble (biased 3 y) (biased 3 x) <;> cases nble (biased 3 x) (biased 3 y) <;> rfl
end Go.Eng
namespace Go.Eng
open Go.RowKit Go.Proofs
/- the equations for the parts of machine.Compare, as GnSymU.lean printed them -/
noncomputable section
def st (q x : Nat) : AV := ⟨9, x, q, 0, 0, []⟩
def cmpU (x y : Nat) : Nat := bi (nble (biased 7 y) (biased 7 x)) (bi (nble (biased 7 x) (biased 7 y)) 0 1) 18446744073709551615
def cmpS (x y : AV) : Nat := bi (strLt x y) 18446744073709551615 (bi (strLt y x) 1 0)
def Nt1 : Nat → Option Native := ntL [(19, natP Tryz.prog 19 [3, 3] fun l => i64 (cmpN (nthL l 0).p (nthL l 1).p)), (22, natP Tryz.prog 22 [31, 31] fun l => i64 (cmpU (nthL l 0).p (nthL l 1).p)), (24, natP Tryz.prog 24 [9, 9] fun l => i64 (cmpS (nthL l 0) (nthL l 1)))]
def R1 : Rec := evN Tryz.prog Nt1 (fun _ => false) 2
def lab16 : Lab := labT [([0,0,1,0,1], [(0,0),(1,0),(9,0),(10,0),(11,0)])]
end
theorem R1_ok : RecOk Tryz.prog R1 := evN_ok mixed (ntL_cons (ntL_cons (ntL_cons ntL_nil))) noGor 2
theorem e22 (J : Jmp) (x y : Nat) : (compY Tryz.prog 20 (fun _ => none) (finY Tryz.prog [.tmp 4] [3]) J [] (bodyC Tryz.f22) (finY Tryz.prog [.tmp 4] [3]) []).run R0 (setArgs 0 [u64 x, u64 y] noFr) (baseH Tryz.prog) =
  (bi (nbeq (bi (nb (nbeq x x)) 1 0) 1)
    (bi (nbeq (bi (nb (nbeq y y)) 1 0) 1)
      (ansY { tag := 3, p := 0, q := 0, r := 0, s := 0, cs := [] })
      (ansY { tag := 3, p := 18446744073709551615, q := 0, r := 0, s := 0, cs := [] }))
    (bi (nbeq (bi (nb (nbeq y y)) 1 0) 1)
      (ansY { tag := 3, p := 1, q := 0, r := 0, s := 0, cs := [] })
      (bi (nbeq (bi (nb (nble (biased 7 y) (biased 7 x))) 1 0) 1)
        (ansY { tag := 3, p := 18446744073709551615, q := 0, r := 0, s := 0, cs := [] })
        (bi (nbeq (bi (nb (nble (biased 7 x) (biased 7 y))) 1 0) 1)
          (ansY { tag := 3, p := 1, q := 0, r := 0, s := 0, cs := [] })
          (ansY { tag := 3, p := 0, q := 0, r := 0, s := 0, cs := [] }))))) := by kernel_rfl
theorem e24 (J : Jmp) (x y a b : Nat) : (compY Tryz.prog 20 (fun _ => none) (finY Tryz.prog [.tmp 4] [3]) J [] (bodyC Tryz.f24) (finY Tryz.prog [.tmp 4] [3]) []).run R0 (setArgs 0 [st a x, st b y] noFr) (baseH Tryz.prog) =
  (bi (nbeq (bi (nb (bi (nbeq a a) (nbeq x x) false)) 1 0) 1)
    (bi (nbeq (bi (nb (bi (nbeq b b) (nbeq y y) false)) 1 0) 1)
      (ansY { tag := 3, p := 0, q := 0, r := 0, s := 0, cs := [] })
      (ansY { tag := 3, p := 18446744073709551615, q := 0, r := 0, s := 0, cs := [] }))
    (bi (nbeq (bi (nb (bi (nbeq b b) (nbeq y y) false)) 1 0) 1)
      (ansY { tag := 3, p := 1, q := 0, r := 0, s := 0, cs := [] })
      (bi (nbeq (bi (strLt { tag := 9, p := x, q := a, r := 0, s := 0, cs := [] } { tag := 9, p := y, q := b, r := 0, s := 0, cs := [] }) 1 0) 1)
        (ansY { tag := 3, p := 18446744073709551615, q := 0, r := 0, s := 0, cs := [] })
        (bi (nbeq (bi (strLt { tag := 9, p := y, q := b, r := 0, s := 0, cs := [] } { tag := 9, p := x, q := a, r := 0, s := 0, cs := [] }) 1 0) 1)
          (ansY { tag := 3, p := 1, q := 0, r := 0, s := 0, cs := [] })
          (ansY { tag := 3, p := 0, q := 0, r := 0, s := 0, cs := [] }))))) := by kernel_rfl
theorem e18 (J : Jmp) (x y a b i j : Nat) : (compY Tryz.prog 10 (fun _ => none) (finY Tryz.prog [.tmp 4] [3]) J [] (bodyC Tryz.f18) (finY Tryz.prog [.tmp 4] [3]) []).run R1 (setArgs 0 [aggV [st a x, i64 i], aggV [st b y, i64 j]] noFr) (baseH Tryz.prog) =
  (bi (nbeq (okN (PureAt Tryz.prog 19 [{ tag := 3, p := i, q := 0, r := 0, s := 0, cs := [] }, { tag := 3, p := j, q := 0, r := 0, s := 0, cs := [] }] { tag := 3, p := cmpN i j, q := 0, r := 0, s := 0, cs := [] })) 1)
    (ansY { tag := 3, p := cmpN i j, q := 0, r := 0, s := 0, cs := [] })
    (failR 301)) := by kernel_rfl
theorem e23 (J : Jmp) (x y a b i j : Nat) : (compY Tryz.prog 10 (fun _ => none) (finY Tryz.prog [.tmp 4] [3]) J [] (bodyC Tryz.f23) (finY Tryz.prog [.tmp 4] [3]) []).run R1 (setArgs 0 [aggV [st a x, i64 i], aggV [st b y, i64 j]] noFr) (baseH Tryz.prog) =
  (bi (nbeq (okN (PureAt Tryz.prog 24 [{ tag := 9, p := x, q := a, r := 0, s := 0, cs := [] }, { tag := 9, p := y, q := b, r := 0, s := 0, cs := [] }] { tag := 3, p := cmpS { tag := 9, p := x, q := a, r := 0, s := 0, cs := [] } { tag := 9, p := y, q := b, r := 0, s := 0, cs := [] }, q := 0, r := 0, s := 0, cs := [] })) 1)
    (ansY { tag := 3, p := cmpS { tag := 9, p := x, q := a, r := 0, s := 0, cs := [] } { tag := 9, p := y, q := b, r := 0, s := 0, cs := [] }, q := 0, r := 0, s := 0, cs := [] })
    (failR 301)) := by kernel_rfl
theorem e21 (J : Jmp) (x y a b i j : Nat) : (compY Tryz.prog 10 (fun _ => none) (finY Tryz.prog [.tmp 4] [3]) J [] (bodyC Tryz.f21) (finY Tryz.prog [.tmp 4] [3]) []).run R1 (setArgs 0 [aggV [st a x, u64 i], aggV [st b y, u64 j]] noFr) (baseH Tryz.prog) =
  (bi (nbeq (okN (PureAt Tryz.prog 22 [{ tag := 7, p := i, q := 0, r := 0, s := 0, cs := [] }, { tag := 7, p := j, q := 0, r := 0, s := 0, cs := [] }] { tag := 3, p := cmpU i j, q := 0, r := 0, s := 0, cs := [] })) 1)
    (ansY { tag := 3, p := cmpU i j, q := 0, r := 0, s := 0, cs := [] })
    (failR 301)) := by kernel_rfl
theorem e25 (J : Jmp) (x y a b i j : Nat) : (compY Tryz.prog 10 (fun _ => none) (finY Tryz.prog [.tmp 4] [3]) J [] (bodyC Tryz.f25) (finY Tryz.prog [.tmp 4] [3]) []).run R1 (setArgs 0 [aggV [st a x, u64 i], aggV [st b y, u64 j]] noFr) (baseH Tryz.prog) =
  (bi (nbeq (okN (PureAt Tryz.prog 24 [{ tag := 9, p := x, q := a, r := 0, s := 0, cs := [] }, { tag := 9, p := y, q := b, r := 0, s := 0, cs := [] }] { tag := 3, p := cmpS { tag := 9, p := x, q := a, r := 0, s := 0, cs := [] } { tag := 9, p := y, q := b, r := 0, s := 0, cs := [] }, q := 0, r := 0, s := 0, cs := [] })) 1)
    (ansY { tag := 3, p := cmpS { tag := 9, p := x, q := a, r := 0, s := 0, cs := [] } { tag := 9, p := y, q := b, r := 0, s := 0, cs := [] }, q := 0, r := 0, s := 0, cs := [] })
    (failR 301)) := by kernel_rfl
theorem s16 (J : Jmp) (pa pb : Nat) (xs ys : List AV) : (compY Tryz.prog 36 lab16 (finY Tryz.prog [.tmp 4] [3]) J [] (bodyC Tryz.f16) (finY Tryz.prog [.tmp 4] [3]) []).run R1 (setArgs 0 [slP pa 1 xs, slP pb 1 ys] noFr) (baseH Tryz.prog) =
  (J [0, 0, 1, 0, 1] [{ tag := 24, p := pa, q := 0, r := 1, s := 0, cs := xs }, { tag := 24, p := pb, q := 0, r := 1, s := 0, cs := ys }, { tag := 24, p := pa, q := 0, r := 1, s := 0, cs := xs }, { tag := 3, p := lenL xs, q := 0, r := 0, s := 0, cs := [] }, { tag := 3, p := 0, q := 0, r := 0, s := 0, cs := [] }]) := by kernel_rfl
theorem l16 (J : Jmp) (pa pb : Nat) (xs ys : List AV) (i : Nat) : lblY Tryz.prog 36 lab16 (baseH Tryz.prog) R1 (finY Tryz.prog [.tmp 4] [3]) (bodyC Tryz.f16) J [0,0,1,0,1] [slP pa 1 xs, slP pb 1 ys, slP pa 1 xs, i64 (lenL xs), i64 i] =
  (bi (nbeq (bi (nb (nble (biased 3 (lenL xs)) (biased 3 i))) 1 0) 1)
    (bi (nble i.succ (lenL xs))
      (bi (bi (tagIs 3 (nthL (bi (nbeq (nthL [nthL xs i] 0).1 15) (nthL [nthL xs i] 0).6 [nthL [nthL xs i] 0]) 0)) true false)
        (bi (nbeq (bi (nble (biased 3 (lenL ys)) (biased 3 i)) 1 0) 1)
          (ansY { tag := 3, p := 1, q := 0, r := 0, s := 0, cs := [] })
          (bi (nble i.succ (lenL ys))
            (bi (bi (tagIs 3 (nthL (bi (nbeq (nthL [nthL ys i] 0).1 15) (nthL [nthL ys i] 0).6 [nthL [nthL ys i] 0]) 0)) true false)
              (bi (nbeq (okN (PureAt Tryz.prog 19 [{ tag := 3, p := (nthL (bi (nbeq (nthL [nthL xs i] 0).1 15) (nthL [nthL xs i] 0).6 [nthL [nthL xs i] 0]) 0).2, q := 0, r := 0, s := 0, cs := [] }, { tag := 3, p := (nthL (bi (nbeq (nthL [nthL ys i] 0).1 15) (nthL [nthL ys i] 0).6 [nthL [nthL ys i] 0]) 0).2, q := 0, r := 0, s := 0, cs := [] }] { tag := 3, p := cmpN (nthL (bi (nbeq (nthL [nthL xs i] 0).1 15) (nthL [nthL xs i] 0).6 [nthL [nthL xs i] 0]) 0).2 (nthL (bi (nbeq (nthL [nthL ys i] 0).1 15) (nthL [nthL ys i] 0).6 [nthL [nthL ys i] 0]) 0).2, q := 0, r := 0, s := 0, cs := [] })) 1)
                (bi (nbeq (bi (nb (nbeq (cmpN (nthL (bi (nbeq (nthL [nthL xs i] 0).1 15) (nthL [nthL xs i] 0).6 [nthL [nthL xs i] 0]) 0).2 (nthL (bi (nbeq (nthL [nthL ys i] 0).1 15) (nthL [nthL ys i] 0).6 [nthL [nthL ys i] 0]) 0).2) 0)) 1 0) 1)
                  (ansY { tag := 3, p := cmpN (nthL (bi (nbeq (nthL [nthL xs i] 0).1 15) (nthL [nthL xs i] 0).6 [nthL [nthL xs i] 0]) 0).2 (nthL (bi (nbeq (nthL [nthL ys i] 0).1 15) (nthL [nthL ys i] 0).6 [nthL [nthL ys i] 0]) 0).2, q := 0, r := 0, s := 0, cs := [] })
                  (J [0, 0, 1, 0, 1] [{ tag := 24, p := pa, q := 0, r := 1, s := 0, cs := xs }, { tag := 24, p := pb, q := 0, r := 1, s := 0, cs := ys }, { tag := 24, p := pa, q := 0, r := 1, s := 0, cs := xs }, { tag := 3, p := lenL xs, q := 0, r := 0, s := 0, cs := [] }, { tag := 3, p := gt2 (fun a b => (a.add b).mod (kMod (kCode IntKind.i64))) i 1, q := 0, r := 0, s := 0, cs := [] }]))
                (failR 301))
              (failR 201))
            (failR 205)))
        (failR 201))
      (failR 205))
    (bi (nbeq (bi (nb (nble (biased 3 (lenL ys)) (biased 3 (lenL xs)))) 1 0) 1)
      (ansY { tag := 3, p := 18446744073709551615, q := 0, r := 0, s := 0, cs := [] })
      (ansY { tag := 3, p := 0, q := 0, r := 0, s := 0, cs := [] }))) := by kernel_rfl
end Go.Eng
namespace Go.Eng
open Go.RowKit Go.Proofs
theorem body22 : Tryz.f22.body = some (bodyC Tryz.f22) := by kernel_rfl
theorem func22 : Tryz.prog.funcs[22]? = some Tryz.f22 := by kernel_rfl
theorem n22 : Tryz.f22.ntmps = 20 := by kernel_rfl
theorem res22 : Tryz.f22.results.toList = [.tmp 4] := by kernel_rfl
theorem body24 : Tryz.f24.body = some (bodyC Tryz.f24) := by kernel_rfl
theorem func24 : Tryz.prog.funcs[24]? = some Tryz.f24 := by kernel_rfl
theorem n24 : Tryz.f24.ntmps = 20 := by kernel_rfl
theorem res24 : Tryz.f24.results.toList = [.tmp 4] := by kernel_rfl
theorem body18 : Tryz.f18.body = some (bodyC Tryz.f18) := by kernel_rfl
theorem func18 : Tryz.prog.funcs[18]? = some Tryz.f18 := by kernel_rfl
theorem n18 : Tryz.f18.ntmps = 10 := by kernel_rfl
theorem res18 : Tryz.f18.results.toList = [.tmp 4] := by kernel_rfl
theorem body21 : Tryz.f21.body = some (bodyC Tryz.f21) := by kernel_rfl
theorem func21 : Tryz.prog.funcs[21]? = some Tryz.f21 := by kernel_rfl
theorem n21 : Tryz.f21.ntmps = 10 := by kernel_rfl
theorem res21 : Tryz.f21.results.toList = [.tmp 4] := by kernel_rfl
theorem body23 : Tryz.f23.body = some (bodyC Tryz.f23) := by kernel_rfl
theorem func23 : Tryz.prog.funcs[23]? = some Tryz.f23 := by kernel_rfl
theorem n23 : Tryz.f23.ntmps = 10 := by kernel_rfl
theorem res23 : Tryz.f23.results.toList = [.tmp 4] := by kernel_rfl
theorem body25 : Tryz.f25.body = some (bodyC Tryz.f25) := by kernel_rfl
theorem func25 : Tryz.prog.funcs[25]? = some Tryz.f25 := by kernel_rfl
theorem n25 : Tryz.f25.ntmps = 10 := by kernel_rfl
theorem res25 : Tryz.f25.results.toList = [.tmp 4] := by kernel_rfl
theorem pure22 (x y : Nat) : PureAt Tryz.prog 22 [u64 x, u64 y] (i64 (cmpU x y)) := by
  refine pure_fn mixed globs func22 body22 n22 res22 R0_ok (fun _ => none) [3] 0 ((e22 _ x y).trans ?_)
  unfold cmpU
  simp only [bl_bi, nbeq_refl]
  cases nble (biased 7 y) (biased 7 x) <;> cases nble (biased 7 x) (biased 7 y) <;> rfl
theorem pure24 (x y a b : Nat) : PureAt Tryz.prog 24 [st a x, st b y] (i64 (cmpS (st a x) (st b y))) := by
  refine pure_fn mixed globs func24 body24 n24 res24 R0_ok (fun _ => none) [3] 0 ((e24 _ x y a b).trans ?_)
  unfold cmpS
  simp only [bl_bi, nbeq_refl]
  show bi (nb (bi true true false)) _ (bi (nb (bi true true false)) _ (bi (strLt (st a x) (st b y)) _ (bi (strLt (st b y) (st a x)) _ _))) = _
  cases strLt (st a x) (st b y) <;> cases strLt (st b y) (st a x) <;> rfl
theorem pure18 (x y a b i j : Nat) : PureAt Tryz.prog 18 [aggV [st a x, i64 i], aggV [st b y, i64 j]] (i64 (cmpN i j)) :=
  pure_fn mixed globs func18 body18 n18 res18 R1_ok (fun _ => none) [3] 0 ((e18 _ x y a b i j).trans (okN_bi (pure19 i j) _ _))
theorem pure21 (x y a b i j : Nat) : PureAt Tryz.prog 21 [aggV [st a x, u64 i], aggV [st b y, u64 j]] (i64 (cmpU i j)) :=
  pure_fn mixed globs func21 body21 n21 res21 R1_ok (fun _ => none) [3] 0 ((e21 _ x y a b i j).trans (okN_bi (pure22 i j) _ _))
theorem pure23 (x y a b i j : Nat) : PureAt Tryz.prog 23 [aggV [st a x, i64 i], aggV [st b y, i64 j]] (i64 (cmpS (st a x) (st b y))) :=
  pure_fn mixed globs func23 body23 n23 res23 R1_ok (fun _ => none) [3] 0 ((e23 _ x y a b i j).trans (okN_bi (pure24 x y a b) _ _))
theorem pure25 (x y a b i j : Nat) : PureAt Tryz.prog 25 [aggV [st a x, u64 i], aggV [st b y, u64 j]] (i64 (cmpS (st a x) (st b y))) :=
  pure_fn mixed globs func25 body25 n25 res25 R1_ok (fun _ => none) [3] 0 ((e25 _ x y a b i j).trans (okN_bi (pure24 x y a b) _ _))
end Go.Eng
namespace Go.Eng
open Go.RowKit Go.Proofs
noncomputable section
/-- a cell of an element -/
def cel (v : AV) (i : Nat) : AV := nthL v.cs i
def Nt2 : Nat → Option Native := ntL [(18, natP Tryz.prog 18 [63, 63] fun l => i64 (cmpN (cel (nthL l 0) 1).p (cel (nthL l 1) 1).p)), (23, natP Tryz.prog 23 [63, 63] fun l => i64 (cmpS (cel (nthL l 0) 0) (cel (nthL l 1) 0))),
  (21, natP Tryz.prog 21 [54, 54] fun l => i64 (cmpU (cel (nthL l 0) 1).p (cel (nthL l 1) 1).p)), (25, natP Tryz.prog 25 [54, 54] fun l => i64 (cmpS (cel (nthL l 0) 0) (cel (nthL l 1) 0)))]
def R2 : Rec := evN Tryz.prog Nt2 (fun _ => false) 2
def lab17 : Lab := labT [([0,0,1,0,1], [(0,0),(1,0),(2,0),(11,0),(12,0),(13,0)])]
end
theorem R2_ok : RecOk Tryz.prog R2 := evN_ok mixed (ntL_cons (ntL_cons (ntL_cons (ntL_cons ntL_nil)))) noGor 2
theorem s17 (J : Jmp) (pa pb : Nat) (xs ys : List AV) : (compY Tryz.prog 39 lab17 (finY Tryz.prog [.tmp 6] [3]) J [] (bodyC Tryz.f17) (finY Tryz.prog [.tmp 6] [3]) []).run R2 (setArgs 0 [slP pa 2 xs, slP pb 2 ys, mk1 13 18] noFr) (baseH Tryz.prog) =
  (J [0, 0, 1, 0, 1] [{ tag := 24, p := pa, q := 0, r := 2, s := 0, cs := xs }, { tag := 24, p := pb, q := 0, r := 2, s := 0, cs := ys }, { tag := 13, p := 18, q := 0, r := 0, s := 0, cs := [] }, { tag := 24, p := pa, q := 0, r := 2, s := 0, cs := xs }, { tag := 3, p := lenL xs, q := 0, r := 0, s := 0, cs := [] }, { tag := 3, p := 0, q := 0, r := 0, s := 0, cs := [] }]) := by kernel_rfl
theorem l17a (J : Jmp) (pa pb : Nat) (xs ys : List AV) (i : Nat) : lblY Tryz.prog 39 lab17 (baseH Tryz.prog) R2 (finY Tryz.prog [.tmp 6] [3]) (bodyC Tryz.f17) J [0,0,1,0,1] [slP pa 2 xs, slP pb 2 ys, mk1 13 18, slP pa 2 xs, i64 (lenL xs), i64 i] =
  (bi (nbeq (bi (nb (nble (biased 3 (lenL xs)) (biased 3 i))) 1 0) 1)
    (bi (nble i.succ (lenL xs))
      (bi (bi (tagIs 9 (nthL (bi (nbeq (nthL [nthL xs i] 0).1 15) (nthL [nthL xs i] 0).6 [nthL [nthL xs i] 0]) 0)) (bi (tagIs 3 (nthL (bi (nbeq (nthL [nthL xs i] 0).1 15) (nthL [nthL xs i] 0).6 [nthL [nthL xs i] 0]) (Nat.succ 0))) true false) false)
        (bi (nbeq (bi (nble (biased 3 (lenL ys)) (biased 3 i)) 1 0) 1)
          (ansY { tag := 3, p := 1, q := 0, r := 0, s := 0, cs := [] })
          (bi (nble i.succ (lenL ys))
            (bi (bi (tagIs 9 (nthL (bi (nbeq (nthL [nthL ys i] 0).1 15) (nthL [nthL ys i] 0).6 [nthL [nthL ys i] 0]) 0)) (bi (tagIs 3 (nthL (bi (nbeq (nthL [nthL ys i] 0).1 15) (nthL [nthL ys i] 0).6 [nthL [nthL ys i] 0]) (Nat.succ 0))) true false) false)
              (bi (nbeq (okN (PureAt Tryz.prog 18 [{ tag := 15, p := 0, q := 0, r := 0, s := 0, cs := [{ tag := 9, p := (nthL (bi (nbeq (nthL [nthL xs i] 0).1 15) (nthL [nthL xs i] 0).6 [nthL [nthL xs i] 0]) 0).2, q := (nthL (bi (nbeq (nthL [nthL xs i] 0).1 15) (nthL [nthL xs i] 0).6 [nthL [nthL xs i] 0]) 0).3, r := 0, s := 0, cs := [] }, { tag := 3, p := (nthL (bi (nbeq (nthL [nthL xs i] 0).1 15) (nthL [nthL xs i] 0).6 [nthL [nthL xs i] 0]) (Nat.succ 0)).2, q := 0, r := 0, s := 0, cs := [] }] }, { tag := 15, p := 0, q := 0, r := 0, s := 0, cs := [{ tag := 9, p := (nthL (bi (nbeq (nthL [nthL ys i] 0).1 15) (nthL [nthL ys i] 0).6 [nthL [nthL ys i] 0]) 0).2, q := (nthL (bi (nbeq (nthL [nthL ys i] 0).1 15) (nthL [nthL ys i] 0).6 [nthL [nthL ys i] 0]) 0).3, r := 0, s := 0, cs := [] }, { tag := 3, p := (nthL (bi (nbeq (nthL [nthL ys i] 0).1 15) (nthL [nthL ys i] 0).6 [nthL [nthL ys i] 0]) (Nat.succ 0)).2, q := 0, r := 0, s := 0, cs := [] }] }] { tag := 3, p := cmpN (nthL (bi (nbeq (nthL [nthL xs i] 0).1 15) (nthL [nthL xs i] 0).6 [nthL [nthL xs i] 0]) (Nat.succ 0)).2 (nthL (bi (nbeq (nthL [nthL ys i] 0).1 15) (nthL [nthL ys i] 0).6 [nthL [nthL ys i] 0]) (Nat.succ 0)).2, q := 0, r := 0, s := 0, cs := [] })) 1)
                (bi (nbeq (bi (nb (nbeq (cmpN (nthL (bi (nbeq (nthL [nthL xs i] 0).1 15) (nthL [nthL xs i] 0).6 [nthL [nthL xs i] 0]) (Nat.succ 0)).2 (nthL (bi (nbeq (nthL [nthL ys i] 0).1 15) (nthL [nthL ys i] 0).6 [nthL [nthL ys i] 0]) (Nat.succ 0)).2) 0)) 1 0) 1)
                  (ansY { tag := 3, p := cmpN (nthL (bi (nbeq (nthL [nthL xs i] 0).1 15) (nthL [nthL xs i] 0).6 [nthL [nthL xs i] 0]) (Nat.succ 0)).2 (nthL (bi (nbeq (nthL [nthL ys i] 0).1 15) (nthL [nthL ys i] 0).6 [nthL [nthL ys i] 0]) (Nat.succ 0)).2, q := 0, r := 0, s := 0, cs := [] })
                  (J [0, 0, 1, 0, 1] [{ tag := 24, p := pa, q := 0, r := 2, s := 0, cs := xs }, { tag := 24, p := pb, q := 0, r := 2, s := 0, cs := ys }, { tag := 13, p := 18, q := 0, r := 0, s := 0, cs := [] }, { tag := 24, p := pa, q := 0, r := 2, s := 0, cs := xs }, { tag := 3, p := lenL xs, q := 0, r := 0, s := 0, cs := [] }, { tag := 3, p := gt2 (fun a b => (a.add b).mod (kMod (kCode IntKind.i64))) i 1, q := 0, r := 0, s := 0, cs := [] }]))
                (failR 301))
              (failR 201))
            (failR 205)))
        (failR 201))
      (failR 205))
    (bi (nbeq (bi (nb (nble (biased 3 (lenL ys)) (biased 3 (lenL xs)))) 1 0) 1)
      (ansY { tag := 3, p := 18446744073709551615, q := 0, r := 0, s := 0, cs := [] })
      (ansY { tag := 3, p := 0, q := 0, r := 0, s := 0, cs := [] }))) := by kernel_rfl
end Go.Eng
namespace Go.Eng
open Go.RowKit Go.Proofs
/- begun: the loop of slices.CompareFunc with machine.Compare$1, as loop16 in GnP26b -/
noncomputable def prF (e : Nat × Nat × Nat) : AV := aggV [st e.1 e.2.1, i64 e.2.2]
noncomputable def cmpF {α : Type} (g : α → α → Nat) : List α → List α → Nat
  | [], [] => 0
  | [], _ :: _ => 18446744073709551615
  | _ :: _, [] => 1
  | x :: xs, y :: ys => bi (nbeq (g x y) 0) (cmpF g xs ys) (g x y)
theorem cell_pr (e : Nat × Nat × Nat) : (bi (nbeq (nthL [prF e] 0).1 15) (nthL [prF e] 0).6 [nthL [prF e] 0]) = [st e.1 e.2.1, i64 e.2.2] := rfl
theorem tag_st (q x : Nat) : tagIs 9 (st q x) = true := rfl
theorem nthA0 (a b : AV) : nthL [a, b] 0 = a := rfl
theorem nthA1 (a b : AV) : nthL [a, b] (Nat.succ 0) = b := rfl
theorem tagIs_i64 (n : Nat) : tagIs 3 (i64 n) = true := rfl
theorem loop17 (pa pb : Nat) (X Y : List (Nat × Nat × Nat)) (hX : X.length < 2 ^ 63) (hY : Y.length < 2 ^ 63) (k : Nat) : ∀ i, i + k = X.length → i ≤ Y.length → ∀ (R : Rec) (fin : BR) (c : Code), R = R2 → fin = finY Tryz.prog [.tmp 6] [3] → c = bodyC Tryz.f17 →
    jmpN Tryz.prog 39 lab17 (baseH Tryz.prog) R fin c (k + 1) [0,0,1,0,1] [slP pa 2 (X.map prF), slP pb 2 (Y.map prF), mk1 13 18, slP pa 2 (X.map prF), i64 (lenL (X.map prF)), i64 i] = ansY (i64 (cmpF (fun a b => cmpN a.2.2 b.2.2) (X.drop i) (Y.drop i))) := by
  induction k with
  | zero =>
    intro i hi hiY R fin c hR hfin hc
    subst hR hfin hc
    rw [jmpN_succ, l17a]
    have e : i = X.length := by omega
    subst e
    simp only [bl_bi, lenL_map, biased_le hX hX, biased_le hX hY, biased_le hY hX, nb_t, nb_f, Nat.le_refl, decide_true, List.drop_length, bi_true, bi_false]
    by_cases h : Y.length ≤ X.length
    · rw [List.drop_of_length_le (by omega)]
      simp only [h, decide_true, nb_t, bi_false]
      rfl
    · obtain ⟨y, ys, e3⟩ : ∃ y ys, Y.drop X.length = y :: ys := by
        cases hd : Y.drop X.length with
        | nil => have := congrArg List.length hd; simp at this; omega
        | cons y ys => exact ⟨y, ys, rfl⟩
      rw [e3]
      simp only [h, decide_false, nb_f, bi_true]
      rfl
  | succ k ih =>
    intro i hi hiY R fin c hR hfin hc
    have hlt : i < X.length := by omega
    have ih' := ih (i + 1) (by omega)
    subst hR hfin hc
    rw [jmpN_succ, l17a]
    have hi63 : i < 2 ^ 63 := by omega
    simp only [bl_bi, lenL_map, biased_le hX hi63, biased_le hY hi63, show ¬ X.length ≤ i by omega, decide_false, nb_t, nb_f, bi_true, bi_false, nthL_map prF X i hlt, cell_pr, nthA0, nthA1, tag_st, tagIs_i64, ble_true.2 (show i.succ ≤ X.length from hlt)]
    have e1 : X.drop i = X[i] :: X.drop (i + 1) := List.drop_eq_getElem_cons hlt
    by_cases hy : Y.length ≤ i
    · rw [e1, List.drop_of_length_le hy]
      simp only [hy, decide_true, bi_true]
      rfl
    · have hlty : i < Y.length := by omega
      have e2 : Y.drop i = Y[i] :: Y.drop (i + 1) := List.drop_eq_getElem_cons hlty
      rw [e1, e2]
      simp only [hy, decide_false, bi_false, ble_true.2 (show i.succ ≤ Y.length from hlty), bi_true, nthL_map prF Y i hlty, cell_pr, nthA0, nthA1, tag_st, tagIs_i64]
      refine (okN_bi (pure18 X[i].2.1 Y[i].2.1 X[i].1 Y[i].1 X[i].2.2 Y[i].2.2) _ _).trans ?_
      show _ = ansY (i64 (bi (nbeq (cmpN X[i].2.2 Y[i].2.2) 0) (cmpF _ (X.drop (i + 1)) (Y.drop (i + 1))) (cmpN X[i].2.2 Y[i].2.2)))
      show bi (nb (nbeq (cmpN X[i].2.2 Y[i].2.2) 0)) _ _ = _
      cases hc : nbeq (cmpN X[i].2.2 Y[i].2.2) 0
      · simp only [nb_f, bi_true, bi_false]
        rfl
      · simp only [nb_t, bi_true, bi_false]
        have := ih' (by omega) R2 _ _ rfl rfl rfl
        rw [lenL_map] at this
        rw [← this]
        simp only [succ_mod hi63, mk_i64]
        rfl
end Go.Eng
namespace Go.Eng
open Go.RowKit Go.Proofs
/- the equations of slices.CompareFunc with the other closures, as GnSymW printed them -/
theorem s17b (J : Jmp) (pa pb : Nat) (xs ys : List AV) : (compY Tryz.prog 39 lab17 (finY Tryz.prog [.tmp 6] [3]) J [] (bodyC Tryz.f17) (finY Tryz.prog [.tmp 6] [3]) []).run R2 (setArgs 0 [slP pa 2 xs, slP pb 2 ys, mk1 13 23] noFr) (baseH Tryz.prog) =
  (J [0, 0, 1, 0, 1] [{ tag := 24, p := pa, q := 0, r := 2, s := 0, cs := xs }, { tag := 24, p := pb, q := 0, r := 2, s := 0, cs := ys }, { tag := 13, p := 23, q := 0, r := 0, s := 0, cs := [] }, { tag := 24, p := pa, q := 0, r := 2, s := 0, cs := xs }, { tag := 3, p := lenL xs, q := 0, r := 0, s := 0, cs := [] }, { tag := 3, p := 0, q := 0, r := 0, s := 0, cs := [] }]) := by kernel_rfl
theorem l17b (J : Jmp) (pa pb : Nat) (xs ys : List AV) (i : Nat) : lblY Tryz.prog 39 lab17 (baseH Tryz.prog) R2 (finY Tryz.prog [.tmp 6] [3]) (bodyC Tryz.f17) J [0,0,1,0,1] [slP pa 2 xs, slP pb 2 ys, mk1 13 23, slP pa 2 xs, i64 (lenL xs), i64 i] =
  (bi (nbeq (bi (nb (nble (biased 3 (lenL xs)) (biased 3 i))) 1 0) 1)
    (bi (nble i.succ (lenL xs))
      (bi (bi (tagIs 9 (nthL (bi (nbeq (nthL [nthL xs i] 0).1 15) (nthL [nthL xs i] 0).6 [nthL [nthL xs i] 0]) 0)) (bi (tagIs 3 (nthL (bi (nbeq (nthL [nthL xs i] 0).1 15) (nthL [nthL xs i] 0).6 [nthL [nthL xs i] 0]) (Nat.succ 0))) true false) false)
        (bi (nbeq (bi (nble (biased 3 (lenL ys)) (biased 3 i)) 1 0) 1)
          (ansY { tag := 3, p := 1, q := 0, r := 0, s := 0, cs := [] })
          (bi (nble i.succ (lenL ys))
            (bi (bi (tagIs 9 (nthL (bi (nbeq (nthL [nthL ys i] 0).1 15) (nthL [nthL ys i] 0).6 [nthL [nthL ys i] 0]) 0)) (bi (tagIs 3 (nthL (bi (nbeq (nthL [nthL ys i] 0).1 15) (nthL [nthL ys i] 0).6 [nthL [nthL ys i] 0]) (Nat.succ 0))) true false) false)
              (bi (nbeq (okN (PureAt Tryz.prog 23 [{ tag := 15, p := 0, q := 0, r := 0, s := 0, cs := [{ tag := 9, p := (nthL (bi (nbeq (nthL [nthL xs i] 0).1 15) (nthL [nthL xs i] 0).6 [nthL [nthL xs i] 0]) 0).2, q := (nthL (bi (nbeq (nthL [nthL xs i] 0).1 15) (nthL [nthL xs i] 0).6 [nthL [nthL xs i] 0]) 0).3, r := 0, s := 0, cs := [] }, { tag := 3, p := (nthL (bi (nbeq (nthL [nthL xs i] 0).1 15) (nthL [nthL xs i] 0).6 [nthL [nthL xs i] 0]) (Nat.succ 0)).2, q := 0, r := 0, s := 0, cs := [] }] }, { tag := 15, p := 0, q := 0, r := 0, s := 0, cs := [{ tag := 9, p := (nthL (bi (nbeq (nthL [nthL ys i] 0).1 15) (nthL [nthL ys i] 0).6 [nthL [nthL ys i] 0]) 0).2, q := (nthL (bi (nbeq (nthL [nthL ys i] 0).1 15) (nthL [nthL ys i] 0).6 [nthL [nthL ys i] 0]) 0).3, r := 0, s := 0, cs := [] }, { tag := 3, p := (nthL (bi (nbeq (nthL [nthL ys i] 0).1 15) (nthL [nthL ys i] 0).6 [nthL [nthL ys i] 0]) (Nat.succ 0)).2, q := 0, r := 0, s := 0, cs := [] }] }] { tag := 3, p := cmpS { tag := 9, p := (nthL (bi (nbeq (nthL [nthL xs i] 0).1 15) (nthL [nthL xs i] 0).6 [nthL [nthL xs i] 0]) 0).2, q := (nthL (bi (nbeq (nthL [nthL xs i] 0).1 15) (nthL [nthL xs i] 0).6 [nthL [nthL xs i] 0]) 0).3, r := 0, s := 0, cs := [] } { tag := 9, p := (nthL (bi (nbeq (nthL [nthL ys i] 0).1 15) (nthL [nthL ys i] 0).6 [nthL [nthL ys i] 0]) 0).2, q := (nthL (bi (nbeq (nthL [nthL ys i] 0).1 15) (nthL [nthL ys i] 0).6 [nthL [nthL ys i] 0]) 0).3, r := 0, s := 0, cs := [] }, q := 0, r := 0, s := 0, cs := [] })) 1)
                (bi (nbeq (bi (nb (nbeq (cmpS { tag := 9, p := (nthL (bi (nbeq (nthL [nthL xs i] 0).1 15) (nthL [nthL xs i] 0).6 [nthL [nthL xs i] 0]) 0).2, q := (nthL (bi (nbeq (nthL [nthL xs i] 0).1 15) (nthL [nthL xs i] 0).6 [nthL [nthL xs i] 0]) 0).3, r := 0, s := 0, cs := [] } { tag := 9, p := (nthL (bi (nbeq (nthL [nthL ys i] 0).1 15) (nthL [nthL ys i] 0).6 [nthL [nthL ys i] 0]) 0).2, q := (nthL (bi (nbeq (nthL [nthL ys i] 0).1 15) (nthL [nthL ys i] 0).6 [nthL [nthL ys i] 0]) 0).3, r := 0, s := 0, cs := [] }) 0)) 1 0) 1)
                  (ansY { tag := 3, p := cmpS { tag := 9, p := (nthL (bi (nbeq (nthL [nthL xs i] 0).1 15) (nthL [nthL xs i] 0).6 [nthL [nthL xs i] 0]) 0).2, q := (nthL (bi (nbeq (nthL [nthL xs i] 0).1 15) (nthL [nthL xs i] 0).6 [nthL [nthL xs i] 0]) 0).3, r := 0, s := 0, cs := [] } { tag := 9, p := (nthL (bi (nbeq (nthL [nthL ys i] 0).1 15) (nthL [nthL ys i] 0).6 [nthL [nthL ys i] 0]) 0).2, q := (nthL (bi (nbeq (nthL [nthL ys i] 0).1 15) (nthL [nthL ys i] 0).6 [nthL [nthL ys i] 0]) 0).3, r := 0, s := 0, cs := [] }, q := 0, r := 0, s := 0, cs := [] })
                  (J [0, 0, 1, 0, 1] [{ tag := 24, p := pa, q := 0, r := 2, s := 0, cs := xs }, { tag := 24, p := pb, q := 0, r := 2, s := 0, cs := ys }, { tag := 13, p := 23, q := 0, r := 0, s := 0, cs := [] }, { tag := 24, p := pa, q := 0, r := 2, s := 0, cs := xs }, { tag := 3, p := lenL xs, q := 0, r := 0, s := 0, cs := [] }, { tag := 3, p := gt2 (fun a b => (a.add b).mod (kMod (kCode IntKind.i64))) i 1, q := 0, r := 0, s := 0, cs := [] }]))
                (failR 301))
              (failR 201))
            (failR 205)))
        (failR 201))
      (failR 205))
    (bi (nbeq (bi (nb (nble (biased 3 (lenL ys)) (biased 3 (lenL xs)))) 1 0) 1)
      (ansY { tag := 3, p := 18446744073709551615, q := 0, r := 0, s := 0, cs := [] })
      (ansY { tag := 3, p := 0, q := 0, r := 0, s := 0, cs := [] }))) := by kernel_rfl
theorem s20a (J : Jmp) (pa pb : Nat) (xs ys : List AV) : (compY Tryz.prog 39 lab17 (finY Tryz.prog [.tmp 6] [3]) J [] (bodyC Tryz.f20) (finY Tryz.prog [.tmp 6] [3]) []).run R2 (setArgs 0 [slP pa 2 xs, slP pb 2 ys, mk1 13 21] noFr) (baseH Tryz.prog) =
  (J [0, 0, 1, 0, 1] [{ tag := 24, p := pa, q := 0, r := 2, s := 0, cs := xs }, { tag := 24, p := pb, q := 0, r := 2, s := 0, cs := ys }, { tag := 13, p := 21, q := 0, r := 0, s := 0, cs := [] }, { tag := 24, p := pa, q := 0, r := 2, s := 0, cs := xs }, { tag := 3, p := lenL xs, q := 0, r := 0, s := 0, cs := [] }, { tag := 3, p := 0, q := 0, r := 0, s := 0, cs := [] }]) := by kernel_rfl
theorem l20a (J : Jmp) (pa pb : Nat) (xs ys : List AV) (i : Nat) : lblY Tryz.prog 39 lab17 (baseH Tryz.prog) R2 (finY Tryz.prog [.tmp 6] [3]) (bodyC Tryz.f20) J [0,0,1,0,1] [slP pa 2 xs, slP pb 2 ys, mk1 13 21, slP pa 2 xs, i64 (lenL xs), i64 i] =
  (bi (nbeq (bi (nb (nble (biased 3 (lenL xs)) (biased 3 i))) 1 0) 1)
    (bi (nble i.succ (lenL xs))
      (bi (bi (tagIs 9 (nthL (bi (nbeq (nthL [nthL xs i] 0).1 15) (nthL [nthL xs i] 0).6 [nthL [nthL xs i] 0]) 0)) (bi (tagIs 7 (nthL (bi (nbeq (nthL [nthL xs i] 0).1 15) (nthL [nthL xs i] 0).6 [nthL [nthL xs i] 0]) (Nat.succ 0))) true false) false)
        (bi (nbeq (bi (nble (biased 3 (lenL ys)) (biased 3 i)) 1 0) 1)
          (ansY { tag := 3, p := 1, q := 0, r := 0, s := 0, cs := [] })
          (bi (nble i.succ (lenL ys))
            (bi (bi (tagIs 9 (nthL (bi (nbeq (nthL [nthL ys i] 0).1 15) (nthL [nthL ys i] 0).6 [nthL [nthL ys i] 0]) 0)) (bi (tagIs 7 (nthL (bi (nbeq (nthL [nthL ys i] 0).1 15) (nthL [nthL ys i] 0).6 [nthL [nthL ys i] 0]) (Nat.succ 0))) true false) false)
              (bi (nbeq (okN (PureAt Tryz.prog 21 [{ tag := 15, p := 0, q := 0, r := 0, s := 0, cs := [{ tag := 9, p := (nthL (bi (nbeq (nthL [nthL xs i] 0).1 15) (nthL [nthL xs i] 0).6 [nthL [nthL xs i] 0]) 0).2, q := (nthL (bi (nbeq (nthL [nthL xs i] 0).1 15) (nthL [nthL xs i] 0).6 [nthL [nthL xs i] 0]) 0).3, r := 0, s := 0, cs := [] }, { tag := 7, p := (nthL (bi (nbeq (nthL [nthL xs i] 0).1 15) (nthL [nthL xs i] 0).6 [nthL [nthL xs i] 0]) (Nat.succ 0)).2, q := 0, r := 0, s := 0, cs := [] }] }, { tag := 15, p := 0, q := 0, r := 0, s := 0, cs := [{ tag := 9, p := (nthL (bi (nbeq (nthL [nthL ys i] 0).1 15) (nthL [nthL ys i] 0).6 [nthL [nthL ys i] 0]) 0).2, q := (nthL (bi (nbeq (nthL [nthL ys i] 0).1 15) (nthL [nthL ys i] 0).6 [nthL [nthL ys i] 0]) 0).3, r := 0, s := 0, cs := [] }, { tag := 7, p := (nthL (bi (nbeq (nthL [nthL ys i] 0).1 15) (nthL [nthL ys i] 0).6 [nthL [nthL ys i] 0]) (Nat.succ 0)).2, q := 0, r := 0, s := 0, cs := [] }] }] { tag := 3, p := cmpU (nthL (bi (nbeq (nthL [nthL xs i] 0).1 15) (nthL [nthL xs i] 0).6 [nthL [nthL xs i] 0]) (Nat.succ 0)).2 (nthL (bi (nbeq (nthL [nthL ys i] 0).1 15) (nthL [nthL ys i] 0).6 [nthL [nthL ys i] 0]) (Nat.succ 0)).2, q := 0, r := 0, s := 0, cs := [] })) 1)
                (bi (nbeq (bi (nb (nbeq (cmpU (nthL (bi (nbeq (nthL [nthL xs i] 0).1 15) (nthL [nthL xs i] 0).6 [nthL [nthL xs i] 0]) (Nat.succ 0)).2 (nthL (bi (nbeq (nthL [nthL ys i] 0).1 15) (nthL [nthL ys i] 0).6 [nthL [nthL ys i] 0]) (Nat.succ 0)).2) 0)) 1 0) 1)
                  (ansY { tag := 3, p := cmpU (nthL (bi (nbeq (nthL [nthL xs i] 0).1 15) (nthL [nthL xs i] 0).6 [nthL [nthL xs i] 0]) (Nat.succ 0)).2 (nthL (bi (nbeq (nthL [nthL ys i] 0).1 15) (nthL [nthL ys i] 0).6 [nthL [nthL ys i] 0]) (Nat.succ 0)).2, q := 0, r := 0, s := 0, cs := [] })
                  (J [0, 0, 1, 0, 1] [{ tag := 24, p := pa, q := 0, r := 2, s := 0, cs := xs }, { tag := 24, p := pb, q := 0, r := 2, s := 0, cs := ys }, { tag := 13, p := 21, q := 0, r := 0, s := 0, cs := [] }, { tag := 24, p := pa, q := 0, r := 2, s := 0, cs := xs }, { tag := 3, p := lenL xs, q := 0, r := 0, s := 0, cs := [] }, { tag := 3, p := gt2 (fun a b => (a.add b).mod (kMod (kCode IntKind.i64))) i 1, q := 0, r := 0, s := 0, cs := [] }]))
                (failR 301))
              (failR 201))
            (failR 205)))
        (failR 201))
      (failR 205))
    (bi (nbeq (bi (nb (nble (biased 3 (lenL ys)) (biased 3 (lenL xs)))) 1 0) 1)
      (ansY { tag := 3, p := 18446744073709551615, q := 0, r := 0, s := 0, cs := [] })
      (ansY { tag := 3, p := 0, q := 0, r := 0, s := 0, cs := [] }))) := by kernel_rfl
theorem s20b (J : Jmp) (pa pb : Nat) (xs ys : List AV) : (compY Tryz.prog 39 lab17 (finY Tryz.prog [.tmp 6] [3]) J [] (bodyC Tryz.f20) (finY Tryz.prog [.tmp 6] [3]) []).run R2 (setArgs 0 [slP pa 2 xs, slP pb 2 ys, mk1 13 25] noFr) (baseH Tryz.prog) =
  (J [0, 0, 1, 0, 1] [{ tag := 24, p := pa, q := 0, r := 2, s := 0, cs := xs }, { tag := 24, p := pb, q := 0, r := 2, s := 0, cs := ys }, { tag := 13, p := 25, q := 0, r := 0, s := 0, cs := [] }, { tag := 24, p := pa, q := 0, r := 2, s := 0, cs := xs }, { tag := 3, p := lenL xs, q := 0, r := 0, s := 0, cs := [] }, { tag := 3, p := 0, q := 0, r := 0, s := 0, cs := [] }]) := by kernel_rfl
theorem l20b (J : Jmp) (pa pb : Nat) (xs ys : List AV) (i : Nat) : lblY Tryz.prog 39 lab17 (baseH Tryz.prog) R2 (finY Tryz.prog [.tmp 6] [3]) (bodyC Tryz.f20) J [0,0,1,0,1] [slP pa 2 xs, slP pb 2 ys, mk1 13 25, slP pa 2 xs, i64 (lenL xs), i64 i] =
  (bi (nbeq (bi (nb (nble (biased 3 (lenL xs)) (biased 3 i))) 1 0) 1)
    (bi (nble i.succ (lenL xs))
      (bi (bi (tagIs 9 (nthL (bi (nbeq (nthL [nthL xs i] 0).1 15) (nthL [nthL xs i] 0).6 [nthL [nthL xs i] 0]) 0)) (bi (tagIs 7 (nthL (bi (nbeq (nthL [nthL xs i] 0).1 15) (nthL [nthL xs i] 0).6 [nthL [nthL xs i] 0]) (Nat.succ 0))) true false) false)
        (bi (nbeq (bi (nble (biased 3 (lenL ys)) (biased 3 i)) 1 0) 1)
          (ansY { tag := 3, p := 1, q := 0, r := 0, s := 0, cs := [] })
          (bi (nble i.succ (lenL ys))
            (bi (bi (tagIs 9 (nthL (bi (nbeq (nthL [nthL ys i] 0).1 15) (nthL [nthL ys i] 0).6 [nthL [nthL ys i] 0]) 0)) (bi (tagIs 7 (nthL (bi (nbeq (nthL [nthL ys i] 0).1 15) (nthL [nthL ys i] 0).6 [nthL [nthL ys i] 0]) (Nat.succ 0))) true false) false)
              (bi (nbeq (okN (PureAt Tryz.prog 25 [{ tag := 15, p := 0, q := 0, r := 0, s := 0, cs := [{ tag := 9, p := (nthL (bi (nbeq (nthL [nthL xs i] 0).1 15) (nthL [nthL xs i] 0).6 [nthL [nthL xs i] 0]) 0).2, q := (nthL (bi (nbeq (nthL [nthL xs i] 0).1 15) (nthL [nthL xs i] 0).6 [nthL [nthL xs i] 0]) 0).3, r := 0, s := 0, cs := [] }, { tag := 7, p := (nthL (bi (nbeq (nthL [nthL xs i] 0).1 15) (nthL [nthL xs i] 0).6 [nthL [nthL xs i] 0]) (Nat.succ 0)).2, q := 0, r := 0, s := 0, cs := [] }] }, { tag := 15, p := 0, q := 0, r := 0, s := 0, cs := [{ tag := 9, p := (nthL (bi (nbeq (nthL [nthL ys i] 0).1 15) (nthL [nthL ys i] 0).6 [nthL [nthL ys i] 0]) 0).2, q := (nthL (bi (nbeq (nthL [nthL ys i] 0).1 15) (nthL [nthL ys i] 0).6 [nthL [nthL ys i] 0]) 0).3, r := 0, s := 0, cs := [] }, { tag := 7, p := (nthL (bi (nbeq (nthL [nthL ys i] 0).1 15) (nthL [nthL ys i] 0).6 [nthL [nthL ys i] 0]) (Nat.succ 0)).2, q := 0, r := 0, s := 0, cs := [] }] }] { tag := 3, p := cmpS { tag := 9, p := (nthL (bi (nbeq (nthL [nthL xs i] 0).1 15) (nthL [nthL xs i] 0).6 [nthL [nthL xs i] 0]) 0).2, q := (nthL (bi (nbeq (nthL [nthL xs i] 0).1 15) (nthL [nthL xs i] 0).6 [nthL [nthL xs i] 0]) 0).3, r := 0, s := 0, cs := [] } { tag := 9, p := (nthL (bi (nbeq (nthL [nthL ys i] 0).1 15) (nthL [nthL ys i] 0).6 [nthL [nthL ys i] 0]) 0).2, q := (nthL (bi (nbeq (nthL [nthL ys i] 0).1 15) (nthL [nthL ys i] 0).6 [nthL [nthL ys i] 0]) 0).3, r := 0, s := 0, cs := [] }, q := 0, r := 0, s := 0, cs := [] })) 1)
                (bi (nbeq (bi (nb (nbeq (cmpS { tag := 9, p := (nthL (bi (nbeq (nthL [nthL xs i] 0).1 15) (nthL [nthL xs i] 0).6 [nthL [nthL xs i] 0]) 0).2, q := (nthL (bi (nbeq (nthL [nthL xs i] 0).1 15) (nthL [nthL xs i] 0).6 [nthL [nthL xs i] 0]) 0).3, r := 0, s := 0, cs := [] } { tag := 9, p := (nthL (bi (nbeq (nthL [nthL ys i] 0).1 15) (nthL [nthL ys i] 0).6 [nthL [nthL ys i] 0]) 0).2, q := (nthL (bi (nbeq (nthL [nthL ys i] 0).1 15) (nthL [nthL ys i] 0).6 [nthL [nthL ys i] 0]) 0).3, r := 0, s := 0, cs := [] }) 0)) 1 0) 1)
                  (ansY { tag := 3, p := cmpS { tag := 9, p := (nthL (bi (nbeq (nthL [nthL xs i] 0).1 15) (nthL [nthL xs i] 0).6 [nthL [nthL xs i] 0]) 0).2, q := (nthL (bi (nbeq (nthL [nthL xs i] 0).1 15) (nthL [nthL xs i] 0).6 [nthL [nthL xs i] 0]) 0).3, r := 0, s := 0, cs := [] } { tag := 9, p := (nthL (bi (nbeq (nthL [nthL ys i] 0).1 15) (nthL [nthL ys i] 0).6 [nthL [nthL ys i] 0]) 0).2, q := (nthL (bi (nbeq (nthL [nthL ys i] 0).1 15) (nthL [nthL ys i] 0).6 [nthL [nthL ys i] 0]) 0).3, r := 0, s := 0, cs := [] }, q := 0, r := 0, s := 0, cs := [] })
                  (J [0, 0, 1, 0, 1] [{ tag := 24, p := pa, q := 0, r := 2, s := 0, cs := xs }, { tag := 24, p := pb, q := 0, r := 2, s := 0, cs := ys }, { tag := 13, p := 25, q := 0, r := 0, s := 0, cs := [] }, { tag := 24, p := pa, q := 0, r := 2, s := 0, cs := xs }, { tag := 3, p := lenL xs, q := 0, r := 0, s := 0, cs := [] }, { tag := 3, p := gt2 (fun a b => (a.add b).mod (kMod (kCode IntKind.i64))) i 1, q := 0, r := 0, s := 0, cs := [] }]))
                (failR 301))
              (failR 201))
            (failR 205)))
        (failR 201))
      (failR 205))
    (bi (nbeq (bi (nb (nble (biased 3 (lenL ys)) (biased 3 (lenL xs)))) 1 0) 1)
      (ansY { tag := 3, p := 18446744073709551615, q := 0, r := 0, s := 0, cs := [] })
      (ansY { tag := 3, p := 0, q := 0, r := 0, s := 0, cs := [] }))) := by kernel_rfl
end Go.Eng
namespace Go.Eng
open Go.RowKit Go.Proofs
noncomputable def prU (e : Nat × Nat × Nat) : AV := aggV [st e.1 e.2.1, u64 e.2.2]
theorem cell_pu (e : Nat × Nat × Nat) : (bi (nbeq (nthL [prU e] 0).1 15) (nthL [prU e] 0).6 [nthL [prU e] 0]) = [st e.1 e.2.1, u64 e.2.2] := rfl
theorem tagIs_u64 (n : Nat) : tagIs 7 (u64 n) = true := rfl
theorem loop17b (pa pb : Nat) (X Y : List (Nat × Nat × Nat)) (hX : X.length < 2 ^ 63) (hY : Y.length < 2 ^ 63) (k : Nat) : ∀ i, i + k = X.length → i ≤ Y.length → ∀ (R : Rec) (fin : BR) (c : Code), R = R2 → fin = finY Tryz.prog [.tmp 6] [3] → c = bodyC Tryz.f17 →
    jmpN Tryz.prog 39 lab17 (baseH Tryz.prog) R fin c (k + 1) [0,0,1,0,1] [slP pa 2 (X.map prF), slP pb 2 (Y.map prF), mk1 13 23, slP pa 2 (X.map prF), i64 (lenL (X.map prF)), i64 i] = ansY (i64 (cmpF (fun a b => cmpS (st a.1 a.2.1) (st b.1 b.2.1)) (X.drop i) (Y.drop i))) := by
  induction k with
  | zero =>
    intro i hi hiY R fin c hR hfin hc
    subst hR hfin hc
    rw [jmpN_succ, l17b]
    have e : i = X.length := by omega
    subst e
    simp only [bl_bi, lenL_map, biased_le hX hX, biased_le hX hY, biased_le hY hX, nb_t, nb_f, Nat.le_refl, decide_true, List.drop_length, bi_true, bi_false]
    by_cases h : Y.length ≤ X.length
    · rw [List.drop_of_length_le (by omega)]
      simp only [h, decide_true, nb_t, bi_false]
      rfl
    · obtain ⟨y, ys, e3⟩ : ∃ y ys, Y.drop X.length = y :: ys := by
        cases hd : Y.drop X.length with
        | nil => have := congrArg List.length hd; simp at this; omega
        | cons y ys => exact ⟨y, ys, rfl⟩
      rw [e3]
      simp only [h, decide_false, nb_f, bi_true]
      rfl
  | succ k ih =>
    intro i hi hiY R fin c hR hfin hc
    have hlt : i < X.length := by omega
    have ih' := ih (i + 1) (by omega)
    subst hR hfin hc
    rw [jmpN_succ, l17b]
    have hi63 : i < 2 ^ 63 := by omega
    simp only [bl_bi, lenL_map, biased_le hX hi63, biased_le hY hi63, show ¬ X.length ≤ i by omega, decide_false, nb_t, nb_f, bi_true, bi_false, nthL_map prF X i hlt, cell_pr, nthA0, nthA1, tag_st, tagIs_i64, ble_true.2 (show i.succ ≤ X.length from hlt)]
    have e1 : X.drop i = X[i] :: X.drop (i + 1) := List.drop_eq_getElem_cons hlt
    by_cases hy : Y.length ≤ i
    · rw [e1, List.drop_of_length_le hy]
      simp only [hy, decide_true, bi_true]
      rfl
    · have hlty : i < Y.length := by omega
      have e2 : Y.drop i = Y[i] :: Y.drop (i + 1) := List.drop_eq_getElem_cons hlty
      rw [e1, e2]
      simp only [hy, decide_false, bi_false, ble_true.2 (show i.succ ≤ Y.length from hlty), bi_true, nthL_map prF Y i hlty, cell_pr, nthA0, nthA1, tag_st, tagIs_i64]
      refine (okN_bi (pure23 X[i].2.1 Y[i].2.1 X[i].1 Y[i].1 X[i].2.2 Y[i].2.2) _ _).trans ?_
      show _ = ansY (i64 (bi (nbeq (cmpS (st X[i].1 X[i].2.1) (st Y[i].1 Y[i].2.1)) 0) (cmpF _ (X.drop (i + 1)) (Y.drop (i + 1))) (cmpS (st X[i].1 X[i].2.1) (st Y[i].1 Y[i].2.1))))
      show bi (nb (nbeq (cmpS (st X[i].1 X[i].2.1) (st Y[i].1 Y[i].2.1)) 0)) _ _ = _
      cases hc : nbeq (cmpS (st X[i].1 X[i].2.1) (st Y[i].1 Y[i].2.1)) 0
      · simp only [nb_f, bi_true, bi_false]
        rfl
      · simp only [nb_t, bi_true, bi_false]
        have := ih' (by omega) R2 _ _ rfl rfl rfl
        rw [lenL_map] at this
        rw [← this]
        simp only [succ_mod hi63, mk_i64]
        rfl
theorem loop20a (pa pb : Nat) (X Y : List (Nat × Nat × Nat)) (hX : X.length < 2 ^ 63) (hY : Y.length < 2 ^ 63) (k : Nat) : ∀ i, i + k = X.length → i ≤ Y.length → ∀ (R : Rec) (fin : BR) (c : Code), R = R2 → fin = finY Tryz.prog [.tmp 6] [3] → c = bodyC Tryz.f20 →
    jmpN Tryz.prog 39 lab17 (baseH Tryz.prog) R fin c (k + 1) [0,0,1,0,1] [slP pa 2 (X.map prU), slP pb 2 (Y.map prU), mk1 13 21, slP pa 2 (X.map prU), i64 (lenL (X.map prU)), i64 i] = ansY (i64 (cmpF (fun a b => cmpU a.2.2 b.2.2) (X.drop i) (Y.drop i))) := by
  induction k with
  | zero =>
    intro i hi hiY R fin c hR hfin hc
    subst hR hfin hc
    rw [jmpN_succ, l20a]
    have e : i = X.length := by omega
    subst e
    simp only [bl_bi, lenL_map, biased_le hX hX, biased_le hX hY, biased_le hY hX, nb_t, nb_f, Nat.le_refl, decide_true, List.drop_length, bi_true, bi_false]
    by_cases h : Y.length ≤ X.length
    · rw [List.drop_of_length_le (by omega)]
      simp only [h, decide_true, nb_t, bi_false]
      rfl
    · obtain ⟨y, ys, e3⟩ : ∃ y ys, Y.drop X.length = y :: ys := by
        cases hd : Y.drop X.length with
        | nil => have := congrArg List.length hd; simp at this; omega
        | cons y ys => exact ⟨y, ys, rfl⟩
      rw [e3]
      simp only [h, decide_false, nb_f, bi_true]
      rfl
  | succ k ih =>
    intro i hi hiY R fin c hR hfin hc
    have hlt : i < X.length := by omega
    have ih' := ih (i + 1) (by omega)
    subst hR hfin hc
    rw [jmpN_succ, l20a]
    have hi63 : i < 2 ^ 63 := by omega
    simp only [bl_bi, lenL_map, biased_le hX hi63, biased_le hY hi63, show ¬ X.length ≤ i by omega, decide_false, nb_t, nb_f, bi_true, bi_false, nthL_map prU X i hlt, cell_pu, nthA0, nthA1, tag_st, tagIs_u64, ble_true.2 (show i.succ ≤ X.length from hlt)]
    have e1 : X.drop i = X[i] :: X.drop (i + 1) := List.drop_eq_getElem_cons hlt
    by_cases hy : Y.length ≤ i
    · rw [e1, List.drop_of_length_le hy]
      simp only [hy, decide_true, bi_true]
      rfl
    · have hlty : i < Y.length := by omega
      have e2 : Y.drop i = Y[i] :: Y.drop (i + 1) := List.drop_eq_getElem_cons hlty
      rw [e1, e2]
      simp only [hy, decide_false, bi_false, ble_true.2 (show i.succ ≤ Y.length from hlty), bi_true, nthL_map prU Y i hlty, cell_pu, nthA0, nthA1, tag_st, tagIs_u64]
      refine (okN_bi (pure21 X[i].2.1 Y[i].2.1 X[i].1 Y[i].1 X[i].2.2 Y[i].2.2) _ _).trans ?_
      show _ = ansY (i64 (bi (nbeq (cmpU X[i].2.2 Y[i].2.2) 0) (cmpF _ (X.drop (i + 1)) (Y.drop (i + 1))) (cmpU X[i].2.2 Y[i].2.2)))
      show bi (nb (nbeq (cmpU X[i].2.2 Y[i].2.2) 0)) _ _ = _
      cases hc : nbeq (cmpU X[i].2.2 Y[i].2.2) 0
      · simp only [nb_f, bi_true, bi_false]
        rfl
      · simp only [nb_t, bi_true, bi_false]
        have := ih' (by omega) R2 _ _ rfl rfl rfl
        rw [lenL_map] at this
        rw [← this]
        simp only [succ_mod hi63, mk_i64]
        rfl
theorem loop20b (pa pb : Nat) (X Y : List (Nat × Nat × Nat)) (hX : X.length < 2 ^ 63) (hY : Y.length < 2 ^ 63) (k : Nat) : ∀ i, i + k = X.length → i ≤ Y.length → ∀ (R : Rec) (fin : BR) (c : Code), R = R2 → fin = finY Tryz.prog [.tmp 6] [3] → c = bodyC Tryz.f20 →
    jmpN Tryz.prog 39 lab17 (baseH Tryz.prog) R fin c (k + 1) [0,0,1,0,1] [slP pa 2 (X.map prU), slP pb 2 (Y.map prU), mk1 13 25, slP pa 2 (X.map prU), i64 (lenL (X.map prU)), i64 i] = ansY (i64 (cmpF (fun a b => cmpS (st a.1 a.2.1) (st b.1 b.2.1)) (X.drop i) (Y.drop i))) := by
  induction k with
  | zero =>
    intro i hi hiY R fin c hR hfin hc
    subst hR hfin hc
    rw [jmpN_succ, l20b]
    have e : i = X.length := by omega
    subst e
    simp only [bl_bi, lenL_map, biased_le hX hX, biased_le hX hY, biased_le hY hX, nb_t, nb_f, Nat.le_refl, decide_true, List.drop_length, bi_true, bi_false]
    by_cases h : Y.length ≤ X.length
    · rw [List.drop_of_length_le (by omega)]
      simp only [h, decide_true, nb_t, bi_false]
      rfl
    · obtain ⟨y, ys, e3⟩ : ∃ y ys, Y.drop X.length = y :: ys := by
        cases hd : Y.drop X.length with
        | nil => have := congrArg List.length hd; simp at this; omega
        | cons y ys => exact ⟨y, ys, rfl⟩
      rw [e3]
      simp only [h, decide_false, nb_f, bi_true]
      rfl
  | succ k ih =>
    intro i hi hiY R fin c hR hfin hc
    have hlt : i < X.length := by omega
    have ih' := ih (i + 1) (by omega)
    subst hR hfin hc
    rw [jmpN_succ, l20b]
    have hi63 : i < 2 ^ 63 := by omega
    simp only [bl_bi, lenL_map, biased_le hX hi63, biased_le hY hi63, show ¬ X.length ≤ i by omega, decide_false, nb_t, nb_f, bi_true, bi_false, nthL_map prU X i hlt, cell_pu, nthA0, nthA1, tag_st, tagIs_u64, ble_true.2 (show i.succ ≤ X.length from hlt)]
    have e1 : X.drop i = X[i] :: X.drop (i + 1) := List.drop_eq_getElem_cons hlt
    by_cases hy : Y.length ≤ i
    · rw [e1, List.drop_of_length_le hy]
      simp only [hy, decide_true, bi_true]
      rfl
    · have hlty : i < Y.length := by omega
      have e2 : Y.drop i = Y[i] :: Y.drop (i + 1) := List.drop_eq_getElem_cons hlty
      rw [e1, e2]
      simp only [hy, decide_false, bi_false, ble_true.2 (show i.succ ≤ Y.length from hlty), bi_true, nthL_map prU Y i hlty, cell_pu, nthA0, nthA1, tag_st, tagIs_u64]
      refine (okN_bi (pure25 X[i].2.1 Y[i].2.1 X[i].1 Y[i].1 X[i].2.2 Y[i].2.2) _ _).trans ?_
      show _ = ansY (i64 (bi (nbeq (cmpS (st X[i].1 X[i].2.1) (st Y[i].1 Y[i].2.1)) 0) (cmpF _ (X.drop (i + 1)) (Y.drop (i + 1))) (cmpS (st X[i].1 X[i].2.1) (st Y[i].1 Y[i].2.1))))
      show bi (nb (nbeq (cmpS (st X[i].1 X[i].2.1) (st Y[i].1 Y[i].2.1)) 0)) _ _ = _
      cases hc : nbeq (cmpS (st X[i].1 X[i].2.1) (st Y[i].1 Y[i].2.1)) 0
      · simp only [nb_f, bi_true, bi_false]
        rfl
      · simp only [nb_t, bi_true, bi_false]
        have := ih' (by omega) R2 _ _ rfl rfl rfl
        rw [lenL_map] at this
        rw [← this]
        simp only [succ_mod hi63, mk_i64]
        rfl
end Go.Eng
namespace Go.Eng
open Go.RowKit Go.Proofs
theorem body17 : Tryz.f17.body = some (bodyC Tryz.f17) := by kernel_rfl
theorem func17 : Tryz.prog.funcs[17]? = some Tryz.f17 := by kernel_rfl
theorem n17 : Tryz.f17.ntmps = 39 := by kernel_rfl
theorem res17 : Tryz.f17.results.toList = [.tmp 6] := by kernel_rfl
theorem body20 : Tryz.f20.body = some (bodyC Tryz.f20) := by kernel_rfl
theorem func20 : Tryz.prog.funcs[20]? = some Tryz.f20 := by kernel_rfl
theorem n20 : Tryz.f20.ntmps = 39 := by kernel_rfl
theorem res20 : Tryz.f20.results.toList = [.tmp 6] := by kernel_rfl
theorem pure17a (pa pb : Nat) (X Y : List (Nat × Nat × Nat)) (hX : X.length < 2 ^ 63) (hY : Y.length < 2 ^ 63) : PureAt Tryz.prog 17 [slP pa 2 (X.map prF), slP pb 2 (Y.map prF), mk1 13 18] (i64 (cmpF (fun a b => cmpN a.2.2 b.2.2) X Y)) :=
  pure_fn mixed globs func17 body17 n17 res17 R2_ok lab17 [3] (X.length + 1) ((s17 _ _ _ _ _).trans (loop17 pa pb X Y hX hY X.length 0 (by omega) (by omega) R2 _ _ rfl rfl rfl))
theorem pure17b (pa pb : Nat) (X Y : List (Nat × Nat × Nat)) (hX : X.length < 2 ^ 63) (hY : Y.length < 2 ^ 63) : PureAt Tryz.prog 17 [slP pa 2 (X.map prF), slP pb 2 (Y.map prF), mk1 13 23] (i64 (cmpF (fun a b => cmpS (st a.1 a.2.1) (st b.1 b.2.1)) X Y)) :=
  pure_fn mixed globs func17 body17 n17 res17 R2_ok lab17 [3] (X.length + 1) ((s17b _ _ _ _ _).trans (loop17b pa pb X Y hX hY X.length 0 (by omega) (by omega) R2 _ _ rfl rfl rfl))
theorem pure20a (pa pb : Nat) (X Y : List (Nat × Nat × Nat)) (hX : X.length < 2 ^ 63) (hY : Y.length < 2 ^ 63) : PureAt Tryz.prog 20 [slP pa 2 (X.map prU), slP pb 2 (Y.map prU), mk1 13 21] (i64 (cmpF (fun a b => cmpU a.2.2 b.2.2) X Y)) :=
  pure_fn mixed globs func20 body20 n20 res20 R2_ok lab17 [3] (X.length + 1) ((s20a _ _ _ _ _).trans (loop20a pa pb X Y hX hY X.length 0 (by omega) (by omega) R2 _ _ rfl rfl rfl))
theorem pure20b (pa pb : Nat) (X Y : List (Nat × Nat × Nat)) (hX : X.length < 2 ^ 63) (hY : Y.length < 2 ^ 63) : PureAt Tryz.prog 20 [slP pa 2 (X.map prU), slP pb 2 (Y.map prU), mk1 13 25] (i64 (cmpF (fun a b => cmpS (st a.1 a.2.1) (st b.1 b.2.1)) X Y)) :=
  pure_fn mixed globs func20 body20 n20 res20 R2_ok lab17 [3] (X.length + 1) ((s20b _ _ _ _ _).trans (loop20b pa pb X Y hX hY X.length 0 (by omega) (by omega) R2 _ _ rfl rfl rfl))
end Go.Eng
namespace Go.Eng
open Go.RowKit Go.Proofs
theorem body16 : Tryz.f16.body = some (bodyC Tryz.f16) := by kernel_rfl
theorem func16 : Tryz.prog.funcs[16]? = some Tryz.f16 := by kernel_rfl
theorem n16 : Tryz.f16.ntmps = 36 := by kernel_rfl
theorem res16 : Tryz.f16.results.toList = [.tmp 4] := by kernel_rfl
noncomputable def cmpL : List Nat → List Nat → Nat
  | [], [] => 0
  | [], _ :: _ => 18446744073709551615
  | _ :: _, [] => 1
  | x :: xs, y :: ys => bi (nbeq (cmpN x y) 0) (cmpL xs ys) (cmpN x y)
theorem cell_i64 (n : Nat) : nthL (bi (nbeq (nthL [i64 n] 0).1 15) (nthL [i64 n] 0).6 [nthL [i64 n] 0]) 0 = i64 n := rfl
theorem i64_p (n : Nat) : (i64 n).2 = n := rfl
theorem cmpN_mk (x y : Nat) : bi (nble (biased 3 y) (biased 3 x)) (bi (nble (biased 3 x) (biased 3 y)) 0 1) 18446744073709551615 = cmpN x y := rfl
theorem loop16 (pa pb : Nat) (X Y : List Nat) (hX : X.length < 2 ^ 63) (hY : Y.length < 2 ^ 63) (k : Nat) : ∀ i, i + k = X.length → i ≤ Y.length → ∀ (R : Rec) (fin : BR) (c : Code), R = R1 → fin = finY Tryz.prog [.tmp 4] [3] → c = bodyC Tryz.f16 →
    jmpN Tryz.prog 36 lab16 (baseH Tryz.prog) R fin c (k + 1) [0,0,1,0,1] [slP pa 1 (X.map i64), slP pb 1 (Y.map i64), slP pa 1 (X.map i64), i64 (lenL (X.map i64)), i64 i] = ansY (i64 (cmpL (X.drop i) (Y.drop i))) := by
  induction k with
  | zero =>
    intro i hi hiY R fin c hR hfin hc
    subst hR hfin hc
    rw [jmpN_succ, l16]
    have e : i = X.length := by omega
    subst e
    simp only [bl_bi, lenL_map, biased_le hX hX, biased_le hX hY, biased_le hY hX, nb_t, nb_f, Nat.le_refl, decide_true, List.drop_length, bi_true, bi_false]
    by_cases h : Y.length ≤ X.length
    · have e2 : Y.length = X.length := by omega
      rw [List.drop_of_length_le (by omega)]
      simp only [h, decide_true, nb_t, bi_false]
      rfl
    · obtain ⟨y, ys, e3⟩ : ∃ y ys, Y.drop X.length = y :: ys := by
        cases hd : Y.drop X.length with
        | nil => have := congrArg List.length hd; simp at this; omega
        | cons y ys => exact ⟨y, ys, rfl⟩
      rw [e3]
      simp only [h, decide_false, nb_f, bi_true]
      rfl
  | succ k ih =>
    intro i hi hiY R fin c hR hfin hc
    have hlt : i < X.length := by omega
    have ih' := ih (i + 1) (by omega)
    subst hR hfin hc
    rw [jmpN_succ, l16]
    have hi63 : i < 2 ^ 63 := by omega
    simp only [bl_bi, lenL_map, biased_le hX hi63, biased_le hY hi63, show ¬ X.length ≤ i by omega, decide_false, nb_t, nb_f, bi_true, bi_false, nthL_map i64 X i hlt, cell_i64, tagIs_i64, i64_p, mk_i64, mk_sl, ble_true.2 (show i.succ ≤ X.length from hlt)]
    have e1 : X.drop i = X[i] :: X.drop (i + 1) := List.drop_eq_getElem_cons hlt
    by_cases hy : Y.length ≤ i
    · rw [e1, List.drop_of_length_le hy]
      simp only [hy, decide_true, bi_true]
      rfl
    · have hlty : i < Y.length := by omega
      have e2 : Y.drop i = Y[i] :: Y.drop (i + 1) := List.drop_eq_getElem_cons hlty
      rw [e1, e2]
      simp only [hy, decide_false, bi_false, ble_true.2 (show i.succ ≤ Y.length from hlty), bi_true, nthL_map i64 Y i hlty, cell_i64, tagIs_i64, i64_p, mk_i64, cmpN_mk, okN_bi (pure19 _ _)]
      show _ = ansY (i64 (bi (nbeq (cmpN X[i] Y[i]) 0) (cmpL (X.drop (i + 1)) (Y.drop (i + 1))) (cmpN X[i] Y[i])))
      cases hc : nbeq (cmpN X[i] Y[i]) 0
      · simp only [nb_f, bi_true, bi_false]
        rfl
      · simp only [nb_t, bi_true, bi_false]
        have h1 := ih' (by omega) R1 _ _ rfl rfl rfl
        rw [lenL_map] at h1
        rw [← h1]
        simp only [succ_mod hi63, mk_i64]
        rw [nbeq_refl, bi_true]
        rfl
theorem pure16 (pa pb : Nat) (X Y : List Nat) (hX : X.length < 2 ^ 63) (hY : Y.length < 2 ^ 63) : PureAt Tryz.prog 16 [slP pa 1 (X.map i64), slP pb 1 (Y.map i64)] (i64 (cmpL X Y)) := by
  refine pure_fn mixed globs func16 body16 n16 res16 R1_ok lab16 [3] (X.length + 1) ((s16 _ _ _ _ _).trans ?_)
  exact loop16 pa pb X Y hX hY X.length 0 (by omega) (by omega) R1 _ _ rfl rfl rfl
end Go.Eng
namespace Go.Eng
open Go.RowKit Go.Proofs
noncomputable section
def gP1 (a b : AV) : Nat := cmpN (cel a 1).p (cel b 1).p
def gP0 (a b : AV) : Nat := cmpS (cel a 0) (cel b 0)
def gU1 (a b : AV) : Nat := cmpU (cel a 1).p (cel b 1).p
def gI (a b : AV) : Nat := cmpN a.p b.p
def Nt3 : Nat → Option Native := ntL [(16, natP Tryz.prog 16 [22, 22] fun l => i64 (cmpF gI (nthL l 0).cs (nthL l 1).cs)),
  (17, natP Tryz.prog 17 [23, 23, 65] fun l => i64 (bi (nbeq (nthL l 2).p 18) (cmpF gP1 (nthL l 0).cs (nthL l 1).cs) (cmpF gP0 (nthL l 0).cs (nthL l 1).cs))),
  (20, natP Tryz.prog 20 [24, 24, 68] fun l => i64 (bi (nbeq (nthL l 2).p 21) (cmpF gU1 (nthL l 0).cs (nthL l 1).cs) (cmpF gP0 (nthL l 0).cs (nthL l 1).cs)))]
def R3 : Rec := evN Tryz.prog Nt3 (fun _ => false) 2
end
theorem R3_ok : RecOk Tryz.prog R3 := evN_ok mixed (ntL_cons (ntL_cons (ntL_cons ntL_nil))) noGor 2
theorem cmpF_map {α β : Type} (g : α → α → Nat) (f : β → α) : ∀ X Y : List β, cmpF g (X.map f) (Y.map f) = cmpF (fun a b => g (f a) (f b)) X Y
  | [], [] => rfl
  | [], _ :: _ => rfl
  | _ :: _, [] => rfl
  | x :: X, y :: Y => by
    show bi (nbeq (g (f x) (f y)) 0) (cmpF g (X.map f) (Y.map f)) _ = bi (nbeq (g (f x) (f y)) 0) (cmpF _ X Y) _
    rw [cmpF_map g f X Y]
theorem cmpL_F : ∀ X Y : List Nat, cmpL X Y = cmpF cmpN X Y
  | [], [] => rfl
  | [], _ :: _ => rfl
  | _ :: _, [] => rfl
  | x :: X, y :: Y => by
    show bi (nbeq (cmpN x y) 0) (cmpL X Y) _ = bi (nbeq (cmpN x y) 0) (cmpF cmpN X Y) _
    rw [cmpL_F X Y]
theorem e6 (J : Jmp) (pa pb pc qa qb qc : Nat) (ra ha na rb hb nb' : List AV) : (compY Tryz.prog 40 (fun _ => none) (finY Tryz.prog [.tmp 4] [3]) J [] (bodyC Tryz.f6) (finY Tryz.prog [.tmp 4] [3]) []).run R3 (setArgs 0 [aggV [slP pa 1 ra, slP pb 2 ha, slP pc 2 na], aggV [slP qa 1 rb, slP qb 2 hb, slP qc 2 nb']] noFr) (baseH Tryz.prog) =
  (bi (nbeq (okN (PureAt Tryz.prog 16 [{ tag := 24, p := pa, q := 0, r := 1, s := 0, cs := ra }, { tag := 24, p := qa, q := 0, r := 1, s := 0, cs := rb }] { tag := 3, p := cmpF (fun a b => cmpN a.p b.p) ra rb, q := 0, r := 0, s := 0, cs := [] })) 1)
    (bi (nbeq (bi (nbeq (cmpF (fun a b => cmpN a.p b.p) ra rb) 0) 1 0) 1)
      (bi (nbeq (okN (PureAt Tryz.prog 17 [{ tag := 24, p := pb, q := 0, r := 2, s := 0, cs := ha }, { tag := 24, p := qb, q := 0, r := 2, s := 0, cs := hb }, { tag := 13, p := 18, q := 0, r := 0, s := 0, cs := [] }] { tag := 3, p := cmpF (fun a b => cmpN (cel a 1).p (cel b 1).p) ha hb, q := 0, r := 0, s := 0, cs := [] })) 1)
        (bi (nbeq (bi (nbeq (cmpF (fun a b => cmpN (cel a 1).p (cel b 1).p) ha hb) 0) 1 0) 1)
          (bi (nbeq (okN (PureAt Tryz.prog 20 [{ tag := 24, p := pc, q := 0, r := 2, s := 0, cs := na }, { tag := 24, p := qc, q := 0, r := 2, s := 0, cs := nb' }, { tag := 13, p := 21, q := 0, r := 0, s := 0, cs := [] }] { tag := 3, p := cmpF (fun a b => cmpU (cel a 1).p (cel b 1).p) na nb', q := 0, r := 0, s := 0, cs := [] })) 1)
            (bi (nbeq (bi (nbeq (cmpF (fun a b => cmpU (cel a 1).p (cel b 1).p) na nb') 0) 1 0) 1)
              (bi (nbeq (okN (PureAt Tryz.prog 17 [{ tag := 24, p := pb, q := 0, r := 2, s := 0, cs := ha }, { tag := 24, p := qb, q := 0, r := 2, s := 0, cs := hb }, { tag := 13, p := 23, q := 0, r := 0, s := 0, cs := [] }] { tag := 3, p := cmpF (fun a b => cmpS (cel a 0) (cel b 0)) ha hb, q := 0, r := 0, s := 0, cs := [] })) 1)
                (bi (nbeq (bi (nbeq (cmpF (fun a b => cmpS (cel a 0) (cel b 0)) ha hb) 0) 1 0) 1)
                  (bi (nbeq (okN (PureAt Tryz.prog 20 [{ tag := 24, p := pc, q := 0, r := 2, s := 0, cs := na }, { tag := 24, p := qc, q := 0, r := 2, s := 0, cs := nb' }, { tag := 13, p := 25, q := 0, r := 0, s := 0, cs := [] }] { tag := 3, p := cmpF (fun a b => cmpS (cel a 0) (cel b 0)) na nb', q := 0, r := 0, s := 0, cs := [] })) 1)
                    (ansY { tag := 3, p := cmpF (fun a b => cmpS (cel a 0) (cel b 0)) na nb', q := 0, r := 0, s := 0, cs := [] })
                    (failR 301))
                  (ansY { tag := 3, p := cmpF (fun a b => cmpS (cel a 0) (cel b 0)) ha hb, q := 0, r := 0, s := 0, cs := [] }))
                (failR 301))
              (bi (nbeq (bi (nbeq (cmpF (fun a b => cmpU (cel a 1).p (cel b 1).p) na nb') 0) 1 0) 1)
                (bi (nbeq (okN (PureAt Tryz.prog 20 [{ tag := 24, p := pc, q := 0, r := 2, s := 0, cs := na }, { tag := 24, p := qc, q := 0, r := 2, s := 0, cs := nb' }, { tag := 13, p := 25, q := 0, r := 0, s := 0, cs := [] }] { tag := 3, p := cmpF (fun a b => cmpS (cel a 0) (cel b 0)) na nb', q := 0, r := 0, s := 0, cs := [] })) 1)
                  (ansY { tag := 3, p := cmpF (fun a b => cmpS (cel a 0) (cel b 0)) na nb', q := 0, r := 0, s := 0, cs := [] })
                  (failR 301))
                (ansY { tag := 3, p := cmpF (fun a b => cmpU (cel a 1).p (cel b 1).p) na nb', q := 0, r := 0, s := 0, cs := [] })))
            (failR 301))
          (bi (nbeq (bi (nbeq (cmpF (fun a b => cmpN (cel a 1).p (cel b 1).p) ha hb) 0) 1 0) 1)
            (bi (nbeq (okN (PureAt Tryz.prog 17 [{ tag := 24, p := pb, q := 0, r := 2, s := 0, cs := ha }, { tag := 24, p := qb, q := 0, r := 2, s := 0, cs := hb }, { tag := 13, p := 23, q := 0, r := 0, s := 0, cs := [] }] { tag := 3, p := cmpF (fun a b => cmpS (cel a 0) (cel b 0)) ha hb, q := 0, r := 0, s := 0, cs := [] })) 1)
              (bi (nbeq (bi (nbeq (cmpF (fun a b => cmpS (cel a 0) (cel b 0)) ha hb) 0) 1 0) 1)
                (bi (nbeq (okN (PureAt Tryz.prog 20 [{ tag := 24, p := pc, q := 0, r := 2, s := 0, cs := na }, { tag := 24, p := qc, q := 0, r := 2, s := 0, cs := nb' }, { tag := 13, p := 25, q := 0, r := 0, s := 0, cs := [] }] { tag := 3, p := cmpF (fun a b => cmpS (cel a 0) (cel b 0)) na nb', q := 0, r := 0, s := 0, cs := [] })) 1)
                  (ansY { tag := 3, p := cmpF (fun a b => cmpS (cel a 0) (cel b 0)) na nb', q := 0, r := 0, s := 0, cs := [] })
                  (failR 301))
                (ansY { tag := 3, p := cmpF (fun a b => cmpS (cel a 0) (cel b 0)) ha hb, q := 0, r := 0, s := 0, cs := [] }))
              (failR 301))
            (bi (nbeq (bi (nbeq (cmpF (fun a b => cmpN (cel a 1).p (cel b 1).p) ha hb) 0) 1 0) 1)
              (bi (nbeq (okN (PureAt Tryz.prog 20 [{ tag := 24, p := pc, q := 0, r := 2, s := 0, cs := na }, { tag := 24, p := qc, q := 0, r := 2, s := 0, cs := nb' }, { tag := 13, p := 25, q := 0, r := 0, s := 0, cs := [] }] { tag := 3, p := cmpF (fun a b => cmpS (cel a 0) (cel b 0)) na nb', q := 0, r := 0, s := 0, cs := [] })) 1)
                (ansY { tag := 3, p := cmpF (fun a b => cmpS (cel a 0) (cel b 0)) na nb', q := 0, r := 0, s := 0, cs := [] })
                (failR 301))
              (ansY { tag := 3, p := cmpF (fun a b => cmpN (cel a 1).p (cel b 1).p) ha hb, q := 0, r := 0, s := 0, cs := [] }))))
        (failR 301))
      (bi (nbeq (bi (nbeq (cmpF (fun a b => cmpN a.p b.p) ra rb) 0) 1 0) 1)
        (bi (nbeq (okN (PureAt Tryz.prog 20 [{ tag := 24, p := pc, q := 0, r := 2, s := 0, cs := na }, { tag := 24, p := qc, q := 0, r := 2, s := 0, cs := nb' }, { tag := 13, p := 21, q := 0, r := 0, s := 0, cs := [] }] { tag := 3, p := cmpF (fun a b => cmpU (cel a 1).p (cel b 1).p) na nb', q := 0, r := 0, s := 0, cs := [] })) 1)
          (bi (nbeq (bi (nbeq (cmpF (fun a b => cmpU (cel a 1).p (cel b 1).p) na nb') 0) 1 0) 1)
            (bi (nbeq (okN (PureAt Tryz.prog 17 [{ tag := 24, p := pb, q := 0, r := 2, s := 0, cs := ha }, { tag := 24, p := qb, q := 0, r := 2, s := 0, cs := hb }, { tag := 13, p := 23, q := 0, r := 0, s := 0, cs := [] }] { tag := 3, p := cmpF (fun a b => cmpS (cel a 0) (cel b 0)) ha hb, q := 0, r := 0, s := 0, cs := [] })) 1)
              (bi (nbeq (bi (nbeq (cmpF (fun a b => cmpS (cel a 0) (cel b 0)) ha hb) 0) 1 0) 1)
                (bi (nbeq (okN (PureAt Tryz.prog 20 [{ tag := 24, p := pc, q := 0, r := 2, s := 0, cs := na }, { tag := 24, p := qc, q := 0, r := 2, s := 0, cs := nb' }, { tag := 13, p := 25, q := 0, r := 0, s := 0, cs := [] }] { tag := 3, p := cmpF (fun a b => cmpS (cel a 0) (cel b 0)) na nb', q := 0, r := 0, s := 0, cs := [] })) 1)
                  (ansY { tag := 3, p := cmpF (fun a b => cmpS (cel a 0) (cel b 0)) na nb', q := 0, r := 0, s := 0, cs := [] })
                  (failR 301))
                (ansY { tag := 3, p := cmpF (fun a b => cmpS (cel a 0) (cel b 0)) ha hb, q := 0, r := 0, s := 0, cs := [] }))
              (failR 301))
            (bi (nbeq (bi (nbeq (cmpF (fun a b => cmpU (cel a 1).p (cel b 1).p) na nb') 0) 1 0) 1)
              (bi (nbeq (okN (PureAt Tryz.prog 20 [{ tag := 24, p := pc, q := 0, r := 2, s := 0, cs := na }, { tag := 24, p := qc, q := 0, r := 2, s := 0, cs := nb' }, { tag := 13, p := 25, q := 0, r := 0, s := 0, cs := [] }] { tag := 3, p := cmpF (fun a b => cmpS (cel a 0) (cel b 0)) na nb', q := 0, r := 0, s := 0, cs := [] })) 1)
                (ansY { tag := 3, p := cmpF (fun a b => cmpS (cel a 0) (cel b 0)) na nb', q := 0, r := 0, s := 0, cs := [] })
                (failR 301))
              (ansY { tag := 3, p := cmpF (fun a b => cmpU (cel a 1).p (cel b 1).p) na nb', q := 0, r := 0, s := 0, cs := [] })))
          (failR 301))
        (bi (nbeq (bi (nbeq (cmpF (fun a b => cmpN a.p b.p) ra rb) 0) 1 0) 1)
          (bi (nbeq (okN (PureAt Tryz.prog 17 [{ tag := 24, p := pb, q := 0, r := 2, s := 0, cs := ha }, { tag := 24, p := qb, q := 0, r := 2, s := 0, cs := hb }, { tag := 13, p := 23, q := 0, r := 0, s := 0, cs := [] }] { tag := 3, p := cmpF (fun a b => cmpS (cel a 0) (cel b 0)) ha hb, q := 0, r := 0, s := 0, cs := [] })) 1)
            (bi (nbeq (bi (nbeq (cmpF (fun a b => cmpS (cel a 0) (cel b 0)) ha hb) 0) 1 0) 1)
              (bi (nbeq (okN (PureAt Tryz.prog 20 [{ tag := 24, p := pc, q := 0, r := 2, s := 0, cs := na }, { tag := 24, p := qc, q := 0, r := 2, s := 0, cs := nb' }, { tag := 13, p := 25, q := 0, r := 0, s := 0, cs := [] }] { tag := 3, p := cmpF (fun a b => cmpS (cel a 0) (cel b 0)) na nb', q := 0, r := 0, s := 0, cs := [] })) 1)
                (ansY { tag := 3, p := cmpF (fun a b => cmpS (cel a 0) (cel b 0)) na nb', q := 0, r := 0, s := 0, cs := [] })
                (failR 301))
              (ansY { tag := 3, p := cmpF (fun a b => cmpS (cel a 0) (cel b 0)) ha hb, q := 0, r := 0, s := 0, cs := [] }))
            (failR 301))
          (bi (nbeq (bi (nbeq (cmpF (fun a b => cmpN a.p b.p) ra rb) 0) 1 0) 1)
            (bi (nbeq (okN (PureAt Tryz.prog 20 [{ tag := 24, p := pc, q := 0, r := 2, s := 0, cs := na }, { tag := 24, p := qc, q := 0, r := 2, s := 0, cs := nb' }, { tag := 13, p := 25, q := 0, r := 0, s := 0, cs := [] }] { tag := 3, p := cmpF (fun a b => cmpS (cel a 0) (cel b 0)) na nb', q := 0, r := 0, s := 0, cs := [] })) 1)
              (ansY { tag := 3, p := cmpF (fun a b => cmpS (cel a 0) (cel b 0)) na nb', q := 0, r := 0, s := 0, cs := [] })
              (failR 301))
            (ansY { tag := 3, p := cmpF (fun a b => cmpN a.p b.p) ra rb, q := 0, r := 0, s := 0, cs := [] })))))
    (failR 301)) := by kernel_rfl

/-- a match: the roots, the holes, the nums -/
structure Mt where
  pr : Nat
  ph : Nat
  pn : Nat
  rs : List Nat
  hs : List (Nat × Nat × Nat)
  ns : List (Nat × Nat × Nat)
noncomputable def mtA (m : Mt) : AV := aggV [slP m.pr 1 (m.rs.map i64), slP m.ph 2 (m.hs.map prF), slP m.pn 2 (m.ns.map prU)]
def Mt.ok (m : Mt) : Prop := m.rs.length < 2 ^ 63 ∧ m.hs.length < 2 ^ 63 ∧ m.ns.length < 2 ^ 63
/-- the first that is not 0 -/
noncomputable def firstN (c1 c2 c3 c4 c5 : Nat) : Nat := bi (nbeq c1 0) (bi (nbeq c2 0) (bi (nbeq c3 0) (bi (nbeq c4 0) c5 c4) c3) c2) c1
noncomputable def cmpM (a b : Mt) : Nat := firstN (cmpL a.rs b.rs) (cmpF (fun a b => cmpN a.2.2 b.2.2) a.hs b.hs) (cmpF (fun a b => cmpU a.2.2 b.2.2) a.ns b.ns) (cmpF (fun a b => cmpS (st a.1 a.2.1) (st b.1 b.2.1)) a.hs b.hs) (cmpF (fun a b => cmpS (st a.1 a.2.1) (st b.1 b.2.1)) a.ns b.ns)
theorem body6 : Tryz.f6.body = some (bodyC Tryz.f6) := by kernel_rfl
theorem func6 : Tryz.prog.funcs[6]? = some Tryz.f6 := by kernel_rfl
theorem n6 : Tryz.f6.ntmps = 40 := by kernel_rfl
theorem res6 : Tryz.f6.results.toList = [.tmp 4] := by kernel_rfl
theorem pure6 (a b : Mt) (ha : a.ok) (hb : b.ok) : PureAt Tryz.prog 6 [mtA a, mtA b] (i64 (cmpM a b)) := by
  unfold mtA
  refine pure_fn mixed globs func6 body6 n6 res6 R3_ok (fun _ => none) [3] 0 ((e6 _ a.pr a.ph a.pn b.pr b.ph b.pn _ _ _ _ _ _).trans ?_)
  have h1 : cmpF (fun a b => cmpN a.p b.p) (a.rs.map i64) (b.rs.map i64) = cmpL a.rs b.rs := by rw [cmpF_map, cmpL_F]; rfl
  have h2 : cmpF (fun a b => cmpN (cel a 1).p (cel b 1).p) (a.hs.map prF) (b.hs.map prF) = cmpF (fun a b => cmpN a.2.2 b.2.2) a.hs b.hs := by rw [cmpF_map]; rfl
  have h3 : cmpF (fun a b => cmpU (cel a 1).p (cel b 1).p) (a.ns.map prU) (b.ns.map prU) = cmpF (fun a b => cmpU a.2.2 b.2.2) a.ns b.ns := by rw [cmpF_map]; rfl
  have h4 : cmpF (fun a b => cmpS (cel a 0) (cel b 0)) (a.hs.map prF) (b.hs.map prF) = cmpF (fun a b => cmpS (st a.1 a.2.1) (st b.1 b.2.1)) a.hs b.hs := by rw [cmpF_map]; rfl
  have h5 : cmpF (fun a b => cmpS (cel a 0) (cel b 0)) (a.ns.map prU) (b.ns.map prU) = cmpF (fun a b => cmpS (st a.1 a.2.1) (st b.1 b.2.1)) a.ns b.ns := by rw [cmpF_map]; rfl
  rw [h1, h2, h3, h4, h5]
  have p1 := pure16 a.pr b.pr a.rs b.rs ha.1 hb.1
  have p2 := pure17a a.ph b.ph a.hs b.hs ha.2.1 hb.2.1
  have p3 := pure20a a.pn b.pn a.ns b.ns ha.2.2 hb.2.2
  have p4 := pure17b a.ph b.ph a.hs b.hs ha.2.1 hb.2.1
  have p5 := pure20b a.pn b.pn a.ns b.ns ha.2.2 hb.2.2
  unfold cmpM
  generalize cmpL a.rs b.rs = c1 at *
  generalize cmpF (fun a b => cmpN a.2.2 b.2.2) a.hs b.hs = c2 at *
  generalize cmpF (fun a b => cmpU a.2.2 b.2.2) a.ns b.ns = c3 at *
  generalize cmpF (fun a b => cmpS (st a.1 a.2.1) (st b.1 b.2.1)) a.hs b.hs = c4 at *
  generalize cmpF (fun a b => cmpS (st a.1 a.2.1) (st b.1 b.2.1)) a.ns b.ns = c5 at *
  have q1 := okN_one.2 p1
  have q2 := okN_one.2 p2
  have q3 := okN_one.2 p3
  have q4 := okN_one.2 p4
  have q5 := okN_one.2 p5
  simp only [slP, mk1, i64] at q1 q2 q3 q4 q5
  rw [q1, q2, q3, q4, q5]
  have r1 : nbeq 1 1 = true := rfl
  unfold firstN
  simp only [bl_bi, r1, bi_true]
  generalize nbeq c1 0 = b1
  generalize nbeq c2 0 = b2
  generalize nbeq c3 0 = b3
  generalize nbeq c4 0 = b4
  cases b1 <;> cases b2 <;> cases b3 <;> cases b4 <;> simp only [bi_true, bi_false, i64]
end Go.Eng
namespace Go.Eng
open Go.RowKit Go.Proofs
/- the reference: numbers and labels -/
noncomputable section
def sgn (x y : Nat) : Nat := bi (nble (biased 7 y) (biased 7 x)) (bi (nble (biased 7 x) (biased 7 y)) 0 1) 18446744073709551615
def cmpA (a b : AV) : Nat := firstN (cmpF gI (cel a 0).cs (cel b 0).cs) (cmpF gP1 (cel a 1).cs (cel b 1).cs) (cmpF gU1 (cel a 2).cs (cel b 2).cs) (cmpF gP0 (cel a 1).cs (cel b 1).cs) (cmpF gP0 (cel a 2).cs (cel b 2).cs)
def Nt4 : Nat → Option Native := ntL [(30, natP Tryz.prog 30 [31, 31] fun l => i64 (sgn (nthL l 0).p (nthL l 1).p))]
def R4 : Rec := evN Tryz.prog Nt4 (fun _ => false) 2
def Nt7 : Nat → Option Native := ntL [(6, natP Tryz.prog 6 [26, 26] fun l => i64 (cmpA (nthL l 0) (nthL l 1)))]
def R7 : Rec := evN Tryz.prog Nt7 (fun _ => false) 2
def lab13 : Lab := labT [([0,0,1,0,1], [(0,0),(1,0),(5,0)])]
def lab12 : Lab := labT [([0,0,1,0,1,1], [(1,100),(5,2),(6,2),(7,2),(8,0)]), ([0,0,1,0,1,1,1], [(1,100),(5,2),(6,2),(7,2),(9,0)])]
end
theorem R4_ok : RecOk Tryz.prog R4 := evN_ok mixed (ntL_cons ntL_nil) noGor 2
theorem R7_ok : RecOk Tryz.prog R7 := evN_ok mixed (ntL_cons ntL_nil) noGor 2
end Go.Eng
namespace Go.Eng
open Go.RowKit Go.Proofs
theorem body7 : Tryz.f7.body = some (bodyC Tryz.f7) := by kernel_rfl
theorem func7 : Tryz.prog.funcs[7]? = some Tryz.f7 := by kernel_rfl
theorem n7 : Tryz.f7.ntmps = 9 := by kernel_rfl
theorem res7 : Tryz.f7.results.toList = [.tmp 4] := by kernel_rfl
theorem body30 : Tryz.f30.body = some (bodyC Tryz.f30) := by kernel_rfl
theorem func30 : Tryz.prog.funcs[30]? = some Tryz.f30 := by kernel_rfl
theorem n30 : Tryz.f30.ntmps = 11 := by kernel_rfl
theorem res30 : Tryz.f30.results.toList = [.tmp 4] := by kernel_rfl
theorem body13 : Tryz.f13.body = some (bodyC Tryz.f13) := by kernel_rfl
theorem func13 : Tryz.prog.funcs[13]? = some Tryz.f13 := by kernel_rfl
theorem n13 : Tryz.f13.ntmps = 43 := by kernel_rfl
theorem res13 : Tryz.f13.results.toList = [.tmp 4] := by kernel_rfl
theorem body14 : Tryz.f14.body = some (bodyC Tryz.f14) := by kernel_rfl
theorem func14 : Tryz.prog.funcs[14]? = some Tryz.f14 := by kernel_rfl
theorem n14 : Tryz.f14.ntmps = 47 := by kernel_rfl
theorem res14 : Tryz.f14.results.toList = [.tmp 4] := by kernel_rfl
theorem body15 : Tryz.f15.body = some (bodyC Tryz.f15) := by kernel_rfl
theorem func15 : Tryz.prog.funcs[15]? = some Tryz.f15 := by kernel_rfl
theorem n15 : Tryz.f15.ntmps = 43 := by kernel_rfl
theorem res15 : Tryz.f15.results.toList = [.tmp 4] := by kernel_rfl
theorem e30 (J : Jmp) (x y : Nat) : (compY Tryz.prog 11 (fun _ => none) (finY Tryz.prog [.tmp 4] [3]) J [] (bodyC Tryz.f30) (finY Tryz.prog [.tmp 4] [3]) []).run R0 (setArgs 0 [u64 x, u64 y] noFr) (baseH Tryz.prog) =
  (bi (nbeq (bi (nb (nble (biased 7 y) (biased 7 x))) 1 0) 1)
    (ansY { tag := 3, p := 18446744073709551615, q := 0, r := 0, s := 0, cs := [] })
    (bi (nbeq (bi (nb (nble (biased 7 x) (biased 7 y))) 1 0) 1)
      (ansY { tag := 3, p := 1, q := 0, r := 0, s := 0, cs := [] })
      (ansY { tag := 3, p := 0, q := 0, r := 0, s := 0, cs := [] }))) := by kernel_rfl
theorem e7 (J : Jmp) (pa pb pc qa qb qc : Nat) (ra ha na rb hb nc : List AV) : (compY Tryz.prog 9 (fun _ => none) (finY Tryz.prog [.tmp 4] [4]) J [] (bodyC Tryz.f7) (finY Tryz.prog [.tmp 4] [4]) []).run R7 (setArgs 0 [aggV [slP pa 1 ra, slP pb 2 ha, slP pc 2 na], aggV [slP qa 1 rb, slP qb 2 hb, slP qc 2 nc]] noFr) (baseH Tryz.prog) =
  (bi (nbeq (okN (PureAt Tryz.prog 6 [{ tag := 15, p := 0, q := 0, r := 0, s := 0, cs := [{ tag := 24, p := pa, q := 0, r := 1, s := 0, cs := ra }, { tag := 24, p := pb, q := 0, r := 2, s := 0, cs := ha }, { tag := 24, p := pc, q := 0, r := 2, s := 0, cs := na }] }, { tag := 15, p := 0, q := 0, r := 0, s := 0, cs := [{ tag := 24, p := qa, q := 0, r := 1, s := 0, cs := rb }, { tag := 24, p := qb, q := 0, r := 2, s := 0, cs := hb }, { tag := 24, p := qc, q := 0, r := 2, s := 0, cs := nc }] }] { tag := 3, p := cmpA { tag := 15, p := 0, q := 0, r := 0, s := 0, cs := [{ tag := 24, p := pa, q := 0, r := 1, s := 0, cs := ra }, { tag := 24, p := pb, q := 0, r := 2, s := 0, cs := ha }, { tag := 24, p := pc, q := 0, r := 2, s := 0, cs := na }] } { tag := 15, p := 0, q := 0, r := 0, s := 0, cs := [{ tag := 24, p := qa, q := 0, r := 1, s := 0, cs := rb }, { tag := 24, p := qb, q := 0, r := 2, s := 0, cs := hb }, { tag := 24, p := qc, q := 0, r := 2, s := 0, cs := nc }] }, q := 0, r := 0, s := 0, cs := [] })) 1)
    (ansY { tag := 8, p := bi (nbeq (cmpA { tag := 15, p := 0, q := 0, r := 0, s := 0, cs := [{ tag := 24, p := pa, q := 0, r := 1, s := 0, cs := ra }, { tag := 24, p := pb, q := 0, r := 2, s := 0, cs := ha }, { tag := 24, p := pc, q := 0, r := 2, s := 0, cs := na }] } { tag := 15, p := 0, q := 0, r := 0, s := 0, cs := [{ tag := 24, p := qa, q := 0, r := 1, s := 0, cs := rb }, { tag := 24, p := qb, q := 0, r := 2, s := 0, cs := hb }, { tag := 24, p := qc, q := 0, r := 2, s := 0, cs := nc }] }) 0) 1 0, q := 0, r := 0, s := 0, cs := [] })
    (failR 301)) := by kernel_rfl
theorem s13 (J : Jmp) (pa pb : Nat) (xs ys : List AV) : (compY Tryz.prog 43 lab13 (finY Tryz.prog [.tmp 4] [3]) J [] (bodyC Tryz.f13) (finY Tryz.prog [.tmp 4] [3]) []).run R4 (setArgs 0 [slP pa 1 xs, slP pb 1 ys] noFr) (baseH Tryz.prog) =
  (J [0, 0, 1, 0, 1] [{ tag := 24, p := pa, q := 0, r := 1, s := 0, cs := xs }, { tag := 24, p := pb, q := 0, r := 1, s := 0, cs := ys }, { tag := 3, p := 0, q := 0, r := 0, s := 0, cs := [] }]) := by kernel_rfl
theorem l13 (J : Jmp) (pa pb i : Nat) (xs ys : List AV) : lblY Tryz.prog 43 lab13 (baseH Tryz.prog) R4 (finY Tryz.prog [.tmp 4] [3]) (bodyC Tryz.f13) J [0,0,1,0,1] [slP pa 1 xs, slP pb 1 ys, i64 i] =
  (bi (nbeq (bi (nb (nble (biased 3 (lenL xs)) (biased 3 i))) 1 0) 1)
    (bi (nbeq (bi (nb (nble (biased 3 (lenL ys)) (biased 3 i))) 1 0) 1)
      (bi (nble i.succ (lenL xs))
        (bi (bi (tagIs 3 (nthL (bi (nbeq (nthL [nthL xs i] 0).1 15) (nthL [nthL xs i] 0).6 [nthL [nthL xs i] 0]) 0)) true false)
          (bi (nble i.succ (lenL ys))
            (bi (bi (tagIs 3 (nthL (bi (nbeq (nthL [nthL ys i] 0).1 15) (nthL [nthL ys i] 0).6 [nthL [nthL ys i] 0]) 0)) true false)
              (bi (nbeq (bi (nb (nbeq (nthL (bi (nbeq (nthL [nthL xs i] 0).1 15) (nthL [nthL xs i] 0).6 [nthL [nthL xs i] 0]) 0).2 (nthL (bi (nbeq (nthL [nthL ys i] 0).1 15) (nthL [nthL ys i] 0).6 [nthL [nthL ys i] 0]) 0).2)) 1 0) 1)
                (bi (nble i.succ (lenL xs))
                  (bi (bi (tagIs 3 (nthL (bi (nbeq (nthL [nthL xs i] 0).1 15) (nthL [nthL xs i] 0).6 [nthL [nthL xs i] 0]) 0)) true false)
                    (bi (nble i.succ (lenL ys))
                      (bi (bi (tagIs 3 (nthL (bi (nbeq (nthL [nthL ys i] 0).1 15) (nthL [nthL ys i] 0).6 [nthL [nthL ys i] 0]) 0)) true false)
                        (bi (nbeq (bi (nb (nble (biased 3 (nthL (bi (nbeq (nthL [nthL ys i] 0).1 15) (nthL [nthL ys i] 0).6 [nthL [nthL ys i] 0]) 0).2) (biased 3 (nthL (bi (nbeq (nthL [nthL xs i] 0).1 15) (nthL [nthL xs i] 0).6 [nthL [nthL xs i] 0]) 0).2))) 1 0) 1)
                          (ansY { tag := 3, p := 18446744073709551615, q := 0, r := 0, s := 0, cs := [] })
                          (ansY { tag := 3, p := 1, q := 0, r := 0, s := 0, cs := [] }))
                        (failR 201))
                      (failR 205))
                    (failR 201))
                  (failR 205))
                (J [0, 0, 1, 0, 1] [{ tag := 24, p := pa, q := 0, r := 1, s := 0, cs := xs }, { tag := 24, p := pb, q := 0, r := 1, s := 0, cs := ys }, { tag := 3, p := gt2 (fun a b => (a.add b).mod (kMod (kCode IntKind.i64))) i 1, q := 0, r := 0, s := 0, cs := [] }]))
              (failR 201))
            (failR 205))
          (failR 201))
        (failR 205))
      (bi (nbeq (okN (PureAt Tryz.prog 30 [{ tag := 7, p := cnvN 3 7 (lenL xs), q := 0, r := 0, s := 0, cs := [] }, { tag := 7, p := cnvN 3 7 (lenL ys), q := 0, r := 0, s := 0, cs := [] }] { tag := 3, p := sgn (cnvN 3 7 (lenL xs)) (cnvN 3 7 (lenL ys)), q := 0, r := 0, s := 0, cs := [] })) 1)
        (ansY { tag := 3, p := sgn (cnvN 3 7 (lenL xs)) (cnvN 3 7 (lenL ys)), q := 0, r := 0, s := 0, cs := [] })
        (failR 301)))
    (bi (nbeq (okN (PureAt Tryz.prog 30 [{ tag := 7, p := cnvN 3 7 (lenL xs), q := 0, r := 0, s := 0, cs := [] }, { tag := 7, p := cnvN 3 7 (lenL ys), q := 0, r := 0, s := 0, cs := [] }] { tag := 3, p := sgn (cnvN 3 7 (lenL xs)) (cnvN 3 7 (lenL ys)), q := 0, r := 0, s := 0, cs := [] })) 1)
      (ansY { tag := 3, p := sgn (cnvN 3 7 (lenL xs)) (cnvN 3 7 (lenL ys)), q := 0, r := 0, s := 0, cs := [] })
      (failR 301))) := by kernel_rfl
theorem s14 (J : Jmp) (pa pb : Nat) (xs ys : List AV) : (compY Tryz.prog 47 lab13 (finY Tryz.prog [.tmp 4] [3]) J [] (bodyC Tryz.f14) (finY Tryz.prog [.tmp 4] [3]) []).run R4 (setArgs 0 [slP pa 2 xs, slP pb 2 ys] noFr) (baseH Tryz.prog) =
  (J [0, 0, 1, 0, 1] [{ tag := 24, p := pa, q := 0, r := 2, s := 0, cs := xs }, { tag := 24, p := pb, q := 0, r := 2, s := 0, cs := ys }, { tag := 3, p := 0, q := 0, r := 0, s := 0, cs := [] }]) := by kernel_rfl
theorem l14 (J : Jmp) (pa pb i : Nat) (xs ys : List AV) : lblY Tryz.prog 47 lab13 (baseH Tryz.prog) R4 (finY Tryz.prog [.tmp 4] [3]) (bodyC Tryz.f14) J [0,0,1,0,1] [slP pa 2 xs, slP pb 2 ys, i64 i] =
  (bi (nbeq (bi (nb (nble (biased 3 (lenL xs)) (biased 3 i))) 1 0) 1)
    (bi (nbeq (bi (nb (nble (biased 3 (lenL ys)) (biased 3 i))) 1 0) 1)
      (bi (nble i.succ (lenL xs))
        (bi (bi (tagIs 7 (nthL (bi (nbeq (nthL [nthL [nthL xs i] 0] 0).1 15) (nthL [nthL [nthL xs i] 0] 0).6 [nthL [nthL [nthL xs i] 0] 0]) 1)) true false)
          (bi (nble i.succ (lenL ys))
            (bi (bi (tagIs 7 (nthL (bi (nbeq (nthL [nthL [nthL ys i] 0] 0).1 15) (nthL [nthL [nthL ys i] 0] 0).6 [nthL [nthL [nthL ys i] 0] 0]) 1)) true false)
              (bi (nbeq (bi (nb (nbeq (nthL (bi (nbeq (nthL [nthL [nthL xs i] 0] 0).1 15) (nthL [nthL [nthL xs i] 0] 0).6 [nthL [nthL [nthL xs i] 0] 0]) 1).2 (nthL (bi (nbeq (nthL [nthL [nthL ys i] 0] 0).1 15) (nthL [nthL [nthL ys i] 0] 0).6 [nthL [nthL [nthL ys i] 0] 0]) 1).2)) 1 0) 1)
                (bi (nble i.succ (lenL xs))
                  (bi (bi (tagIs 7 (nthL (bi (nbeq (nthL [nthL [nthL xs i] 0] 0).1 15) (nthL [nthL [nthL xs i] 0] 0).6 [nthL [nthL [nthL xs i] 0] 0]) 1)) true false)
                    (bi (nble i.succ (lenL ys))
                      (bi (bi (tagIs 7 (nthL (bi (nbeq (nthL [nthL [nthL ys i] 0] 0).1 15) (nthL [nthL [nthL ys i] 0] 0).6 [nthL [nthL [nthL ys i] 0] 0]) 1)) true false)
                        (bi (nbeq (okN (PureAt Tryz.prog 30 [{ tag := 7, p := (nthL (bi (nbeq (nthL [nthL [nthL xs i] 0] 0).1 15) (nthL [nthL [nthL xs i] 0] 0).6 [nthL [nthL [nthL xs i] 0] 0]) 1).2, q := 0, r := 0, s := 0, cs := [] }, { tag := 7, p := (nthL (bi (nbeq (nthL [nthL [nthL ys i] 0] 0).1 15) (nthL [nthL [nthL ys i] 0] 0).6 [nthL [nthL [nthL ys i] 0] 0]) 1).2, q := 0, r := 0, s := 0, cs := [] }] { tag := 3, p := sgn (nthL (bi (nbeq (nthL [nthL [nthL xs i] 0] 0).1 15) (nthL [nthL [nthL xs i] 0] 0).6 [nthL [nthL [nthL xs i] 0] 0]) 1).2 (nthL (bi (nbeq (nthL [nthL [nthL ys i] 0] 0).1 15) (nthL [nthL [nthL ys i] 0] 0).6 [nthL [nthL [nthL ys i] 0] 0]) 1).2, q := 0, r := 0, s := 0, cs := [] })) 1)
                          (ansY { tag := 3, p := sgn (nthL (bi (nbeq (nthL [nthL [nthL xs i] 0] 0).1 15) (nthL [nthL [nthL xs i] 0] 0).6 [nthL [nthL [nthL xs i] 0] 0]) 1).2 (nthL (bi (nbeq (nthL [nthL [nthL ys i] 0] 0).1 15) (nthL [nthL [nthL ys i] 0] 0).6 [nthL [nthL [nthL ys i] 0] 0]) 1).2, q := 0, r := 0, s := 0, cs := [] })
                          (failR 301))
                        (failR 201))
                      (failR 205))
                    (failR 201))
                  (failR 205))
                (J [0, 0, 1, 0, 1] [{ tag := 24, p := pa, q := 0, r := 2, s := 0, cs := xs }, { tag := 24, p := pb, q := 0, r := 2, s := 0, cs := ys }, { tag := 3, p := gt2 (fun a b => (a.add b).mod (kMod (kCode IntKind.i64))) i 1, q := 0, r := 0, s := 0, cs := [] }]))
              (failR 201))
            (failR 205))
          (failR 201))
        (failR 205))
      (bi (nbeq (okN (PureAt Tryz.prog 30 [{ tag := 7, p := cnvN 3 7 (lenL xs), q := 0, r := 0, s := 0, cs := [] }, { tag := 7, p := cnvN 3 7 (lenL ys), q := 0, r := 0, s := 0, cs := [] }] { tag := 3, p := sgn (cnvN 3 7 (lenL xs)) (cnvN 3 7 (lenL ys)), q := 0, r := 0, s := 0, cs := [] })) 1)
        (ansY { tag := 3, p := sgn (cnvN 3 7 (lenL xs)) (cnvN 3 7 (lenL ys)), q := 0, r := 0, s := 0, cs := [] })
        (failR 301)))
    (bi (nbeq (okN (PureAt Tryz.prog 30 [{ tag := 7, p := cnvN 3 7 (lenL xs), q := 0, r := 0, s := 0, cs := [] }, { tag := 7, p := cnvN 3 7 (lenL ys), q := 0, r := 0, s := 0, cs := [] }] { tag := 3, p := sgn (cnvN 3 7 (lenL xs)) (cnvN 3 7 (lenL ys)), q := 0, r := 0, s := 0, cs := [] })) 1)
      (ansY { tag := 3, p := sgn (cnvN 3 7 (lenL xs)) (cnvN 3 7 (lenL ys)), q := 0, r := 0, s := 0, cs := [] })
      (failR 301))) := by kernel_rfl
theorem s15 (J : Jmp) (pa pb : Nat) (xs ys : List AV) : (compY Tryz.prog 43 lab13 (finY Tryz.prog [.tmp 4] [3]) J [] (bodyC Tryz.f15) (finY Tryz.prog [.tmp 4] [3]) []).run R4 (setArgs 0 [slP pa 1 xs, slP pb 1 ys] noFr) (baseH Tryz.prog) =
  (J [0, 0, 1, 0, 1] [{ tag := 24, p := pa, q := 0, r := 1, s := 0, cs := xs }, { tag := 24, p := pb, q := 0, r := 1, s := 0, cs := ys }, { tag := 3, p := 0, q := 0, r := 0, s := 0, cs := [] }]) := by kernel_rfl
theorem l15 (J : Jmp) (pa pb i : Nat) (xs ys : List AV) : lblY Tryz.prog 43 lab13 (baseH Tryz.prog) R4 (finY Tryz.prog [.tmp 4] [3]) (bodyC Tryz.f15) J [0,0,1,0,1] [slP pa 1 xs, slP pb 1 ys, i64 i] =
  (bi (nbeq (bi (nb (nble (biased 3 (lenL xs)) (biased 3 i))) 1 0) 1)
    (bi (nbeq (bi (nb (nble (biased 3 (lenL ys)) (biased 3 i))) 1 0) 1)
      (bi (nble i.succ (lenL xs))
        (bi (bi (tagIs 9 (nthL (bi (nbeq (nthL [nthL xs i] 0).1 15) (nthL [nthL xs i] 0).6 [nthL [nthL xs i] 0]) 0)) true false)
          (bi (nble i.succ (lenL ys))
            (bi (bi (tagIs 9 (nthL (bi (nbeq (nthL [nthL ys i] 0).1 15) (nthL [nthL ys i] 0).6 [nthL [nthL ys i] 0]) 0)) true false)
              (bi (nbeq (bi (nb (bi (nbeq (nthL (bi (nbeq (nthL [nthL xs i] 0).1 15) (nthL [nthL xs i] 0).6 [nthL [nthL xs i] 0]) 0).3 (nthL (bi (nbeq (nthL [nthL ys i] 0).1 15) (nthL [nthL ys i] 0).6 [nthL [nthL ys i] 0]) 0).3) (nbeq (nthL (bi (nbeq (nthL [nthL xs i] 0).1 15) (nthL [nthL xs i] 0).6 [nthL [nthL xs i] 0]) 0).2 (nthL (bi (nbeq (nthL [nthL ys i] 0).1 15) (nthL [nthL ys i] 0).6 [nthL [nthL ys i] 0]) 0).2) false)) 1 0) 1)
                (bi (nble i.succ (lenL xs))
                  (bi (bi (tagIs 9 (nthL (bi (nbeq (nthL [nthL xs i] 0).1 15) (nthL [nthL xs i] 0).6 [nthL [nthL xs i] 0]) 0)) true false)
                    (bi (nble i.succ (lenL ys))
                      (bi (bi (tagIs 9 (nthL (bi (nbeq (nthL [nthL ys i] 0).1 15) (nthL [nthL ys i] 0).6 [nthL [nthL ys i] 0]) 0)) true false)
                        (bi (nbeq (bi (strLt { tag := 9, p := (nthL (bi (nbeq (nthL [nthL xs i] 0).1 15) (nthL [nthL xs i] 0).6 [nthL [nthL xs i] 0]) 0).2, q := (nthL (bi (nbeq (nthL [nthL xs i] 0).1 15) (nthL [nthL xs i] 0).6 [nthL [nthL xs i] 0]) 0).3, r := 0, s := 0, cs := [] } { tag := 9, p := (nthL (bi (nbeq (nthL [nthL ys i] 0).1 15) (nthL [nthL ys i] 0).6 [nthL [nthL ys i] 0]) 0).2, q := (nthL (bi (nbeq (nthL [nthL ys i] 0).1 15) (nthL [nthL ys i] 0).6 [nthL [nthL ys i] 0]) 0).3, r := 0, s := 0, cs := [] }) 1 0) 1)
                          (ansY { tag := 3, p := 18446744073709551615, q := 0, r := 0, s := 0, cs := [] })
                          (ansY { tag := 3, p := 1, q := 0, r := 0, s := 0, cs := [] }))
                        (failR 201))
                      (failR 205))
                    (failR 201))
                  (failR 205))
                (J [0, 0, 1, 0, 1] [{ tag := 24, p := pa, q := 0, r := 1, s := 0, cs := xs }, { tag := 24, p := pb, q := 0, r := 1, s := 0, cs := ys }, { tag := 3, p := gt2 (fun a b => (a.add b).mod (kMod (kCode IntKind.i64))) i 1, q := 0, r := 0, s := 0, cs := [] }]))
              (failR 201))
            (failR 205))
          (failR 201))
        (failR 205))
      (bi (nbeq (okN (PureAt Tryz.prog 30 [{ tag := 7, p := cnvN 3 7 (lenL xs), q := 0, r := 0, s := 0, cs := [] }, { tag := 7, p := cnvN 3 7 (lenL ys), q := 0, r := 0, s := 0, cs := [] }] { tag := 3, p := sgn (cnvN 3 7 (lenL xs)) (cnvN 3 7 (lenL ys)), q := 0, r := 0, s := 0, cs := [] })) 1)
        (ansY { tag := 3, p := sgn (cnvN 3 7 (lenL xs)) (cnvN 3 7 (lenL ys)), q := 0, r := 0, s := 0, cs := [] })
        (failR 301)))
    (bi (nbeq (okN (PureAt Tryz.prog 30 [{ tag := 7, p := cnvN 3 7 (lenL xs), q := 0, r := 0, s := 0, cs := [] }, { tag := 7, p := cnvN 3 7 (lenL ys), q := 0, r := 0, s := 0, cs := [] }] { tag := 3, p := sgn (cnvN 3 7 (lenL xs)) (cnvN 3 7 (lenL ys)), q := 0, r := 0, s := 0, cs := [] })) 1)
      (ansY { tag := 3, p := sgn (cnvN 3 7 (lenL xs)) (cnvN 3 7 (lenL ys)), q := 0, r := 0, s := 0, cs := [] })
      (failR 301))) := by kernel_rfl

theorem cmpA_M (a b : Mt) : cmpA (mtA a) (mtA b) = cmpM a b := by
  have h1 : cmpF gI (a.rs.map i64) (b.rs.map i64) = cmpL a.rs b.rs := by rw [cmpF_map, cmpL_F]; rfl
  have h2 : cmpF gP1 (a.hs.map prF) (b.hs.map prF) = cmpF (fun a b => cmpN a.2.2 b.2.2) a.hs b.hs := by rw [cmpF_map]; rfl
  have h3 : cmpF gU1 (a.ns.map prU) (b.ns.map prU) = cmpF (fun a b => cmpU a.2.2 b.2.2) a.ns b.ns := by rw [cmpF_map]; rfl
  have h4 : cmpF gP0 (a.hs.map prF) (b.hs.map prF) = cmpF (fun a b => cmpS (st a.1 a.2.1) (st b.1 b.2.1)) a.hs b.hs := by rw [cmpF_map]; rfl
  have h5 : cmpF gP0 (a.ns.map prU) (b.ns.map prU) = cmpF (fun a b => cmpS (st a.1 a.2.1) (st b.1 b.2.1)) a.ns b.ns := by rw [cmpF_map]; rfl
  show firstN (cmpF gI (a.rs.map i64) (b.rs.map i64)) (cmpF gP1 (a.hs.map prF) (b.hs.map prF)) (cmpF gU1 (a.ns.map prU) (b.ns.map prU)) (cmpF gP0 (a.hs.map prF) (b.hs.map prF)) (cmpF gP0 (a.ns.map prU) (b.ns.map prU)) = _
  rw [h1, h2, h3, h4, h5]; rfl
theorem pure7 (a b : Mt) (ha : a.ok) (hb : b.ok) : PureAt Tryz.prog 7 [mtA a, mtA b] (bV (nbeq (cmpM a b) 0)) := by
  have p := okN_one.2 (pure6 a b ha hb)
  rw [← cmpA_M]
  rw [← cmpA_M] at p
  unfold mtA at p ⊢
  refine pure_fn mixed globs func7 body7 n7 res7 R7_ok (fun _ => none) [4] 0 ((e7 _ a.pr a.ph a.pn b.pr b.ph b.pn _ _ _ _ _ _).trans ?_)
  simp only [slP, aggV, i64] at p
  simp only [slP, aggV]
  rw [p]
  have r1 : nbeq 1 1 = true := rfl
  simp only [r1, bi_true]
  rfl
theorem pure30 (x y : Nat) : PureAt Tryz.prog 30 [u64 x, u64 y] (i64 (sgn x y)) := by
  refine pure_fn mixed globs func30 body30 n30 res30 R0_ok (fun _ => none) [3] 0 ((e30 _ x y).trans ?_)
  unfold sgn
  simp only [bl_bi]
  cases nble (biased 7 y) (biased 7 x) <;> cases nble (biased 7 x) (biased 7 y) <;> rfl
theorem cnv_small {a : Nat} (h : a < 2 ^ 63) : cnvN 3 7 a = a := by
  unfold cnvN
  rw [gt_eq]
  have h1 : isNeg 3 a = false := by
    unfold isNeg
    have e : kHalf 3 = 2 ^ 63 := by decide +kernel
    rw [e, ← Bool.not_eq_true, ble_true]; omega
  have e : kMod 7 = 2 ^ 64 := by decide +kernel
  rw [h1, bi_false, e]
  exact Nat.mod_eq_of_lt (by omega)
theorem biased7 {x : Nat} (h : x < 2 ^ 64) : biased 7 x = x := by
  have u : biased 7 x = (x + 2 ^ 64) % 2 ^ 64 := gt_eq _ x
  rw [u]; omega
noncomputable def sgnL (a b : Nat) : Nat := bi (nble b a) (bi (nble a b) 0 1) 18446744073709551615
theorem sgn_len {a b : Nat} (ha : a < 2 ^ 63) (hb : b < 2 ^ 63) : sgn (cnvN 3 7 a) (cnvN 3 7 b) = sgnL a b := by
  rw [cnv_small ha, cnv_small hb]
  unfold sgn sgnL
  rw [biased7 (by omega), biased7 (by omega)]
/-- two lists compared in step -/
theorem walk2 {α : Type} (g : α → α → Nat) (X Y : List α) (L : Nat → Nat → RL) (hend : ∀ k i, i ≤ X.length → i ≤ Y.length → (i = X.length ∨ i = Y.length) → L (k + 1) i = ansY (i64 (sgnL X.length Y.length)))
    (hstep : ∀ k i (hx : i < X.length) (hy : i < Y.length), L (k + 1) i = bi (nbeq (g X[i] Y[i]) 0) (L k (i + 1)) (ansY (i64 (g X[i] Y[i])))) : ∀ k i, i + k = X.length → i ≤ Y.length → L (k + 1) i = ansY (i64 (cmpF g (X.drop i) (Y.drop i))) := by
  intro k
  induction k with
  | zero =>
    intro i hi hy
    rw [hend 0 i (by omega) hy (by omega)]
    rw [List.drop_of_length_le (show X.length ≤ i by omega)]
    unfold sgnL
    by_cases h : Y.length ≤ X.length
    · rw [ble_true.2 h, ble_true.2 (show X.length ≤ Y.length by omega), List.drop_of_length_le (by omega)]; rfl
    · obtain ⟨y, ys, e3⟩ : ∃ y ys, Y.drop i = y :: ys := by
        cases hd : Y.drop i with
        | nil => have := congrArg List.length hd; simp at this; omega
        | cons y ys => exact ⟨y, ys, rfl⟩
      rw [e3, show nble Y.length X.length = false by rw [← Bool.not_eq_true, ble_true]; omega]; rfl
  | succ k ih =>
    intro i hi hy
    have hx : i < X.length := by omega
    have e1 : X.drop i = X[i] :: X.drop (i + 1) := List.drop_eq_getElem_cons hx
    by_cases hyl : i = Y.length
    · rw [hend (k + 1) i (by omega) hy (.inr hyl), e1, List.drop_of_length_le (show Y.length ≤ i by omega)]
      unfold sgnL
      rw [ble_true.2 (show Y.length ≤ X.length by omega), show nble X.length Y.length = false by rw [← Bool.not_eq_true, ble_true]; omega]; rfl
    · have hylt : i < Y.length := by omega
      have e2 : Y.drop i = Y[i] :: Y.drop (i + 1) := List.drop_eq_getElem_cons hylt
      rw [hstep (k + 1) i hx hylt, ih (i + 1) (by omega) (by omega), e1, e2]
      show _ = ansY (i64 (bi (nbeq (g X[i] Y[i]) 0) (cmpF g (X.drop (i + 1)) (Y.drop (i + 1))) (g X[i] Y[i])))
      cases nbeq (g X[i] Y[i]) 0 <;> rfl
noncomputable def refI (x y : Nat) : Nat := bi (nbeq x y) 0 (bi (nb (nble (biased 3 y) (biased 3 x))) 18446744073709551615 1)
noncomputable def refV (x y : Nat) : Nat := bi (nbeq x y) 0 (sgn x y)
noncomputable def refT (x y : Nat × Nat) : Nat := bi (bi (nbeq x.1 y.1) (nbeq x.2 y.2) false) 0 (bi (strLt (st x.1 x.2) (st y.1 y.2)) 18446744073709551615 1)
theorem loop13 (pa pb : Nat) (X Y : List Nat) (hX : X.length < 2 ^ 63) (hY : Y.length < 2 ^ 63) : ∀ k i, i + k = X.length → i ≤ Y.length → jmpN Tryz.prog 43 lab13 (baseH Tryz.prog) R4 (finY Tryz.prog [.tmp 4] [3]) (bodyC Tryz.f13) (k + 1) [0,0,1,0,1] [slP pa 1 (X.map i64), slP pb 1 (Y.map i64), i64 i] = ansY (i64 (cmpF refI (X.drop i) (Y.drop i))) := by
  refine walk2 refI X Y (fun k i => jmpN Tryz.prog 43 lab13 (baseH Tryz.prog) R4 (finY Tryz.prog [.tmp 4] [3]) (bodyC Tryz.f13) k [0,0,1,0,1] [slP pa 1 (X.map i64), slP pb 1 (Y.map i64), i64 i]) ?_ ?_
  · intro k i hx hy he
    have hi63 : i < 2 ^ 63 := by omega
    show jmpN _ _ _ _ _ _ _ (k + 1) _ _ = _
    rw [jmpN_succ, l13]
    have p := okN_one.2 (pure30 (cnvN 3 7 X.length) (cnvN 3 7 Y.length))
    simp only [u64, i64] at p
    simp only [bl_bi, lenL_map, biased_le hX hi63, biased_le hY hi63, p]
    rw [sgn_len hX hY]
    rcases he with rfl | rfl
    · simp only [Nat.le_refl, decide_true, nb_t, bi_false]; rfl
    · cases decide (X.length ≤ Y.length) <;> simp only [Nat.le_refl, decide_true, nb_t, nb_f, bi_false, bi_true] <;> rfl
  · intro k i hx hy
    have hi63 : i < 2 ^ 63 := by omega
    show jmpN _ _ _ _ _ _ _ (k + 1) _ _ = _
    rw [jmpN_succ, l13]
    simp only [bl_bi, lenL_map, biased_le hX hi63, biased_le hY hi63, show ¬ X.length ≤ i by omega, show ¬ Y.length ≤ i by omega, decide_false, nb_f, bi_true, ble_true.2 (show i.succ ≤ X.length from hx), ble_true.2 (show i.succ ≤ Y.length from hy), nthL_map i64 X i hx, nthL_map i64 Y i hy, cell_i64, tagIs_i64, i64_p, succ_mod hi63]
    unfold refI
    cases nbeq X[i] Y[i] <;> simp only [nb_f, nb_t, bi_true, bi_false]
    · cases nble (biased 3 Y[i]) (biased 3 X[i]) <;> rfl
    · rfl
end Go.Eng
namespace Go.Eng
open Go.RowKit Go.Proofs
theorem pure13 (pa pb : Nat) (X Y : List Nat) (hX : X.length < 2 ^ 63) (hY : Y.length < 2 ^ 63) : PureAt Tryz.prog 13 [slP pa 1 (X.map i64), slP pb 1 (Y.map i64)] (i64 (cmpF refI X Y)) :=
  pure_fn mixed globs func13 body13 n13 res13 R4_ok lab13 [3] (X.length + 1) ((s13 _ _ _ _ _).trans (loop13 pa pb X Y hX hY X.length 0 (by omega) (by omega)))
noncomputable def stP (e : Nat × Nat) : AV := st e.1 e.2
theorem cell_stP (e : Nat × Nat) : nthL (bi (nbeq (nthL [stP e] 0).1 15) (nthL [stP e] 0).6 [nthL [stP e] 0]) 0 = stP e := rfl
theorem tag_stP (e : Nat × Nat) : tagIs 9 (stP e) = true := rfl
theorem stP_p (e : Nat × Nat) : (stP e).2 = e.2 := rfl
theorem stP_q (e : Nat × Nat) : (stP e).3 = e.1 := rfl
theorem cell_pu2 (e : Nat × Nat × Nat) : nthL (bi (nbeq (nthL [nthL [prU e] 0] 0).1 15) (nthL [nthL [prU e] 0] 0).6 [nthL [nthL [prU e] 0] 0]) 1 = u64 e.2.2 := rfl
theorem u64_p (n : Nat) : (u64 n).2 = n := rfl

theorem sgn_ne {x y : Nat} (hx : x < 2 ^ 64) (hy : y < 2 ^ 64) (h : nbeq x y = false) : nbeq (sgn x y) 0 = false := by
  unfold sgn
  rw [biased7 hx, biased7 hy]
  have hne := beq_false.1 h
  by_cases h1 : y ≤ x
  · rw [ble_true.2 h1, show nble x y = false by rw [← Bool.not_eq_true, ble_true]; omega]; rfl
  · rw [show nble y x = false by rw [← Bool.not_eq_true, ble_true]; omega]; rfl
theorem loop14 (pa pb : Nat) (X Y : List (Nat × Nat × Nat)) (hX : X.length < 2 ^ 63) (hY : Y.length < 2 ^ 63) (hXr : ∀ e ∈ X, e.2.2 < 2 ^ 64) (hYr : ∀ e ∈ Y, e.2.2 < 2 ^ 64) : ∀ k i, i + k = X.length → i ≤ Y.length → jmpN Tryz.prog 47 lab13 (baseH Tryz.prog) R4 (finY Tryz.prog [.tmp 4] [3]) (bodyC Tryz.f14) (k + 1) [0,0,1,0,1] [slP pa 2 (X.map prU), slP pb 2 (Y.map prU), i64 i] = ansY (i64 (cmpF (fun a b => refV a.2.2 b.2.2) (X.drop i) (Y.drop i))) := by
  refine walk2 (fun a b => refV a.2.2 b.2.2) X Y (fun k i => jmpN Tryz.prog 47 lab13 (baseH Tryz.prog) R4 (finY Tryz.prog [.tmp 4] [3]) (bodyC Tryz.f14) k [0,0,1,0,1] [slP pa 2 (X.map prU), slP pb 2 (Y.map prU), i64 i]) ?_ ?_
  · intro k i hx hy he
    have hi63 : i < 2 ^ 63 := by omega
    show jmpN _ _ _ _ _ _ _ (k + 1) _ _ = _
    rw [jmpN_succ, l14]
    have p := okN_one.2 (pure30 (cnvN 3 7 X.length) (cnvN 3 7 Y.length))
    simp only [u64, i64] at p
    simp only [bl_bi, lenL_map, biased_le hX hi63, biased_le hY hi63, p]
    rw [sgn_len hX hY]
    rcases he with rfl | rfl
    · simp only [Nat.le_refl, decide_true, nb_t, bi_false]; rfl
    · cases decide (X.length ≤ Y.length) <;> simp only [Nat.le_refl, decide_true, nb_t, nb_f, bi_false, bi_true] <;> rfl
  · intro k i hx hy
    have hi63 : i < 2 ^ 63 := by omega
    show jmpN _ _ _ _ _ _ _ (k + 1) _ _ = _
    rw [jmpN_succ, l14]
    simp only [bl_bi, lenL_map, biased_le hX hi63, biased_le hY hi63, show ¬ X.length ≤ i by omega, show ¬ Y.length ≤ i by omega, decide_false, nb_f, bi_true, ble_true.2 (show i.succ ≤ X.length from hx), ble_true.2 (show i.succ ≤ Y.length from hy), nthL_map prU X i hx, nthL_map prU Y i hy, succ_mod hi63, cell_pu2, tagIs_u64, u64_p]
    have p := okN_one.2 (pure30 X[i].2.2 Y[i].2.2)
    simp only [u64, i64] at p
    simp only [p]
    unfold refV
    have r1 : nbeq 1 1 = true := rfl
    cases h : nbeq X[i].2.2 Y[i].2.2 <;> simp only [nb_f, nb_t, bi_true, bi_false, r1]
    · have hne : nbeq (sgn X[i].2.2 Y[i].2.2) 0 = false := sgn_ne (hXr _ (List.getElem_mem hx)) (hYr _ (List.getElem_mem hy)) h
      rw [hne]; rfl
    · rfl
theorem pure14 (pa pb : Nat) (X Y : List (Nat × Nat × Nat)) (hX : X.length < 2 ^ 63) (hY : Y.length < 2 ^ 63) (hXr : ∀ e ∈ X, e.2.2 < 2 ^ 64) (hYr : ∀ e ∈ Y, e.2.2 < 2 ^ 64) : PureAt Tryz.prog 14 [slP pa 2 (X.map prU), slP pb 2 (Y.map prU)] (i64 (cmpF (fun a b => refV a.2.2 b.2.2) X Y)) :=
  pure_fn mixed globs func14 body14 n14 res14 R4_ok lab13 [3] (X.length + 1) ((s14 _ _ _ _ _).trans (loop14 pa pb X Y hX hY hXr hYr X.length 0 (by omega) (by omega)))

theorem loop15 (pa pb : Nat) (X Y : List (Nat × Nat)) (hX : X.length < 2 ^ 63) (hY : Y.length < 2 ^ 63) : ∀ k i, i + k = X.length → i ≤ Y.length → jmpN Tryz.prog 43 lab13 (baseH Tryz.prog) R4 (finY Tryz.prog [.tmp 4] [3]) (bodyC Tryz.f15) (k + 1) [0,0,1,0,1] [slP pa 1 (X.map stP), slP pb 1 (Y.map stP), i64 i] = ansY (i64 (cmpF refT (X.drop i) (Y.drop i))) := by
  refine walk2 refT X Y (fun k i => jmpN Tryz.prog 43 lab13 (baseH Tryz.prog) R4 (finY Tryz.prog [.tmp 4] [3]) (bodyC Tryz.f15) k [0,0,1,0,1] [slP pa 1 (X.map stP), slP pb 1 (Y.map stP), i64 i]) ?_ ?_
  · intro k i hx hy he
    have hi63 : i < 2 ^ 63 := by omega
    show jmpN _ _ _ _ _ _ _ (k + 1) _ _ = _
    rw [jmpN_succ, l15]
    have p := okN_one.2 (pure30 (cnvN 3 7 X.length) (cnvN 3 7 Y.length))
    simp only [u64, i64] at p
    simp only [bl_bi, lenL_map, biased_le hX hi63, biased_le hY hi63, p]
    rw [sgn_len hX hY]
    rcases he with rfl | rfl
    · simp only [Nat.le_refl, decide_true, nb_t, bi_false]; rfl
    · cases decide (X.length ≤ Y.length) <;> simp only [Nat.le_refl, decide_true, nb_t, nb_f, bi_false, bi_true] <;> rfl
  · intro k i hx hy
    have hi63 : i < 2 ^ 63 := by omega
    show jmpN _ _ _ _ _ _ _ (k + 1) _ _ = _
    rw [jmpN_succ, l15]
    simp only [bl_bi, lenL_map, biased_le hX hi63, biased_le hY hi63, show ¬ X.length ≤ i by omega, show ¬ Y.length ≤ i by omega, decide_false, nb_f, bi_true, ble_true.2 (show i.succ ≤ X.length from hx), ble_true.2 (show i.succ ≤ Y.length from hy), nthL_map stP X i hx, nthL_map stP Y i hy, succ_mod hi63, cell_stP, tag_stP, stP_p, stP_q]
    unfold refT
    cases bi (nbeq X[i].1 Y[i].1) (nbeq X[i].2 Y[i].2) false <;> simp only [nb_f, nb_t, bi_true, bi_false]
    · show bi (strLt (st X[i].1 X[i].2) (st Y[i].1 Y[i].2)) _ _ = _
      cases strLt (st X[i].1 X[i].2) (st Y[i].1 Y[i].2) <;> rfl
    · rfl
theorem pure15 (pa pb : Nat) (X Y : List (Nat × Nat)) (hX : X.length < 2 ^ 63) (hY : Y.length < 2 ^ 63) : PureAt Tryz.prog 15 [slP pa 1 (X.map stP), slP pb 1 (Y.map stP)] (i64 (cmpF refT X Y)) :=
  pure_fn mixed globs func15 body15 n15 res15 R4_ok lab13 [3] (X.length + 1) ((s15 _ _ _ _ _).trans (loop15 pa pb X Y hX hY X.length 0 (by omega) (by omega)))
end Go.Eng
namespace Go.Eng
open Go.RowKit Go.Proofs
/- saturateref26.parts -/
theorem s12 (J : Jmp) (pa pb pc : Nat) (ra ha na : List AV) : (compY Tryz.prog 57 lab12 (finY Tryz.prog [.tmp 2, .tmp 3, .tmp 4] [22, 55, 55]) J [] (bodyC Tryz.f12) (finY Tryz.prog [.tmp 2, .tmp 3, .tmp 4] [22, 55, 55]) []).run R0 (setArgs 0 [aggV [slP pa 1 ra, slP pb 2 ha, slP pc 2 na]] noFr) (baseH Tryz.prog) =
  (J [0, 0, 1, 0, 1, 1] [{ tag := 16, p := 0, q := 0, r := 1, s := 0, cs := [{ tag := 24, p := pa, q := 0, r := 1, s := 0, cs := ra }, { tag := 24, p := pb, q := 0, r := 2, s := 0, cs := ha }, { tag := 24, p := pc, q := 0, r := 2, s := 0, cs := na }] }, { tag := 16, p := 2, q := 0, r := 0, s := 0, cs := [] }, { tag := 16, p := 2, q := 0, r := 0, s := 0, cs := [] }, { tag := 16, p := 2, q := 0, r := 0, s := 0, cs := [] }, { tag := 3, p := 0, q := 0, r := 0, s := 0, cs := [] }]) := by kernel_rfl
theorem l12a (J : Jmp) (pa pb pc p1 p2 p3 i : Nat) (ra ha na as1 as2 as3 : List AV) : lblY Tryz.prog 57 lab12 (baseH Tryz.prog) R0 (finY Tryz.prog [.tmp 2, .tmp 3, .tmp 4] [22, 55, 55]) (bodyC Tryz.f12) J [0,0,1,0,1,1] [bxD [slP pa 1 ra, slP pb 2 ha, slP pc 2 na], lsD p1 as1, lsD p2 as2, lsD p3 as3, i64 i] =
  (bi (nbeq (bi (nb (nble (biased 3 (lenL ha)) (biased 3 i))) 1 0) 1)
    (bi (nble i.succ (lenL ha))
      (bi (bi (tagIs 3 (nthL (bi (nbeq (nthL [nthL [nthL ha i] 0] 0).1 15) (nthL [nthL [nthL ha i] 0] 0).6 [nthL [nthL [nthL ha i] 0] 0]) 1)) true false)
        (bi (nble ((lenL (takeN (lenL as1) as1)).add 1) 100000)
          (bi (nble i.succ (lenL ha))
            (bi (bi (tagIs 9 (nthL (bi (nbeq (nthL [nthL [nthL ha i] 0] 0).1 15) (nthL [nthL [nthL ha i] 0] 0).6 [nthL [nthL [nthL ha i] 0] 0]) 0)) true false)
              (bi (nble ((lenL (takeN (lenL as2) as2)).add 1) 100000)
                (J [0, 0, 1, 0, 1, 1] [{ tag := 16, p := 0, q := 0, r := 1, s := 0, cs := [{ tag := 24, p := pa, q := 0, r := 1, s := 0, cs := ra }, { tag := 24, p := pb, q := 0, r := 2, s := 0, cs := ha }, { tag := 24, p := pc, q := 0, r := 2, s := 0, cs := na }] }, { tag := 16, p := 1, q := 0, r := 0, s := 0, cs := takeN ((lenL (takeN (lenL as1) as1)).add 1) (appL (takeN (lenL as1) as1) [{ tag := 3, p := (nthL (bi (nbeq (nthL [nthL [nthL ha i] 0] 0).1 15) (nthL [nthL [nthL ha i] 0] 0).6 [nthL [nthL [nthL ha i] 0] 0]) 1).2, q := 0, r := 0, s := 0, cs := [] }]) }, { tag := 16, p := 1, q := 0, r := 0, s := 0, cs := takeN ((lenL (takeN (lenL as2) as2)).add 1) (appL (takeN (lenL as2) as2) [{ tag := 9, p := (nthL (bi (nbeq (nthL [nthL [nthL ha i] 0] 0).1 15) (nthL [nthL [nthL ha i] 0] 0).6 [nthL [nthL [nthL ha i] 0] 0]) 0).2, q := (nthL (bi (nbeq (nthL [nthL [nthL ha i] 0] 0).1 15) (nthL [nthL [nthL ha i] 0] 0).6 [nthL [nthL [nthL ha i] 0] 0]) 0).3, r := 0, s := 0, cs := [] }]) }, { tag := 16, p := p3, q := 0, r := 0, s := 0, cs := takeN (lenL as3) as3 }, { tag := 3, p := gt2 (fun a b => (a.add b).mod (kMod (kCode IntKind.i64))) i 1, q := 0, r := 0, s := 0, cs := [] }])
                (failR 211))
              (failR 201))
            (failR 205))
          (failR 211))
        (failR 201))
      (failR 205))
    (J [0, 0, 1, 0, 1, 1, 1] [{ tag := 16, p := 0, q := 0, r := 1, s := 0, cs := [{ tag := 24, p := pa, q := 0, r := 1, s := 0, cs := ra }, { tag := 24, p := pb, q := 0, r := 2, s := 0, cs := ha }, { tag := 24, p := pc, q := 0, r := 2, s := 0, cs := na }] }, { tag := 16, p := p1, q := 0, r := 0, s := 0, cs := takeN (lenL as1) as1 }, { tag := 16, p := p2, q := 0, r := 0, s := 0, cs := takeN (lenL as2) as2 }, { tag := 16, p := p3, q := 0, r := 0, s := 0, cs := takeN (lenL as3) as3 }, { tag := 3, p := 0, q := 0, r := 0, s := 0, cs := [] }])) := by kernel_rfl
theorem l12b (J : Jmp) (pa pb pc p1 p2 p3 i : Nat) (ra ha na as1 as2 as3 : List AV) : lblY Tryz.prog 57 lab12 (baseH Tryz.prog) R0 (finY Tryz.prog [.tmp 2, .tmp 3, .tmp 4] [22, 55, 55]) (bodyC Tryz.f12) J [0,0,1,0,1,1,1] [bxD [slP pa 1 ra, slP pb 2 ha, slP pc 2 na], lsD p1 as1, lsD p2 as2, lsD p3 as3, i64 i] =
  (bi (nbeq (bi (nb (nble (biased 3 (lenL na)) (biased 3 i))) 1 0) 1)
    (bi (nble i.succ (lenL na))
      (bi (bi (tagIs 9 (nthL (bi (nbeq (nthL [nthL [nthL na i] 0] 0).1 15) (nthL [nthL [nthL na i] 0] 0).6 [nthL [nthL [nthL na i] 0] 0]) 0)) true false)
        (bi (nble ((lenL (takeN (lenL as3) as3)).add 1) 100000)
          (J [0, 0, 1, 0, 1, 1, 1] [{ tag := 16, p := 0, q := 0, r := 1, s := 0, cs := [{ tag := 24, p := pa, q := 0, r := 1, s := 0, cs := ra }, { tag := 24, p := pb, q := 0, r := 2, s := 0, cs := ha }, { tag := 24, p := pc, q := 0, r := 2, s := 0, cs := na }] }, { tag := 16, p := p1, q := 0, r := 0, s := 0, cs := takeN (lenL as1) as1 }, { tag := 16, p := p2, q := 0, r := 0, s := 0, cs := takeN (lenL as2) as2 }, { tag := 16, p := 1, q := 0, r := 0, s := 0, cs := takeN ((lenL (takeN (lenL as3) as3)).add 1) (appL (takeN (lenL as3) as3) [{ tag := 9, p := (nthL (bi (nbeq (nthL [nthL [nthL na i] 0] 0).1 15) (nthL [nthL [nthL na i] 0] 0).6 [nthL [nthL [nthL na i] 0] 0]) 0).2, q := (nthL (bi (nbeq (nthL [nthL [nthL na i] 0] 0).1 15) (nthL [nthL [nthL na i] 0] 0).6 [nthL [nthL [nthL na i] 0] 0]) 0).3, r := 0, s := 0, cs := [] }]) }, { tag := 3, p := gt2 (fun a b => (a.add b).mod (kMod (kCode IntKind.i64))) i 1, q := 0, r := 0, s := 0, cs := [] }])
          (failR 211))
        (failR 201))
      (failR 205))
    (ansY { tag := 16, p := 0, q := 0, r := 0, s := 0, cs := [{ tag := 24, p := bi (nbeq p1 0) 0 1, q := 0, r := 1, s := 0, cs := takeN (lenL as1) as1 }, { tag := 24, p := bi (nbeq p2 0) 0 1, q := 0, r := 1, s := 0, cs := takeN (lenL as2) as2 }, { tag := 24, p := bi (nbeq p3 0) 0 1, q := 0, r := 1, s := 0, cs := takeN (lenL as3) as3 }] })) := by kernel_rfl

theorem body12 : Tryz.f12.body = some (bodyC Tryz.f12) := by kernel_rfl
theorem func12 : Tryz.prog.funcs[12]? = some Tryz.f12 := by kernel_rfl
theorem n12 : Tryz.f12.ntmps = 57 := by kernel_rfl
theorem res12 : Tryz.f12.results.toList = [.tmp 2, .tmp 3, .tmp 4] := by kernel_rfl
noncomputable def nmE (e : Nat × Nat × Nat) : AV := st e.1 e.2.1
noncomputable def idE (e : Nat × Nat × Nat) : AV := i64 e.2.2
theorem cell_pf1 (e : Nat × Nat × Nat) : nthL (bi (nbeq (nthL [nthL [prF e] 0] 0).1 15) (nthL [nthL [prF e] 0] 0).6 [nthL [nthL [prF e] 0] 0]) 1 = idE e := rfl
theorem cell_pf0 (e : Nat × Nat × Nat) : nthL (bi (nbeq (nthL [nthL [prF e] 0] 0).1 15) (nthL [nthL [prF e] 0] 0).6 [nthL [nthL [prF e] 0] 0]) 0 = nmE e := rfl
theorem cell_pu0 (e : Nat × Nat × Nat) : nthL (bi (nbeq (nthL [nthL [prU e] 0] 0).1 15) (nthL [nthL [prU e] 0] 0).6 [nthL [nthL [prU e] 0] 0]) 0 = nmE e := rfl
theorem tag_nmE (e : Nat × Nat × Nat) : tagIs 9 (nmE e) = true := rfl
theorem tag_idE (e : Nat × Nat × Nat) : tagIs 3 (idE e) = true := rfl
theorem mk_nmE (e : Nat × Nat × Nat) : ({ tag := 9, p := (nmE e).2, q := (nmE e).3, r := 0, s := 0, cs := [] } : AV) = nmE e := rfl
theorem mk_idE (e : Nat × Nat × Nat) : ({ tag := 3, p := (idE e).2, q := 0, r := 0, s := 0, cs := [] } : AV) = idE e := rfl
theorem i64_idE (e : Nat × Nat × Nat) : i64 (idE e).2 = idE e := rfl
theorem loop12b (pa pb pc p1 p2 : Nat) (h1 : nbeq p1 0 = false) (h2 : nbeq p2 0 = false) (ra ha as1 as2 : List AV) (X : List (Nat × Nat × Nat)) (hX : X.length ≤ 1000) : ∀ k i p3, nbeq p3 0 = false → i + k = X.length →
    jmpN Tryz.prog 57 lab12 (baseH Tryz.prog) R0 (finY Tryz.prog [.tmp 2, .tmp 3, .tmp 4] [22, 55, 55]) (bodyC Tryz.f12) (k + 1) [0,0,1,0,1,1,1] [bxD [slP pa 1 ra, slP pb 2 ha, slP pc 2 (X.map prU)], lsD p1 as1, lsD p2 as2, lsD p3 ((X.take i).map nmE), i64 i] = ansY (tupV [slP 1 1 as1, slP 1 1 as2, slP 1 1 (X.map nmE)]) := by
  intro k
  induction k with
  | zero =>
    intro i p3 h3 hi
    have e : i = X.length := by omega
    subst e
    rw [jmpN_succ, l12b]
    have hx : X.length < 2 ^ 63 := by omega
    simp only [bl_bi, n11, n01, lenL_map, biased_le hx hx, Nat.le_refl, decide_true, nb_t, bi_ff, List.take_length, h1, h2, h3]
    have e3 := takeN_self (X.map nmE)
    rw [lenL_map] at e3
    rw [takeN_self, takeN_self, e3]
    rfl
  | succ k ih =>
    intro i p3 h3 hi
    have hlt : i < X.length := by omega
    have hx : X.length < 2 ^ 63 := by omega
    have hi63 : i < 2 ^ 63 := by omega
    rw [jmpN_succ, l12b]
    rw [takeN_self, takeN_self, takeN_self]
    simp only [bl_bi, n11, n01, lenL_map, biased_le hx hi63, show ¬ X.length ≤ i by omega, decide_false, nb_f, bi_tt, ble_true.2 (show i.succ ≤ X.length from hlt), nthL_map prU X i hlt, cell_pu0, tag_nmE, mk_nmE, succ_mod hi63, mk_ls, mk_bx, mk_slP, mk_i64, List.length_take, Nat.min_eq_left (show i ≤ X.length by omega), ble_100k (show i ≤ 1000 by omega), i64_idE]
    rw [takeN_snocM nmE X i hlt]
    exact ih (i + 1) 1 rfl (by omega)
theorem loop12a (pa pb pc : Nat) (ra : List AV) (X Y : List (Nat × Nat × Nat)) (hX : X.length ≤ 1000) (hY : Y.length ≤ 1000) : ∀ k i p1 p2, nbeq p1 0 = false → nbeq p2 0 = false → i + k = X.length →
    jmpN Tryz.prog 57 lab12 (baseH Tryz.prog) R0 (finY Tryz.prog [.tmp 2, .tmp 3, .tmp 4] [22, 55, 55]) (bodyC Tryz.f12) (k + 1 + (Y.length + 1)) [0,0,1,0,1,1] [bxD [slP pa 1 ra, slP pb 2 (X.map prF), slP pc 2 (Y.map prU)], lsD p1 ((X.take i).map idE), lsD p2 ((X.take i).map nmE), lsD 2 [], i64 i] = ansY (tupV [slP 1 1 (X.map idE), slP 1 1 (X.map nmE), slP 1 1 (Y.map nmE)]) := by
  intro k
  induction k with
  | zero =>
    intro i p1 p2 h1 h2 hi
    have e : i = X.length := by omega
    subst e
    rw [show 0 + 1 + (Y.length + 1) = (Y.length + 1) + 1 by omega, jmpN_succ, l12a]
    rw [takeN_self, takeN_self, takeN_self]
    have hx : X.length < 2 ^ 63 := by omega
    simp only [bl_bi, n11, n01, lenL_map, biased_le hx hx, Nat.le_refl, decide_true, nb_t, bi_ff, List.take_length, mk_ls, mk_bx, mk_slP, mk_i64]
    have := loop12b pa pb pc p1 p2 h1 h2 ra (X.map prF) (X.map idE) (X.map nmE) Y hY Y.length 0 2 rfl (by omega)
    simp only [List.take_zero, List.map_nil] at this
    exact this
  | succ k ih =>
    intro i p1 p2 h1 h2 hi
    have hlt : i < X.length := by omega
    have hx : X.length < 2 ^ 63 := by omega
    have hi63 : i < 2 ^ 63 := by omega
    rw [show k + 1 + 1 + (Y.length + 1) = (k + 1 + (Y.length + 1)) + 1 by omega, jmpN_succ, l12a]
    rw [takeN_self, takeN_self, takeN_self]
    simp only [bl_bi, n11, n01, lenL_map, biased_le hx hi63, show ¬ X.length ≤ i by omega, decide_false, nb_f, bi_tt, ble_true.2 (show i.succ ≤ X.length from hlt), nthL_map prF X i hlt, cell_pf0, cell_pf1, tag_nmE, tag_idE, mk_nmE, mk_idE, succ_mod hi63, mk_ls, mk_bx, mk_slP, mk_i64, List.length_take, Nat.min_eq_left (show i ≤ X.length by omega), ble_100k (show i ≤ 1000 by omega), i64_idE]
    rw [takeN_snocM nmE X i hlt, takeN_snocM idE X i hlt]
    exact ih (i + 1) 1 1 rfl rfl (by omega)
end Go.Eng
namespace Go.Eng
open Go.RowKit Go.Proofs
theorem pure12 (m : Mt) (h : m.hs.length ≤ 1000) (hn : m.ns.length ≤ 1000) : PureAt Tryz.prog 12 [mtA m] (tupV [slP 1 1 (m.hs.map idE), slP 1 1 (m.hs.map nmE), slP 1 1 (m.ns.map nmE)]) := by
  unfold mtA
  have hl := loop12a m.pr m.ph m.pn (m.rs.map i64) m.hs m.ns h hn m.hs.length 0 2 2 rfl rfl (by omega)
  simp only [List.take_zero, List.map_nil] at hl
  exact pure_fn mixed globs func12 body12 n12 res12 R0_ok lab12 [22, 55, 55] (m.hs.length + 1 + (m.ns.length + 1)) ((s12 _ m.pr m.ph m.pn _ _ _).trans hl)
noncomputable section
def idL (l : List AV) : List AV := l.map fun v => cel v 1
def nmL (l : List AV) : List AV := l.map fun v => cel v 0
def rI (a b : AV) : Nat := refI a.p b.p
def rV (a b : AV) : Nat := refV (cel a 1).p (cel b 1).p
def rT (a b : AV) : Nat := refT (a.q, a.p) (b.q, b.p)
def Nt5 : Nat → Option Native := ntL [(12, natP Tryz.prog 12 [26] fun l => tupV [slP 1 1 (idL (cel (nthL l 0) 1).cs), slP 1 1 (nmL (cel (nthL l 0) 1).cs), slP 1 1 (nmL (cel (nthL l 0) 2).cs)]),
  (13, natP Tryz.prog 13 [22, 22] fun l => i64 (cmpF rI (nthL l 0).cs (nthL l 1).cs)),
  (14, natP Tryz.prog 14 [24, 24] fun l => i64 (cmpF rV (nthL l 0).cs (nthL l 1).cs)),
  (15, natP Tryz.prog 15 [55, 55] fun l => i64 (cmpF rT (nthL l 0).cs (nthL l 1).cs))]
def R5 : Rec := evN Tryz.prog Nt5 (fun _ => false) 2
def lab5 : Lab := labT [([0,0,1,0,1,1,1,1], [(11,1022),(12,0)])]
end
theorem R5_ok : RecOk Tryz.prog R5 := evN_ok mixed (ntL_cons (ntL_cons (ntL_cons (ntL_cons ntL_nil)))) noGor 2
end Go.Eng
namespace Go.Eng
open Go.RowKit Go.Proofs
/- saturateref26.Compare -/
theorem s5 (J : Jmp) (pa pb pc qa qb qc : Nat) (ra ha na rb hb nc : List AV) : (compY Tryz.prog 60 lab5 (finY Tryz.prog [.tmp 4] [3]) J [] (bodyC Tryz.f5) (finY Tryz.prog [.tmp 4] [3]) []).run R5 (setArgs 0 [aggV [slP pa 1 ra, slP pb 2 ha, slP pc 2 na], aggV [slP qa 1 rb, slP qb 2 hb, slP qc 2 nc]] noFr) (baseH Tryz.prog) =
  (bi (nbeq (okN (PureAt Tryz.prog 12 [{ tag := 15, p := 0, q := 0, r := 0, s := 0, cs := [{ tag := 24, p := pa, q := 0, r := 1, s := 0, cs := ra }, { tag := 24, p := pb, q := 0, r := 2, s := 0, cs := ha }, { tag := 24, p := pc, q := 0, r := 2, s := 0, cs := na }] }] { tag := 16, p := 0, q := 0, r := 0, s := 0, cs := [{ tag := 24, p := 1, q := 0, r := 1, s := 0, cs := idL ha }, { tag := 24, p := 1, q := 0, r := 1, s := 0, cs := nmL ha }, { tag := 24, p := 1, q := 0, r := 1, s := 0, cs := nmL na }] })) 1)
    (bi (nbeq (okN (PureAt Tryz.prog 12 [{ tag := 15, p := 0, q := 0, r := 0, s := 0, cs := [{ tag := 24, p := qa, q := 0, r := 1, s := 0, cs := rb }, { tag := 24, p := qb, q := 0, r := 2, s := 0, cs := hb }, { tag := 24, p := qc, q := 0, r := 2, s := 0, cs := nc }] }] { tag := 16, p := 0, q := 0, r := 0, s := 0, cs := [{ tag := 24, p := 1, q := 0, r := 1, s := 0, cs := idL hb }, { tag := 24, p := 1, q := 0, r := 1, s := 0, cs := nmL hb }, { tag := 24, p := 1, q := 0, r := 1, s := 0, cs := nmL nc }] })) 1)
      (bi (nbeq (okN (PureAt Tryz.prog 13 [{ tag := 24, p := pa, q := 0, r := 1, s := 0, cs := ra }, { tag := 24, p := qa, q := 0, r := 1, s := 0, cs := rb }] { tag := 3, p := cmpF (fun a b => refI a.p b.p) ra rb, q := 0, r := 0, s := 0, cs := [] })) 1)
        (bi (eqA 20 { tag := 24, p := 1, q := 0, r := 1, s := 0, cs := nmL nc } { tag := 24, p := 1, q := 0, r := 1, s := 0, cs := nmL nc })
          (bi (eqA 20 { tag := 24, p := 1, q := 0, r := 1, s := 0, cs := nmL na } { tag := 24, p := 1, q := 0, r := 1, s := 0, cs := nmL na })
            (bi (eqA 20 { tag := 24, p := 1, q := 0, r := 1, s := 0, cs := nmL hb } { tag := 24, p := 1, q := 0, r := 1, s := 0, cs := nmL hb })
              (bi (eqA 20 { tag := 24, p := 1, q := 0, r := 1, s := 0, cs := nmL ha } { tag := 24, p := 1, q := 0, r := 1, s := 0, cs := nmL ha })
                (bi (eqA 20 { tag := 24, p := qc, q := 0, r := 2, s := 0, cs := nc } { tag := 24, p := qc, q := 0, r := 2, s := 0, cs := nc })
                  (bi (eqA 20 { tag := 24, p := pc, q := 0, r := 2, s := 0, cs := na } { tag := 24, p := pc, q := 0, r := 2, s := 0, cs := na })
                    (bi (eqA 20 { tag := 24, p := 1, q := 0, r := 1, s := 0, cs := idL hb } { tag := 24, p := 1, q := 0, r := 1, s := 0, cs := idL hb })
                      (bi (eqA 20 { tag := 24, p := 1, q := 0, r := 1, s := 0, cs := idL ha } { tag := 24, p := 1, q := 0, r := 1, s := 0, cs := idL ha })
                        (bi (nbeq (okN (PureAt Tryz.prog 13 [{ tag := 24, p := 1, q := 0, r := 1, s := 0, cs := idL ha }, { tag := 24, p := 1, q := 0, r := 1, s := 0, cs := idL hb }] { tag := 3, p := cmpF (fun a b => refI a.p b.p) (idL ha) (idL hb), q := 0, r := 0, s := 0, cs := [] })) 1)
                          (bi (eqA 20 { tag := 24, p := 1, q := 0, r := 1, s := 0, cs := nmL nc } { tag := 24, p := 1, q := 0, r := 1, s := 0, cs := nmL nc })
                            (bi (eqA 20 { tag := 24, p := 1, q := 0, r := 1, s := 0, cs := nmL na } { tag := 24, p := 1, q := 0, r := 1, s := 0, cs := nmL na })
                              (bi (eqA 20 { tag := 24, p := 1, q := 0, r := 1, s := 0, cs := nmL hb } { tag := 24, p := 1, q := 0, r := 1, s := 0, cs := nmL hb })
                                (bi (eqA 20 { tag := 24, p := 1, q := 0, r := 1, s := 0, cs := nmL ha } { tag := 24, p := 1, q := 0, r := 1, s := 0, cs := nmL ha })
                                  (bi (eqA 20 { tag := 24, p := qc, q := 0, r := 2, s := 0, cs := nc } { tag := 24, p := qc, q := 0, r := 2, s := 0, cs := nc })
                                    (bi (eqA 20 { tag := 24, p := pc, q := 0, r := 2, s := 0, cs := na } { tag := 24, p := pc, q := 0, r := 2, s := 0, cs := na })
                                      (bi (nbeq (okN (PureAt Tryz.prog 14 [{ tag := 24, p := pc, q := 0, r := 2, s := 0, cs := na }, { tag := 24, p := qc, q := 0, r := 2, s := 0, cs := nc }] { tag := 3, p := cmpF (fun a b => refV (cel a 1).p (cel b 1).p) na nc, q := 0, r := 0, s := 0, cs := [] })) 1)
                                        (bi (eqA 20 { tag := 24, p := 1, q := 0, r := 1, s := 0, cs := nmL nc } { tag := 24, p := 1, q := 0, r := 1, s := 0, cs := nmL nc })
                                          (bi (eqA 20 { tag := 24, p := 1, q := 0, r := 1, s := 0, cs := nmL na } { tag := 24, p := 1, q := 0, r := 1, s := 0, cs := nmL na })
                                            (bi (eqA 20 { tag := 24, p := 1, q := 0, r := 1, s := 0, cs := nmL hb } { tag := 24, p := 1, q := 0, r := 1, s := 0, cs := nmL hb })
                                              (bi (eqA 20 { tag := 24, p := 1, q := 0, r := 1, s := 0, cs := nmL ha } { tag := 24, p := 1, q := 0, r := 1, s := 0, cs := nmL ha })
                                                (bi (nbeq (okN (PureAt Tryz.prog 15 [{ tag := 24, p := 1, q := 0, r := 1, s := 0, cs := nmL ha }, { tag := 24, p := 1, q := 0, r := 1, s := 0, cs := nmL hb }] { tag := 3, p := cmpF (fun a b => refT (a.q, a.p) (b.q, b.p)) (nmL ha) (nmL hb), q := 0, r := 0, s := 0, cs := [] })) 1)
                                                  (bi (eqA 20 { tag := 24, p := 1, q := 0, r := 1, s := 0, cs := nmL nc } { tag := 24, p := 1, q := 0, r := 1, s := 0, cs := nmL nc })
                                                    (bi (eqA 20 { tag := 24, p := 1, q := 0, r := 1, s := 0, cs := nmL na } { tag := 24, p := 1, q := 0, r := 1, s := 0, cs := nmL na })
                                                      (bi (nbeq (okN (PureAt Tryz.prog 15 [{ tag := 24, p := 1, q := 0, r := 1, s := 0, cs := nmL na }, { tag := 24, p := 1, q := 0, r := 1, s := 0, cs := nmL nc }] { tag := 3, p := cmpF (fun a b => refT (a.q, a.p) (b.q, b.p)) (nmL na) (nmL nc), q := 0, r := 0, s := 0, cs := [] })) 1)
                                                        (bi (eqA 20 { tag := 24, p := 1, q := 0, r := 1, s := 0, cs := nmL nc } { tag := 24, p := 1, q := 0, r := 1, s := 0, cs := nmL nc })
                                                          (bi (eqA 20 { tag := 24, p := 1, q := 0, r := 1, s := 0, cs := nmL na } { tag := 24, p := 1, q := 0, r := 1, s := 0, cs := nmL na })
                                                            (bi (eqA 20 { tag := 24, p := 1, q := 0, r := 1, s := 0, cs := nmL hb } { tag := 24, p := 1, q := 0, r := 1, s := 0, cs := nmL hb })
                                                              (bi (eqA 20 { tag := 24, p := 1, q := 0, r := 1, s := 0, cs := nmL ha } { tag := 24, p := 1, q := 0, r := 1, s := 0, cs := nmL ha })
                                                                (bi (eqA 20 { tag := 24, p := qc, q := 0, r := 2, s := 0, cs := nc } { tag := 24, p := qc, q := 0, r := 2, s := 0, cs := nc })
                                                                  (bi (eqA 20 { tag := 24, p := pc, q := 0, r := 2, s := 0, cs := na } { tag := 24, p := pc, q := 0, r := 2, s := 0, cs := na })
                                                                    (bi (eqA 20 { tag := 24, p := 1, q := 0, r := 1, s := 0, cs := idL hb } { tag := 24, p := 1, q := 0, r := 1, s := 0, cs := idL hb })
                                                                      (bi (eqA 20 { tag := 24, p := 1, q := 0, r := 1, s := 0, cs := idL ha } { tag := 24, p := 1, q := 0, r := 1, s := 0, cs := idL ha })
                                                                        (bi (eqA 20 { tag := 24, p := qa, q := 0, r := 1, s := 0, cs := rb } { tag := 24, p := qa, q := 0, r := 1, s := 0, cs := rb })
                                                                          (bi (eqA 20 { tag := 24, p := pa, q := 0, r := 1, s := 0, cs := ra } { tag := 24, p := pa, q := 0, r := 1, s := 0, cs := ra })
                                                                            (J [0, 0, 1, 0, 1, 1, 1, 1] [{ tag := 24, p := 1, q := 0, r := 1, s := 0, cs := [{ tag := 3, p := cmpF (fun a b => refI a.p b.p) ra rb, q := 0, r := 0, s := 0, cs := [] }, { tag := 3, p := cmpF (fun a b => refI a.p b.p) (idL ha) (idL hb), q := 0, r := 0, s := 0, cs := [] }, { tag := 3, p := cmpF (fun a b => refV (cel a 1).p (cel b 1).p) na nc, q := 0, r := 0, s := 0, cs := [] }, { tag := 3, p := cmpF (fun a b => refT (a.q, a.p) (b.q, b.p)) (nmL ha) (nmL hb), q := 0, r := 0, s := 0, cs := [] }, { tag := 3, p := cmpF (fun a b => refT (a.q, a.p) (b.q, b.p)) (nmL na) (nmL nc), q := 0, r := 0, s := 0, cs := [] }] }, { tag := 3, p := 0, q := 0, r := 0, s := 0, cs := [] }])
                                                                            (failR 90))
                                                                          (failR 90))
                                                                        (failR 90))
                                                                      (failR 90))
                                                                    (failR 90))
                                                                  (failR 90))
                                                                (failR 90))
                                                              (failR 90))
                                                            (failR 90))
                                                          (failR 90))
                                                        (failR 301))
                                                      (failR 90))
                                                    (failR 90))
                                                  (failR 301))
                                                (failR 90))
                                              (failR 90))
                                            (failR 90))
                                          (failR 90))
                                        (failR 301))
                                      (failR 90))
                                    (failR 90))
                                  (failR 90))
                                (failR 90))
                              (failR 90))
                            (failR 90))
                          (failR 301))
                        (failR 90))
                      (failR 90))
                    (failR 90))
                  (failR 90))
                (failR 90))
              (failR 90))
            (failR 90))
          (failR 90))
        (failR 301))
      (failR 301))
    (failR 301)) := by kernel_rfl
theorem l5 (J : Jmp) (i : Nat) (ls : List AV) : lblY Tryz.prog 60 lab5 (baseH Tryz.prog) R5 (finY Tryz.prog [.tmp 4] [3]) (bodyC Tryz.f5) J [0,0,1,0,1,1,1,1] [slP 1 1 ls, i64 i] =
  (bi (nbeq (bi (nb (nble (biased 3 (lenL ls)) (biased 3 i))) 1 0) 1)
    (bi (nble i.succ (lenL ls))
      (bi (bi (tagIs 3 (nthL (bi (nbeq (nthL [nthL ls i] 0).1 15) (nthL [nthL ls i] 0).6 [nthL [nthL ls i] 0]) 0)) true false)
        (bi (nbeq (bi (nb (nbeq (nthL (bi (nbeq (nthL [nthL ls i] 0).1 15) (nthL [nthL ls i] 0).6 [nthL [nthL ls i] 0]) 0).2 0)) 1 0) 1)
          (bi (nble i.succ (lenL ls))
            (bi (bi (tagIs 3 (nthL (bi (nbeq (nthL [nthL ls i] 0).1 15) (nthL [nthL ls i] 0).6 [nthL [nthL ls i] 0]) 0)) true false)
              (ansY { tag := 3, p := (nthL (bi (nbeq (nthL [nthL ls i] 0).1 15) (nthL [nthL ls i] 0).6 [nthL [nthL ls i] 0]) 0).2, q := 0, r := 0, s := 0, cs := [] })
              (failR 201))
            (failR 205))
          (J [0, 0, 1, 0, 1, 1, 1, 1] [{ tag := 24, p := 1, q := 0, r := 1, s := 0, cs := ls }, { tag := 3, p := gt2 (fun a b => (a.add b).mod (kMod (kCode IntKind.i64))) i 1, q := 0, r := 0, s := 0, cs := [] }]))
        (failR 201))
      (failR 205))
    (ansY { tag := 3, p := 0, q := 0, r := 0, s := 0, cs := [] })) := by kernel_rfl

theorem body5 : Tryz.f5.body = some (bodyC Tryz.f5) := by kernel_rfl
theorem func5 : Tryz.prog.funcs[5]? = some Tryz.f5 := by kernel_rfl
theorem n5 : Tryz.f5.ntmps = 60 := by kernel_rfl
theorem res5 : Tryz.f5.results.toList = [.tmp 4] := by kernel_rfl
theorem eqA_list (n : Nat) (t p q r s : Nat) (cs : List AV) (h : ∀ c ∈ cs, eqA n c c = true) : eqA (n + 1) ⟨t, p, q, r, s, cs⟩ ⟨t, p, q, r, s, cs⟩ = true := by
  have key : ∀ l : List AV, (∀ c ∈ l, eqA n c c = true) → (List.rec (motive := fun _ => List AV → Bool) (fun l => List.rec (motive := fun _ => Bool) true (fun _ _ _ => false) l) (fun x _ ihl l => List.rec (motive := fun _ => Bool) false (fun y l _ => bi (eqA n x y) (ihl l) false) l) l l : Bool) = true := by
    intro l
    induction l with
    | nil => intro _; rfl
    | cons a l ih =>
      intro h
      show bi (eqA n a a) _ false = true
      rw [h a (by simp), bi_true]
      exact ih fun c hc => h c (by simp [hc])
  show bi (nbeq t t) (bi (nbeq p p) (bi (nbeq q q) (bi (nbeq r r) (bi (nbeq s s) _ false) false) false) false) false = true
  rw [nbeq_refl, nbeq_refl, nbeq_refl, nbeq_refl, nbeq_refl]
  exact key cs h
theorem eqA_map {α : Type} (n p r : Nat) (f : α → AV) (X : List α) (h : ∀ a, eqA n (f a) (f a) = true) : eqA (n + 1) ⟨24, p, 0, r, 0, X.map f⟩ ⟨24, p, 0, r, 0, X.map f⟩ = true :=
  eqA_list n 24 p 0 r 0 _ fun c hc => by
    obtain ⟨a, _, rfl⟩ := List.mem_map.1 hc
    exact h a
theorem eq_i64 (n x : Nat) : eqA (n + 1) (i64 x) (i64 x) = true := eqA_list n 3 x 0 0 0 [] fun c hc => by cases hc
theorem eq_u64 (n x : Nat) : eqA (n + 1) (u64 x) (u64 x) = true := eqA_list n 7 x 0 0 0 [] fun c hc => by cases hc
theorem eq_st (n q x : Nat) : eqA (n + 1) (st q x) (st q x) = true := eqA_list n 9 x q 0 0 [] fun c hc => by cases hc
theorem eq_prF (n : Nat) (e : Nat × Nat × Nat) : eqA (n + 2) (prF e) (prF e) = true := eqA_list (n + 1) 15 0 0 0 0 _ fun c hc => by
  simp only [List.mem_cons, List.not_mem_nil, or_false] at hc
  rcases hc with rfl | rfl
  · exact eq_st n _ _
  · exact eq_i64 n _
theorem eq_prU (n : Nat) (e : Nat × Nat × Nat) : eqA (n + 2) (prU e) (prU e) = true := eqA_list (n + 1) 15 0 0 0 0 _ fun c hc => by
  simp only [List.mem_cons, List.not_mem_nil, or_false] at hc
  rcases hc with rfl | rfl
  · exact eq_st n _ _
  · exact eq_u64 n _
theorem idL_F (X : List (Nat × Nat × Nat)) : idL (X.map prF) = X.map idE := by unfold idL; rw [List.map_map]; rfl
theorem nmL_F (X : List (Nat × Nat × Nat)) : nmL (X.map prF) = X.map nmE := by unfold nmL; rw [List.map_map]; rfl
theorem nmL_U (X : List (Nat × Nat × Nat)) : nmL (X.map prU) = X.map nmE := by unfold nmL; rw [List.map_map]; rfl
/-- the first that is not 0 -/
noncomputable def firstL : List Nat → Nat
  | [] => 0
  | x :: l => bi (nbeq x 0) (firstL l) x
theorem loop5 (X : List Nat) (hX : X.length < 2 ^ 63) : ∀ k i, i + k = X.length → jmpN Tryz.prog 60 lab5 (baseH Tryz.prog) R5 (finY Tryz.prog [.tmp 4] [3]) (bodyC Tryz.f5) (k + 1) [0,0,1,0,1,1,1,1] [slP 1 1 (X.map i64), i64 i] = ansY (i64 (firstL (X.drop i))) := by
  intro k
  induction k with
  | zero =>
    intro i hi
    have e : i = X.length := by omega
    subst e
    rw [jmpN_succ, l5]
    simp only [bl_bi, n11, n01, lenL_map, biased_le hX hX, Nat.le_refl, decide_true, nb_t, bi_ff, List.drop_length]
    rfl
  | succ k ih =>
    intro i hi
    have hlt : i < X.length := by omega
    have hi63 : i < 2 ^ 63 := by omega
    have e1 : X.drop i = X[i] :: X.drop (i + 1) := List.drop_eq_getElem_cons hlt
    rw [jmpN_succ, l5]
    simp only [bl_bi, n11, n01, lenL_map, biased_le hX hi63, show ¬ X.length ≤ i by omega, decide_false, nb_f, bi_tt, ble_true.2 (show i.succ ≤ X.length from hlt), nthL_map i64 X i hlt, cell_i64, tagIs_i64, i64_p, succ_mod hi63, mk_slP, mk_i64]
    rw [e1]
    show _ = ansY (i64 (bi (nbeq X[i] 0) (firstL (X.drop (i + 1))) X[i]))
    cases nbeq X[i] 0
    · simp only [nb_f, bi_tt, bi_ff]
    · simp only [nb_t, bi_tt, bi_ff]
      exact ih (i + 1) (by omega)
noncomputable def refM (a b : Mt) : Nat := firstN (cmpF refI a.rs b.rs) (cmpF (fun a b => refI a.2.2 b.2.2) a.hs b.hs) (cmpF (fun a b => refV a.2.2 b.2.2) a.ns b.ns) (cmpF (fun a b => refT (a.1, a.2.1) (b.1, b.2.1)) a.hs b.hs) (cmpF (fun a b => refT (a.1, a.2.1) (b.1, b.2.1)) a.ns b.ns)
/-- of the sizes that the law lets in, and in range -/
structure Mt.fit (m : Mt) : Prop where
  r : m.rs.length ≤ 1000
  h : m.hs.length ≤ 1000
  n : m.ns.length ≤ 1000
  rv : ∀ x ∈ m.rs, x < 2 ^ 64
  hv : ∀ e ∈ m.hs, e.2.2 < 2 ^ 64
  nv : ∀ e ∈ m.ns, e.2.2 < 2 ^ 64
theorem pure5 (a b : Mt) (ha : a.fit) (hb : b.fit) : PureAt Tryz.prog 5 [mtA a, mtA b] (i64 (refM a b)) := by
  have q1 := okN_one.2 (pure12 a ha.h ha.n)
  have q2 := okN_one.2 (pure12 b hb.h hb.n)
  have l1 := ha.r
  have l2 := ha.h
  have l3 := ha.n
  have l4 := hb.r
  have l5 := hb.h
  have l6 := hb.n
  have q3 := okN_one.2 (pure13 a.pr b.pr a.rs b.rs (by omega) (by omega))
  have q4 := okN_one.2 (pure13 1 1 (a.hs.map fun e => e.2.2) (b.hs.map fun e => e.2.2) (by rw [List.length_map]; omega) (by rw [List.length_map]; omega))
  have q5 := okN_one.2 (pure14 a.pn b.pn a.ns b.ns (by omega) (by omega) ha.nv hb.nv)
  have q6 := okN_one.2 (pure15 1 1 (a.hs.map fun e => (e.1, e.2.1)) (b.hs.map fun e => (e.1, e.2.1)) (by rw [List.length_map]; omega) (by rw [List.length_map]; omega))
  have q7 := okN_one.2 (pure15 1 1 (a.ns.map fun e => (e.1, e.2.1)) (b.ns.map fun e => (e.1, e.2.1)) (by rw [List.length_map]; omega) (by rw [List.length_map]; omega))
  have mi : ∀ X : List (Nat × Nat × Nat), (X.map fun e => e.2.2).map i64 = X.map idE := fun X => by rw [List.map_map]; rfl
  have ms : ∀ X : List (Nat × Nat × Nat), (X.map fun e => (e.1, e.2.1)).map stP = X.map nmE := fun X => by rw [List.map_map]; rfl
  rw [mi, mi, cmpF_map] at q4
  rw [ms, ms, cmpF_map] at q6 q7
  unfold mtA at q1 q2 ⊢
  refine pure_fn mixed globs func5 body5 n5 res5 R5_ok lab5 [3] 6 ((s5 _ a.pr a.ph a.pn b.pr b.ph b.pn _ _ _ _ _ _).trans ?_)
  have v1 : cmpF (fun a b => refI a.p b.p) (a.rs.map i64) (b.rs.map i64) = cmpF refI a.rs b.rs := by rw [cmpF_map]; rfl
  have v2 : cmpF (fun a b => refI a.p b.p) (a.hs.map idE) (b.hs.map idE) = cmpF (fun a b => refI a.2.2 b.2.2) a.hs b.hs := by rw [cmpF_map]; rfl
  have v3 : cmpF (fun a b => refV (cel a 1).p (cel b 1).p) (a.ns.map prU) (b.ns.map prU) = cmpF (fun a b => refV a.2.2 b.2.2) a.ns b.ns := by rw [cmpF_map]; rfl
  have v4 : ∀ X Y : List (Nat × Nat × Nat), cmpF (fun a b => refT (a.q, a.p) (b.q, b.p)) (X.map nmE) (Y.map nmE) = cmpF (fun a b => refT (a.1, a.2.1) (b.1, b.2.1)) X Y := fun X Y => by rw [cmpF_map]; rfl
  simp only [idL_F, nmL_F, nmL_U, v1, v2, v3, v4]
  simp only [slP, aggV, tupV, i64] at q1 q2 q3 q4 q5 q6 q7
  rw [q1, q2, q3, q4, q5, q6, q7]
  simp only [n11, bi_tt, eqA_map 19 _ _ i64 _ (eq_i64 18), eqA_map 19 _ _ prU _ (eq_prU 17), eqA_map 19 _ _ nmE _ (fun e => eq_st 18 e.1 e.2.1), eqA_map 19 _ _ idE _ (fun e => eq_i64 18 e.2.2)]
  have hl := loop5 [cmpF refI a.rs b.rs, cmpF (fun a b => refI a.2.2 b.2.2) a.hs b.hs, cmpF (fun a b => refV a.2.2 b.2.2) a.ns b.ns, cmpF (fun a b => refT (a.1, a.2.1) (b.1, b.2.1)) a.hs b.hs, cmpF (fun a b => refT (a.1, a.2.1) (b.1, b.2.1)) a.ns b.ns] (by show (5 : Nat) < _; omega) 5 0 rfl
  refine Eq.trans hl ?_
  refine congrArg (fun n => ansY (i64 n)) ?_
  show firstL [_, _, _, _, _] = _
  unfold refM firstN
  show bi _ (bi _ (bi _ (bi _ (bi _ 0 _) _) _) _) _ = _
  generalize cmpF (fun a b => refT (a.1, a.2.1) (b.1, b.2.1)) a.ns b.ns = z
  cases h : nbeq z 0
  · rfl
  · rw [beq_true.1 h]; rfl
end Go.Eng
namespace Go.Eng
open Go.RowKit Go.Proofs Go.Proofs.YtfbgcggkgelaaaaGreatDoor
noncomputable section
def cellsD (d : DataW Unit) : List AV := (dav 4 d).getD []
def L26 : List (Nat × List AV) := [(2, cellsD Rows.laid_math_bits_deBruijn32tab), (3, cellsD Rows.laid_math_bits_deBruijn64tab), (1, cellsD Rows.laid_internal_strconv_uint64pow10)]
def mg26 (f : Nat) : Bool := nbeq f 124
end
theorem eval_lives : isTrueR (evN Tryz.prog (ntL []) mg26 3000 (mk1 13 4) [] (globH Tryz.prog L26)) = true := by kernel_rfl
end Go.Eng
namespace Go.Eng
open Go.RowKit Go.Proofs Go.Proofs.YtfbgcggkgelaaaaGreatDoor
/- the law: its natives -/
noncomputable section
def refA (a b : AV) : Nat := firstN (cmpF rI (cel a 0).cs (cel b 0).cs) (cmpF rI (idL (cel a 1).cs) (idL (cel b 1).cs)) (cmpF rV (cel a 2).cs (cel b 2).cs) (cmpF rT (nmL (cel a 1).cs) (nmL (cel b 1).cs)) (cmpF rT (nmL (cel a 2).cs) (nmL (cel b 2).cs))
def Nt26 : Nat → Option Native := ntL [(4, livesN L26), (5, natP Tryz.prog 5 [26, 26] fun l => i64 (refA (nthL l 0) (nthL l 1))), (6, natP Tryz.prog 6 [26, 26] fun l => i64 (cmpA (nthL l 0) (nthL l 1))), (7, natP Tryz.prog 7 [26, 26] fun l => bV (nbeq (cmpA (nthL l 0) (nthL l 1)) 0))]
def R26 : Rec := evN Tryz.prog Nt26 (fun _ => false) 2
end
theorem ntL_consN {P : Program} {k : Nat} {g : Native} {l : List (Nat × Native)} (hk : CallOk P k g) (h : NatOk P (ntL l)) : NatOk P (ntL ((k, g) :: l)) := by
  intro f g' hg
  have hg' : bi (nbeq k f) (some g) (ntL l f) = some g' := hg
  cases hb : nbeq k f
  · rw [hb, bi_false] at hg'; exact h f g' hg'
  · rw [hb, bi_true] at hg'
    cases hg'
    rw [← beq_true.1 hb]
    exact hk
theorem globs4 : Tryz.prog.globals.size = 4 := by kernel_rfl
theorem L26_lt : ∀ g ∈ L26, g.1 < Tryz.prog.globals.size := by
  have h : (L26.all fun g => nble (Nat.succ g.1) 4) = true := by kernel_rfl
  intro g hg
  rw [globs4]
  exact ble_true.1 (List.all_eq_true.1 h g hg)
theorem L26_low : ∀ g ∈ L26, ∀ c ∈ g.2, c.tag < 10 := by
  have h : (L26.all fun g => g.2.all fun c => nble (Nat.succ c.tag) 10) = true := by kernel_rfl
  intro g hg c hc
  exact ble_true.1 (List.all_eq_true.1 (List.all_eq_true.1 h g hg) c hc)
theorem R26_ok : RecOk Tryz.prog R26 := evN_ok mixed (ntL_consN (livesN_ok mixed noGor ntL_nil globs L26_lt L26_low eval_lives) (ntL_cons (ntL_cons (ntL_cons ntL_nil)))) noGor 2
end Go.Eng
namespace Go.Eng
open Go.RowKit Go.Proofs
/- the plain law: what the two compute is the same; turned round it is the negative -/
theorem biased3 {x : Nat} : biased 3 x = (x + 2 ^ 63) % 2 ^ 64 := gt_eq _ x
theorem biased3_inj {x y : Nat} (hx : x < 2 ^ 64) (hy : y < 2 ^ 64) (h : biased 3 x = biased 3 y) : x = y := by
  rw [biased3, biased3] at h; omega
theorem nbeq_of {x y : Nat} (h : x = y) : nbeq x y = true := beq_true.2 h
theorem nble_f {x y : Nat} (h : ¬ x ≤ y) : nble x y = false := by rw [← Bool.not_eq_true, ble_true]; exact h
theorem refI_eq {x y : Nat} (hx : x < 2 ^ 64) (hy : y < 2 ^ 64) : refI x y = cmpN x y := by
  unfold refI cmpN
  by_cases h : x = y
  · subst h
    rw [nbeq_of rfl, ble_true.2 (Nat.le_refl _)]; rfl
  · rw [beq_false.2 h]
    by_cases h1 : biased 3 y ≤ biased 3 x
    · have h2 : ¬ biased 3 x ≤ biased 3 y := fun h3 => h (biased3_inj hx hy (by omega))
      rw [ble_true.2 h1, nble_f h2]; rfl
    · rw [nble_f h1]; rfl
theorem refV_eq (x y : Nat) : refV x y = cmpU x y := by
  unfold refV
  by_cases h : x = y
  · subst h
    unfold cmpU
    rw [nbeq_of rfl, ble_true.2 (Nat.le_refl _)]; rfl
  · rw [beq_false.2 h]; rfl
theorem strLt_iff (a b : AV) : strLt a b = true ↔ (a.p * 256 ^ b.q < b.p * 256 ^ a.q ∨ (a.p * 256 ^ b.q = b.p * 256 ^ a.q ∧ a.q < b.q)) := by
  unfold strLt
  rw [gt2_eq, gt2_eq]
  unfold strLtN
  rw [bi_or, bi_and, ble_true, beq_true, ble_true]
  exact Iff.rfl
theorem strLt_asym {a b : AV} (h : strLt a b = true) : strLt b a = false := by
  rw [← Bool.not_eq_true]
  intro h2
  rw [strLt_iff] at h h2
  omega
theorem strLt_same {a b : AV} (h : strLt a b = false) (h2 : strLt b a = false) : a.q = b.q ∧ a.p = b.p := by
  rw [← Bool.not_eq_true, strLt_iff] at h h2
  have hq : a.q = b.q := by omega
  refine ⟨hq, ?_⟩
  rw [hq] at h h2
  have : a.p * 256 ^ b.q = b.p * 256 ^ b.q := by omega
  exact Nat.eq_of_mul_eq_mul_right (Nat.pos_of_ne_zero (by simp)) this
theorem refT_eq (x y : Nat × Nat) : refT x y = cmpS (st x.1 x.2) (st y.1 y.2) := by
  unfold refT cmpS
  by_cases h : x.1 = y.1 ∧ x.2 = y.2
  · have e : y = x := by cases x; cases y; simp_all
    subst e
    rw [nbeq_of rfl, nbeq_of rfl]
    cases h1 : strLt (st y.1 y.2) (st y.1 y.2)
    · rfl
    · exact absurd (strLt_asym h1) (by rw [h1]; simp)
  · have e : bi (nbeq x.1 y.1) (nbeq x.2 y.2) false = false := by
      rw [← Bool.not_eq_true, bi_and, beq_true, beq_true]; exact h
    rw [e]
    cases h1 : strLt (st x.1 x.2) (st y.1 y.2)
    · cases h2 : strLt (st y.1 y.2) (st x.1 x.2)
      · exact absurd (strLt_same h1 h2) (by show ¬ (x.1 = y.1 ∧ x.2 = y.2); exact h)
      · rfl
    · rfl
theorem cmpF_congr {α : Type} {g g' : α → α → Nat} : ∀ {X Y : List α}, (∀ x ∈ X, ∀ y ∈ Y, g x y = g' x y) → cmpF g X Y = cmpF g' X Y
  | [], [], _ => rfl
  | [], _ :: _, _ => rfl
  | _ :: _, [], _ => rfl
  | x :: X, y :: Y, h => by
    show bi (nbeq (g x y) 0) (cmpF g X Y) (g x y) = bi (nbeq (g' x y) 0) (cmpF g' X Y) (g' x y)
    rw [h x (by simp) y (by simp), cmpF_congr fun a ha b hb => h a (by simp [ha]) b (by simp [hb])]
theorem ref_is (a b : Mt) (ha : a.fit) (hb : b.fit) : refM a b = cmpM a b := by
  unfold refM cmpM
  rw [cmpL_F]
  rw [cmpF_congr (g := refI) (g' := cmpN) fun x hx y hy => refI_eq (ha.rv x hx) (hb.rv y hy)]
  rw [cmpF_congr (X := a.hs) (g := fun a b => refI a.2.2 b.2.2) (g' := fun a b => cmpN a.2.2 b.2.2) fun x hx y hy => refI_eq (ha.hv x hx) (hb.hv y hy)]
  rw [cmpF_congr (X := a.ns) (g := fun a b => refV a.2.2 b.2.2) (g' := fun a b => cmpU a.2.2 b.2.2) fun x hx y hy => refV_eq _ _]
  rw [cmpF_congr (X := a.hs) (g := fun a b => refT (a.1, a.2.1) (b.1, b.2.1)) (g' := fun a b => cmpS (st a.1 a.2.1) (st b.1 b.2.1)) fun x hx y hy => refT_eq _ _]
  rw [cmpF_congr (X := a.ns) (g := fun a b => refT (a.1, a.2.1) (b.1, b.2.1)) (g' := fun a b => cmpS (st a.1 a.2.1) (st b.1 b.2.1)) fun x hx y hy => refT_eq _ _]
/-- y is the negative of x, both of three values -/
def Opp (x y : Nat) : Prop := (x = 0 ∧ y = 0) ∨ (x = 1 ∧ y = 18446744073709551615) ∨ (x = 18446744073709551615 ∧ y = 1)
theorem Opp.neg {x y : Nat} (h : Opp x y) : y = negN 3 x := by
  rcases h with ⟨rfl, rfl⟩ | ⟨rfl, rfl⟩ | ⟨rfl, rfl⟩ <;> decide +kernel
theorem Opp.zero {x y : Nat} (h : Opp x y) : nbeq x 0 = nbeq y 0 := by
  rcases h with ⟨rfl, rfl⟩ | ⟨rfl, rfl⟩ | ⟨rfl, rfl⟩ <;> rfl
theorem Opp.bi {x y c d : Nat} (h : Opp x y) (h2 : Opp c d) : Opp (bi (nbeq x 0) c x) (bi (nbeq y 0) d y) := by
  rw [← h.zero]
  cases nbeq x 0
  · exact h
  · exact h2
theorem opp_ord {c : Nat} (x y : Nat) (h : biased c x = biased c y → True) : Opp (bi (nble (biased c y) (biased c x)) (bi (nble (biased c x) (biased c y)) 0 1) 18446744073709551615) (bi (nble (biased c x) (biased c y)) (bi (nble (biased c y) (biased c x)) 0 1) 18446744073709551615) := by
  by_cases h1 : biased c y ≤ biased c x
  · by_cases h2 : biased c x ≤ biased c y
    · rw [ble_true.2 h1, ble_true.2 h2]; exact .inl ⟨rfl, rfl⟩
    · rw [ble_true.2 h1, nble_f h2]; exact .inr (.inl ⟨rfl, rfl⟩)
  · rw [nble_f h1, ble_true.2 (by omega)]; exact .inr (.inr ⟨rfl, rfl⟩)
theorem opp_S (x y : AV) : Opp (cmpS x y) (cmpS y x) := by
  unfold cmpS
  cases h1 : strLt x y
  · cases h2 : strLt y x
    · exact .inl ⟨rfl, rfl⟩
    · exact .inr (.inl ⟨rfl, rfl⟩)
  · rw [strLt_asym h1]; exact .inr (.inr ⟨rfl, rfl⟩)
theorem opp_F {α : Type} {g : α → α → Nat} (hg : ∀ x y, Opp (g x y) (g y x)) : ∀ X Y : List α, Opp (cmpF g X Y) (cmpF g Y X)
  | [], [] => .inl ⟨rfl, rfl⟩
  | [], _ :: _ => .inr (.inr ⟨rfl, rfl⟩)
  | _ :: _, [] => .inr (.inl ⟨rfl, rfl⟩)
  | x :: X, y :: Y => (hg x y).bi (opp_F hg X Y)
theorem opp_M (a b : Mt) : Opp (cmpM a b) (cmpM b a) := by
  unfold cmpM firstN
  rw [cmpL_F, cmpL_F]
  have h1 := opp_F (g := cmpN) (fun x y => opp_ord (c := 3) x y fun _ => trivial) a.rs b.rs
  have h2 := opp_F (g := fun (a b : Nat × Nat × Nat) => cmpN a.2.2 b.2.2) (fun x y => opp_ord (c := 3) x.2.2 y.2.2 fun _ => trivial) a.hs b.hs
  have h3 := opp_F (g := fun (a b : Nat × Nat × Nat) => cmpU a.2.2 b.2.2) (fun x y => opp_ord (c := 7) x.2.2 y.2.2 fun _ => trivial) a.ns b.ns
  have h4 := opp_F (g := fun (a b : Nat × Nat × Nat) => cmpS (st a.1 a.2.1) (st b.1 b.2.1)) (fun x y => opp_S _ _) a.hs b.hs
  have h5 := opp_F (g := fun (a b : Nat × Nat × Nat) => cmpS (st a.1 a.2.1) (st b.1 b.2.1)) (fun x y => opp_S _ _) a.ns b.ns
  exact h1.bi (h2.bi (h3.bi (h4.bi h5)))
end Go.Eng
namespace Go.Eng
open Go.RowKit Go.Proofs Go.Proofs.YtfbgcggkgelaaaaGreatDoor
/- the law itself -/
theorem e3 (J : Jmp) (pa pb pc qa qb qc : Nat) (ra ha na rb hb nc : List AV) : (compY Tryz.prog 60 (fun _ => none) (finY Tryz.prog [.tmp 4] [4]) J [] (bodyC Tryz.f3) (finY Tryz.prog [.tmp 4] [4]) []).run R26 (setArgs 0 [aggV [slP pa 1 ra, slP pb 2 ha, slP pc 2 na], aggV [slP qa 1 rb, slP qb 2 hb, slP qc 2 nc]] noFr) (globH Tryz.prog L26) =
  (bi (nbeq (bi (nb (nble (biased 3 (gt2 (fun a b => (a.add b).mod (kMod (kCode IntKind.i64))) (gt2 (fun a b => (a.add b).mod (kMod (kCode IntKind.i64))) (lenL ra) (lenL ha)) (lenL na))) 9223372036854775928)) 1 0) 0)
    (bi (nbeq (bi (nb (nble (biased 3 (gt2 (fun a b => (a.add b).mod (kMod (kCode IntKind.i64))) (gt2 (fun a b => (a.add b).mod (kMod (kCode IntKind.i64))) (lenL rb) (lenL hb)) (lenL nc))) 9223372036854775928)) 1 0) 1)
      (ansY { tag := 8, p := 1, q := 0, r := 0, s := 0, cs := [] })
      (bi (nbeq (okN (PureAt Tryz.prog 5 [{ tag := 15, p := 0, q := 0, r := 0, s := 0, cs := [{ tag := 24, p := pa, q := 0, r := 1, s := 0, cs := ra }, { tag := 24, p := pb, q := 0, r := 2, s := 0, cs := ha }, { tag := 24, p := pc, q := 0, r := 2, s := 0, cs := na }] }, { tag := 15, p := 0, q := 0, r := 0, s := 0, cs := [{ tag := 24, p := qa, q := 0, r := 1, s := 0, cs := rb }, { tag := 24, p := qb, q := 0, r := 2, s := 0, cs := hb }, { tag := 24, p := qc, q := 0, r := 2, s := 0, cs := nc }] }] { tag := 3, p := refA { tag := 15, p := 0, q := 0, r := 0, s := 0, cs := [{ tag := 24, p := pa, q := 0, r := 1, s := 0, cs := ra }, { tag := 24, p := pb, q := 0, r := 2, s := 0, cs := ha }, { tag := 24, p := pc, q := 0, r := 2, s := 0, cs := na }] } { tag := 15, p := 0, q := 0, r := 0, s := 0, cs := [{ tag := 24, p := qa, q := 0, r := 1, s := 0, cs := rb }, { tag := 24, p := qb, q := 0, r := 2, s := 0, cs := hb }, { tag := 24, p := qc, q := 0, r := 2, s := 0, cs := nc }] }, q := 0, r := 0, s := 0, cs := [] })) 1)
        (bi (nbeq (okN (PureAt Tryz.prog 6 [{ tag := 15, p := 0, q := 0, r := 0, s := 0, cs := [{ tag := 24, p := pa, q := 0, r := 1, s := 0, cs := ra }, { tag := 24, p := pb, q := 0, r := 2, s := 0, cs := ha }, { tag := 24, p := pc, q := 0, r := 2, s := 0, cs := na }] }, { tag := 15, p := 0, q := 0, r := 0, s := 0, cs := [{ tag := 24, p := qa, q := 0, r := 1, s := 0, cs := rb }, { tag := 24, p := qb, q := 0, r := 2, s := 0, cs := hb }, { tag := 24, p := qc, q := 0, r := 2, s := 0, cs := nc }] }] { tag := 3, p := cmpA { tag := 15, p := 0, q := 0, r := 0, s := 0, cs := [{ tag := 24, p := pa, q := 0, r := 1, s := 0, cs := ra }, { tag := 24, p := pb, q := 0, r := 2, s := 0, cs := ha }, { tag := 24, p := pc, q := 0, r := 2, s := 0, cs := na }] } { tag := 15, p := 0, q := 0, r := 0, s := 0, cs := [{ tag := 24, p := qa, q := 0, r := 1, s := 0, cs := rb }, { tag := 24, p := qb, q := 0, r := 2, s := 0, cs := hb }, { tag := 24, p := qc, q := 0, r := 2, s := 0, cs := nc }] }, q := 0, r := 0, s := 0, cs := [] })) 1)
          (bi (nbeq (bi (nbeq (cmpA { tag := 15, p := 0, q := 0, r := 0, s := 0, cs := [{ tag := 24, p := pa, q := 0, r := 1, s := 0, cs := ra }, { tag := 24, p := pb, q := 0, r := 2, s := 0, cs := ha }, { tag := 24, p := pc, q := 0, r := 2, s := 0, cs := na }] } { tag := 15, p := 0, q := 0, r := 0, s := 0, cs := [{ tag := 24, p := qa, q := 0, r := 1, s := 0, cs := rb }, { tag := 24, p := qb, q := 0, r := 2, s := 0, cs := hb }, { tag := 24, p := qc, q := 0, r := 2, s := 0, cs := nc }] }) (refA { tag := 15, p := 0, q := 0, r := 0, s := 0, cs := [{ tag := 24, p := pa, q := 0, r := 1, s := 0, cs := ra }, { tag := 24, p := pb, q := 0, r := 2, s := 0, cs := ha }, { tag := 24, p := pc, q := 0, r := 2, s := 0, cs := na }] } { tag := 15, p := 0, q := 0, r := 0, s := 0, cs := [{ tag := 24, p := qa, q := 0, r := 1, s := 0, cs := rb }, { tag := 24, p := qb, q := 0, r := 2, s := 0, cs := hb }, { tag := 24, p := qc, q := 0, r := 2, s := 0, cs := nc }] })) 1 0) 1)
            (bi (nbeq (okN (PureAt Tryz.prog 6 [{ tag := 15, p := 0, q := 0, r := 0, s := 0, cs := [{ tag := 24, p := qa, q := 0, r := 1, s := 0, cs := rb }, { tag := 24, p := qb, q := 0, r := 2, s := 0, cs := hb }, { tag := 24, p := qc, q := 0, r := 2, s := 0, cs := nc }] }, { tag := 15, p := 0, q := 0, r := 0, s := 0, cs := [{ tag := 24, p := pa, q := 0, r := 1, s := 0, cs := ra }, { tag := 24, p := pb, q := 0, r := 2, s := 0, cs := ha }, { tag := 24, p := pc, q := 0, r := 2, s := 0, cs := na }] }] { tag := 3, p := cmpA { tag := 15, p := 0, q := 0, r := 0, s := 0, cs := [{ tag := 24, p := qa, q := 0, r := 1, s := 0, cs := rb }, { tag := 24, p := qb, q := 0, r := 2, s := 0, cs := hb }, { tag := 24, p := qc, q := 0, r := 2, s := 0, cs := nc }] } { tag := 15, p := 0, q := 0, r := 0, s := 0, cs := [{ tag := 24, p := pa, q := 0, r := 1, s := 0, cs := ra }, { tag := 24, p := pb, q := 0, r := 2, s := 0, cs := ha }, { tag := 24, p := pc, q := 0, r := 2, s := 0, cs := na }] }, q := 0, r := 0, s := 0, cs := [] })) 1)
              (bi (nbeq (bi (nbeq (cmpA { tag := 15, p := 0, q := 0, r := 0, s := 0, cs := [{ tag := 24, p := qa, q := 0, r := 1, s := 0, cs := rb }, { tag := 24, p := qb, q := 0, r := 2, s := 0, cs := hb }, { tag := 24, p := qc, q := 0, r := 2, s := 0, cs := nc }] } { tag := 15, p := 0, q := 0, r := 0, s := 0, cs := [{ tag := 24, p := pa, q := 0, r := 1, s := 0, cs := ra }, { tag := 24, p := pb, q := 0, r := 2, s := 0, cs := ha }, { tag := 24, p := pc, q := 0, r := 2, s := 0, cs := na }] }) (negN 3 (refA { tag := 15, p := 0, q := 0, r := 0, s := 0, cs := [{ tag := 24, p := pa, q := 0, r := 1, s := 0, cs := ra }, { tag := 24, p := pb, q := 0, r := 2, s := 0, cs := ha }, { tag := 24, p := pc, q := 0, r := 2, s := 0, cs := na }] } { tag := 15, p := 0, q := 0, r := 0, s := 0, cs := [{ tag := 24, p := qa, q := 0, r := 1, s := 0, cs := rb }, { tag := 24, p := qb, q := 0, r := 2, s := 0, cs := hb }, { tag := 24, p := qc, q := 0, r := 2, s := 0, cs := nc }] }))) 1 0) 1)
                (bi (nbeq (okN (PureAt Tryz.prog 7 [{ tag := 15, p := 0, q := 0, r := 0, s := 0, cs := [{ tag := 24, p := pa, q := 0, r := 1, s := 0, cs := ra }, { tag := 24, p := pb, q := 0, r := 2, s := 0, cs := ha }, { tag := 24, p := pc, q := 0, r := 2, s := 0, cs := na }] }, { tag := 15, p := 0, q := 0, r := 0, s := 0, cs := [{ tag := 24, p := qa, q := 0, r := 1, s := 0, cs := rb }, { tag := 24, p := qb, q := 0, r := 2, s := 0, cs := hb }, { tag := 24, p := qc, q := 0, r := 2, s := 0, cs := nc }] }] { tag := 8, p := bi (nbeq (cmpA { tag := 15, p := 0, q := 0, r := 0, s := 0, cs := [{ tag := 24, p := pa, q := 0, r := 1, s := 0, cs := ra }, { tag := 24, p := pb, q := 0, r := 2, s := 0, cs := ha }, { tag := 24, p := pc, q := 0, r := 2, s := 0, cs := na }] } { tag := 15, p := 0, q := 0, r := 0, s := 0, cs := [{ tag := 24, p := qa, q := 0, r := 1, s := 0, cs := rb }, { tag := 24, p := qb, q := 0, r := 2, s := 0, cs := hb }, { tag := 24, p := qc, q := 0, r := 2, s := 0, cs := nc }] }) 0) 1 0, q := 0, r := 0, s := 0, cs := [] })) 1)
                  (bi (nbeq (bi (nbeq (bi (nbeq (cmpA { tag := 15, p := 0, q := 0, r := 0, s := 0, cs := [{ tag := 24, p := pa, q := 0, r := 1, s := 0, cs := ra }, { tag := 24, p := pb, q := 0, r := 2, s := 0, cs := ha }, { tag := 24, p := pc, q := 0, r := 2, s := 0, cs := na }] } { tag := 15, p := 0, q := 0, r := 0, s := 0, cs := [{ tag := 24, p := qa, q := 0, r := 1, s := 0, cs := rb }, { tag := 24, p := qb, q := 0, r := 2, s := 0, cs := hb }, { tag := 24, p := qc, q := 0, r := 2, s := 0, cs := nc }] }) 0) 1 0) (bi (nbeq (refA { tag := 15, p := 0, q := 0, r := 0, s := 0, cs := [{ tag := 24, p := pa, q := 0, r := 1, s := 0, cs := ra }, { tag := 24, p := pb, q := 0, r := 2, s := 0, cs := ha }, { tag := 24, p := pc, q := 0, r := 2, s := 0, cs := na }] } { tag := 15, p := 0, q := 0, r := 0, s := 0, cs := [{ tag := 24, p := qa, q := 0, r := 1, s := 0, cs := rb }, { tag := 24, p := qb, q := 0, r := 2, s := 0, cs := hb }, { tag := 24, p := qc, q := 0, r := 2, s := 0, cs := nc }] }) 0) 1 0)) 1 0) 1)
                    (ansY { tag := 8, p := 1, q := 0, r := 0, s := 0, cs := [] })
                    (ansY { tag := 8, p := 0, q := 0, r := 0, s := 0, cs := [] }))
                  (failR 301))
                (ansY { tag := 8, p := 0, q := 0, r := 0, s := 0, cs := [] }))
              (failR 301))
            (ansY { tag := 8, p := 0, q := 0, r := 0, s := 0, cs := [] }))
          (failR 301))
        (failR 301)))
    (ansY { tag := 8, p := 1, q := 0, r := 0, s := 0, cs := [] })) := by kernel_rfl

theorem body3 : Tryz.f3.body = some (bodyC Tryz.f3) := by kernel_rfl
theorem func3' : Tryz.prog.funcs[3]? = some Tryz.f3 := by kernel_rfl
theorem n3 : Tryz.f3.ntmps = 60 := by kernel_rfl
theorem res3 : Tryz.f3.results.toList = [.tmp 4] := by kernel_rfl
/-- what the row says of a match -/
structure Mt.big (m : Mt) : Prop where
  r : m.rs.length ≤ reachBytes
  h : m.hs.length ≤ reachBytes
  n : m.ns.length ≤ reachBytes
  rv : ∀ x ∈ m.rs, x < 2 ^ 64
  hv : ∀ e ∈ m.hs, e.2.2 < 2 ^ 64
  nv : ∀ e ∈ m.ns, e.2.2 < 2 ^ 64
theorem reach_lt : reachBytes < 2 ^ 48 := by decide +kernel
theorem Mt.big.ok {m : Mt} (h : m.big) : m.ok := by
  have := reach_lt
  exact ⟨by have := h.r; omega, by have := h.h; omega, by have := h.n; omega⟩
theorem sum3 {x y z : Nat} (hx : x ≤ reachBytes) (hy : y ≤ reachBytes) (hz : z ≤ reachBytes) : gt2 (fun a b => (a.add b).mod (kMod (kCode IntKind.i64))) (gt2 (fun a b => (a.add b).mod (kMod (kCode IntKind.i64))) x y) z = x + y + z := by
  have hr := reach_lt
  have hk : kMod (kCode IntKind.i64) = 2 ^ 64 := by decide +kernel
  have e : ∀ a b, gt2 (fun a b => (a.add b).mod (kMod (kCode IntKind.i64))) a b = (a + b) % 2 ^ 64 := by
    intro a b
    rw [gt2_eq, hk]; rfl
  rw [e, e]
  omega
theorem gtr120 {s : Nat} (h : s < 2 ^ 62) : nble (biased 3 s) 9223372036854775928 = decide (s ≤ 120) := by
  rw [biased3, Bool.eq_iff_iff, ble_true, decide_eq_true_eq]
  omega
theorem refA_M (a b : Mt) : refA (mtA a) (mtA b) = refM a b := by
  show firstN (cmpF rI (a.rs.map i64) (b.rs.map i64)) (cmpF rI (idL (a.hs.map prF)) (idL (b.hs.map prF))) (cmpF rV (a.ns.map prU) (b.ns.map prU)) (cmpF rT (nmL (a.hs.map prF)) (nmL (b.hs.map prF))) (cmpF rT (nmL (a.ns.map prU)) (nmL (b.ns.map prU))) = _
  simp only [idL_F, nmL_F, nmL_U, cmpF_map]
  rfl
theorem b0 (c : Bool) {α : Type} (x y : α) : bi (nbeq (bi c 1 0) 0) x y = bi c y x := by cases c <;> rfl
theorem law3 (J : Jmp) (a b : Mt) (ha : a.big) (hb : b.big) : (compY Tryz.prog 60 (fun _ => none) (finY Tryz.prog [.tmp 4] [4]) J [] (bodyC Tryz.f3) (finY Tryz.prog [.tmp 4] [4]) []).run R26 (setArgs 0 [aggV [slP a.pr 1 (a.rs.map i64), slP a.ph 2 (a.hs.map prF), slP a.pn 2 (a.ns.map prU)], aggV [slP b.pr 1 (b.rs.map i64), slP b.ph 2 (b.hs.map prF), slP b.pn 2 (b.ns.map prU)]] noFr) (globH Tryz.prog L26) = ansY (bV true) := by
  have l1 := ha.r
  have l2 := ha.h
  have l3 := ha.n
  have l4 := hb.r
  have l5 := hb.h
  have l6 := hb.n
  have hr := reach_lt
  have v1 := refA_M a b
  have v2 := cmpA_M a b
  have v3 := cmpA_M b a
  have hrule := opp_M a b
  have q6 := okN_one.2 (pure6 a b ha.ok hb.ok)
  have q6b := okN_one.2 (pure6 b a hb.ok ha.ok)
  have q7 := okN_one.2 (pure7 a b ha.ok hb.ok)
  have hfit : a.rs.length + a.hs.length + a.ns.length ≤ 120 → b.rs.length + b.hs.length + b.ns.length ≤ 120 → okN (PureAt Tryz.prog 5 [mtA a, mtA b] (i64 (refM a b))) = 1 ∧ refM a b = cmpM a b := by
    intro h1 h2
    have fa : a.fit := ⟨by omega, by omega, by omega, ha.rv, ha.hv, ha.nv⟩
    have fb : b.fit := ⟨by omega, by omega, by omega, hb.rv, hb.hv, hb.nv⟩
    exact ⟨okN_one.2 (pure5 a b fa fb), ref_is a b fa fb⟩
  unfold mtA at v1 v2 v3 q6 q6b q7 hfit
  refine (e3 J a.pr a.ph a.pn b.pr b.ph b.pn _ _ _ _ _ _).trans ?_
  simp only [lenL_map, sum3 l1 l2 l3, sum3 l4 l5 l6]
  rw [gtr120 (by omega), gtr120 (by omega)]
  simp only [bl_bi, b0]
  by_cases h1 : a.rs.length + a.hs.length + a.ns.length ≤ 120
  · by_cases h2 : b.rs.length + b.hs.length + b.ns.length ≤ 120
    · obtain ⟨q5, e5⟩ := hfit h1 h2
      simp only [slP, aggV, bV, mk1, i64] at v1 v2 v3 q5 q6 q6b q7
      simp only [h1, h2, decide_true, nb_t, bi_ff, v1, v2, v3, e5]
      rw [e5] at q5
      rw [q5, q6, q6b, q7]
      simp only [n11, bi_tt, nbeq_refl, ← hrule.neg]
      rfl
    · simp only [h1, h2, decide_true, decide_false, nb_t, nb_f, bi_ff, bi_tt]
      rfl
  · simp only [h1, decide_false, nb_f, bi_tt]
    rfl
theorem law_calls (a b : Mt) (ha : a.big) (hb : b.big) {W : World} {vals : List Value} (hW : LaidL W L26) (hw : Tryz.prog.globals.size ≤ W.heap.size) (hargs : FVs (allZ W) [mtA a, mtA b] vals) : Calls Tryz.prog 3 vals.toArray W fun e W' => e = .returned (.bool true) ∧ Below W.heap.size W W' := by
  unfold mtA at hargs
  exact law_ok mixed func3' body3 n3 res3 R26_ok globs L26_lt L26_low (lab := fun _ => none) (ts := [4]) (n := 0) (law3 _ a b ha hb) hW hw hargs
end Go.Eng
