
/- A part of the proof that the evaluator in GnC, and the driver in GnZ, answer as the model does; no conditions. -/
import Derived.Test.YtfmoohdaimlggaaGreatDoorGnHa
namespace Go.Eng
open Go.RowKit Go.Proofs
noncomputable section
/- a pattern at a width: the result, and whether the widths agree -/
mutual
def atP (w : Nat) : Tm → Tm × Bool
  | .mk op wd v nq np _ l0 => if l0.length = 0 then (.mk op (if wd = 0 then w else wd) (if wd = 0 ∧ op = 2 then cutN w v else v) nq np 0 [], true) else
    match atPs w l0 with
    | none => (zeroT, false)
    | some bs => (.mk op (wdP op wd v (bs.map Tm.w)).1 v nq np 1 bs, decide ((wdP op wd v (bs.map Tm.w)).2 = 0))
def atPs (w : Nat) : List Tm → Option (List Tm)
  | [] => some []
  | a :: l => if (atP w a).2 = true then (match atPs w l with | none => none | some bs => some ((atP w a).1 :: bs)) else none
end
end
end Go.Eng
namespace Go.Eng
open Go.RowKit Go.Proofs
noncomputable section
/-- the guard that a value stands for -/
def gk (v : AV) : Nat := (nthL v.cs 0).p
def ga (v : AV) : Tm := unTm (tmV (nthL v.cs 1).p (nthL v.cs 2).p (nthL v.cs 3).p (nthL v.cs 4).q (nthL v.cs 4).p (nthL v.cs 5).p (nthL v.cs 5).cs)
def gb (v : AV) : Tm := unTm (tmV (nthL v.cs 6).p (nthL v.cs 7).p (nthL v.cs 8).p (nthL v.cs 9).q (nthL v.cs 9).p (nthL v.cs 10).p (nthL v.cs 10).cs)
end
end Go.Eng
namespace Go.Eng
open Go.RowKit Go.Proofs
theorem s69 (J : Jmp) (x y z lp : Nat) (ll : List AV) : (compY Tryz.prog 144 lab69 (finY Tryz.prog [.tmp 8, .tmp 9] [3, 32]) J [] (bodyC Tryz.f69) (finY Tryz.prog [.tmp 8, .tmp 9] [3, 32]) []).run RE (setArgs 0 [i64 x, i64 y, u64 z, slP lp 1 ll] noFr) (baseH Tryz.prog) =
  (bi (nbeq (okN (PureAt Tryz.prog 131 [⟨3, x, 0, 0, 0, []⟩] ⟨8, bi (knN x) 1 0, 0, 0, 0, []⟩)) 1)
 (bi (nbeq (Nat.sub 1 (bi (knN x) 1 0)) 0)
 (bi (nbeq (okN (PureAt Tryz.prog 132 [⟨3, x, 0, 0, 0, []⟩] ⟨3, arN x, 0, 0, 0, []⟩)) 1)
 (bi (nbeq (bi (nb (nbeq (lenL ll) (arN x))) 1 0) 1)
 (ansY ⟨16, 0, 0, 0, 0, [⟨3, 0, 0, 0, 0, []⟩, ⟨3, 4, 0, 0, 0, []⟩]⟩)
 (J [0, 0, 1, 0, 1, 1] [⟨3, x, 0, 0, 0, []⟩, ⟨3, y, 0, 0, 0, []⟩, ⟨7, z, 0, 0, 0, []⟩, ⟨24, lp, 0, 1, 0, ll⟩, ⟨24, lp, 0, 1, 0, ll⟩, ⟨3, lenL ll, 0, 0, 0, []⟩, ⟨3, 0, 0, 0, 0, []⟩]))
 (failR 301))
 (ansY ⟨16, 0, 0, 0, 0, [⟨3, 0, 0, 0, 0, []⟩, ⟨3, 4, 0, 0, 0, []⟩]⟩))
 (failR 301)) := by kernel_rfl
theorem s76 (J : Jmp) (x y z lp : Nat) (ll : List AV) : (compY Tryz.prog 133 lab76 (finY Tryz.prog [.tmp 8, .tmp 9] [3, 32]) J [] (bodyC Tryz.f76) (finY Tryz.prog [.tmp 8, .tmp 9] [3, 32]) []).run RE (setArgs 0 [i64 x, i64 y, u64 z, slP lp 1 ll] noFr) (baseH Tryz.prog) =
  (bi (nbeq (okN (PureAt Tryz.prog 125 [⟨3, x, 0, 0, 0, []⟩] ⟨3, arR x, 0, 0, 0, []⟩)) 1)
 (bi (nbeq (bi (nb (nble 9223372036854775808 (biased 3 (arR x)))) 1 0) 0)
 (bi (nbeq (okN (PureAt Tryz.prog 125 [⟨3, x, 0, 0, 0, []⟩] ⟨3, arR x, 0, 0, 0, []⟩)) 1)
 (bi (nbeq (bi (nb (nbeq (lenL ll) (arR x))) 1 0) 1)
 (ansY ⟨16, 0, 0, 0, 0, [⟨3, 0, 0, 0, 0, []⟩, ⟨3, 4, 0, 0, 0, []⟩]⟩)
 (J [0, 0, 1, 0, 1, 1] [⟨3, x, 0, 0, 0, []⟩, ⟨3, y, 0, 0, 0, []⟩, ⟨7, z, 0, 0, 0, []⟩, ⟨24, lp, 0, 1, 0, ll⟩, ⟨3, lenL ll, 0, 0, 0, []⟩, ⟨3, 0, 0, 0, 0, []⟩]))
 (failR 301))
 (ansY ⟨16, 0, 0, 0, 0, [⟨3, 0, 0, 0, 0, []⟩, ⟨3, 4, 0, 0, 0, []⟩]⟩))
 (failR 301)) := by kernel_rfl
theorem l69_x_1_0 (J : Jmp) (x y z lp a : Nat) : lblY Tryz.prog 144 lab69 (baseH Tryz.prog) RE (finY Tryz.prog [.tmp 8, .tmp 9] [3, 32]) (bodyC Tryz.f69) J [0,0,1,0,1,1] [i64 x, i64 y, u64 z, slP lp 1 [i64 a], slP lp 1 [i64 a], i64 1, i64 0] =
  (bi (nbeq (okN (PureAt Tryz.prog 133 [⟨3, a, 0, 0, 0, []⟩] ⟨8, bi (insN a) 1 0, 0, 0, 0, []⟩)) 1)
 (bi (nbeq (Nat.sub 1 (bi (insN a) 1 0)) 1)
 (ansY ⟨16, 0, 0, 0, 0, [⟨3, 0, 0, 0, 0, []⟩, ⟨3, 3, 0, 0, 0, []⟩]⟩)
 (J [0, 0, 1, 0, 1, 1] [⟨3, x, 0, 0, 0, []⟩, ⟨3, y, 0, 0, 0, []⟩, ⟨7, z, 0, 0, 0, []⟩, ⟨24, lp, 0, 1, 0, [⟨3, a, 0, 0, 0, []⟩]⟩, ⟨24, lp, 0, 1, 0, [⟨3, a, 0, 0, 0, []⟩]⟩, ⟨3, 1, 0, 0, 0, []⟩, ⟨3, 1, 0, 0, 0, []⟩]))
 (failR 301)) := by kernel_rfl
theorem l69_x_2_0 (J : Jmp) (x y z lp a b : Nat) : lblY Tryz.prog 144 lab69 (baseH Tryz.prog) RE (finY Tryz.prog [.tmp 8, .tmp 9] [3, 32]) (bodyC Tryz.f69) J [0,0,1,0,1,1] [i64 x, i64 y, u64 z, slP lp 1 [i64 a, i64 b], slP lp 1 [i64 a, i64 b], i64 2, i64 0] =
  (bi (nbeq (okN (PureAt Tryz.prog 133 [⟨3, a, 0, 0, 0, []⟩] ⟨8, bi (insN a) 1 0, 0, 0, 0, []⟩)) 1)
 (bi (nbeq (Nat.sub 1 (bi (insN a) 1 0)) 1)
 (ansY ⟨16, 0, 0, 0, 0, [⟨3, 0, 0, 0, 0, []⟩, ⟨3, 3, 0, 0, 0, []⟩]⟩)
 (J [0, 0, 1, 0, 1, 1] [⟨3, x, 0, 0, 0, []⟩, ⟨3, y, 0, 0, 0, []⟩, ⟨7, z, 0, 0, 0, []⟩, ⟨24, lp, 0, 1, 0, [⟨3, a, 0, 0, 0, []⟩, ⟨3, b, 0, 0, 0, []⟩]⟩, ⟨24, lp, 0, 1, 0, [⟨3, a, 0, 0, 0, []⟩, ⟨3, b, 0, 0, 0, []⟩]⟩, ⟨3, 2, 0, 0, 0, []⟩, ⟨3, 1, 0, 0, 0, []⟩]))
 (failR 301)) := by kernel_rfl
theorem l69_x_2_1 (J : Jmp) (x y z lp a b : Nat) : lblY Tryz.prog 144 lab69 (baseH Tryz.prog) RE (finY Tryz.prog [.tmp 8, .tmp 9] [3, 32]) (bodyC Tryz.f69) J [0,0,1,0,1,1] [i64 x, i64 y, u64 z, slP lp 1 [i64 a, i64 b], slP lp 1 [i64 a, i64 b], i64 2, i64 1] =
  (bi (nbeq (okN (PureAt Tryz.prog 133 [⟨3, b, 0, 0, 0, []⟩] ⟨8, bi (insN b) 1 0, 0, 0, 0, []⟩)) 1)
 (bi (nbeq (Nat.sub 1 (bi (insN b) 1 0)) 1)
 (ansY ⟨16, 0, 0, 0, 0, [⟨3, 0, 0, 0, 0, []⟩, ⟨3, 3, 0, 0, 0, []⟩]⟩)
 (J [0, 0, 1, 0, 1, 1] [⟨3, x, 0, 0, 0, []⟩, ⟨3, y, 0, 0, 0, []⟩, ⟨7, z, 0, 0, 0, []⟩, ⟨24, lp, 0, 1, 0, [⟨3, a, 0, 0, 0, []⟩, ⟨3, b, 0, 0, 0, []⟩]⟩, ⟨24, lp, 0, 1, 0, [⟨3, a, 0, 0, 0, []⟩, ⟨3, b, 0, 0, 0, []⟩]⟩, ⟨3, 2, 0, 0, 0, []⟩, ⟨3, 2, 0, 0, 0, []⟩]))
 (failR 301)) := by kernel_rfl
theorem l69_x_3_0 (J : Jmp) (x y z lp a b c : Nat) : lblY Tryz.prog 144 lab69 (baseH Tryz.prog) RE (finY Tryz.prog [.tmp 8, .tmp 9] [3, 32]) (bodyC Tryz.f69) J [0,0,1,0,1,1] [i64 x, i64 y, u64 z, slP lp 1 [i64 a, i64 b, i64 c], slP lp 1 [i64 a, i64 b, i64 c], i64 3, i64 0] =
  (bi (nbeq (okN (PureAt Tryz.prog 133 [⟨3, a, 0, 0, 0, []⟩] ⟨8, bi (insN a) 1 0, 0, 0, 0, []⟩)) 1)
 (bi (nbeq (Nat.sub 1 (bi (insN a) 1 0)) 1)
 (ansY ⟨16, 0, 0, 0, 0, [⟨3, 0, 0, 0, 0, []⟩, ⟨3, 3, 0, 0, 0, []⟩]⟩)
 (J [0, 0, 1, 0, 1, 1] [⟨3, x, 0, 0, 0, []⟩, ⟨3, y, 0, 0, 0, []⟩, ⟨7, z, 0, 0, 0, []⟩, ⟨24, lp, 0, 1, 0, [⟨3, a, 0, 0, 0, []⟩, ⟨3, b, 0, 0, 0, []⟩, ⟨3, c, 0, 0, 0, []⟩]⟩, ⟨24, lp, 0, 1, 0, [⟨3, a, 0, 0, 0, []⟩, ⟨3, b, 0, 0, 0, []⟩, ⟨3, c, 0, 0, 0, []⟩]⟩, ⟨3, 3, 0, 0, 0, []⟩, ⟨3, 1, 0, 0, 0, []⟩]))
 (failR 301)) := by kernel_rfl
theorem l69_x_3_1 (J : Jmp) (x y z lp a b c : Nat) : lblY Tryz.prog 144 lab69 (baseH Tryz.prog) RE (finY Tryz.prog [.tmp 8, .tmp 9] [3, 32]) (bodyC Tryz.f69) J [0,0,1,0,1,1] [i64 x, i64 y, u64 z, slP lp 1 [i64 a, i64 b, i64 c], slP lp 1 [i64 a, i64 b, i64 c], i64 3, i64 1] =
  (bi (nbeq (okN (PureAt Tryz.prog 133 [⟨3, b, 0, 0, 0, []⟩] ⟨8, bi (insN b) 1 0, 0, 0, 0, []⟩)) 1)
 (bi (nbeq (Nat.sub 1 (bi (insN b) 1 0)) 1)
 (ansY ⟨16, 0, 0, 0, 0, [⟨3, 0, 0, 0, 0, []⟩, ⟨3, 3, 0, 0, 0, []⟩]⟩)
 (J [0, 0, 1, 0, 1, 1] [⟨3, x, 0, 0, 0, []⟩, ⟨3, y, 0, 0, 0, []⟩, ⟨7, z, 0, 0, 0, []⟩, ⟨24, lp, 0, 1, 0, [⟨3, a, 0, 0, 0, []⟩, ⟨3, b, 0, 0, 0, []⟩, ⟨3, c, 0, 0, 0, []⟩]⟩, ⟨24, lp, 0, 1, 0, [⟨3, a, 0, 0, 0, []⟩, ⟨3, b, 0, 0, 0, []⟩, ⟨3, c, 0, 0, 0, []⟩]⟩, ⟨3, 3, 0, 0, 0, []⟩, ⟨3, 2, 0, 0, 0, []⟩]))
 (failR 301)) := by kernel_rfl
theorem l69_x_3_2 (J : Jmp) (x y z lp a b c : Nat) : lblY Tryz.prog 144 lab69 (baseH Tryz.prog) RE (finY Tryz.prog [.tmp 8, .tmp 9] [3, 32]) (bodyC Tryz.f69) J [0,0,1,0,1,1] [i64 x, i64 y, u64 z, slP lp 1 [i64 a, i64 b, i64 c], slP lp 1 [i64 a, i64 b, i64 c], i64 3, i64 2] =
  (bi (nbeq (okN (PureAt Tryz.prog 133 [⟨3, c, 0, 0, 0, []⟩] ⟨8, bi (insN c) 1 0, 0, 0, 0, []⟩)) 1)
 (bi (nbeq (Nat.sub 1 (bi (insN c) 1 0)) 1)
 (ansY ⟨16, 0, 0, 0, 0, [⟨3, 0, 0, 0, 0, []⟩, ⟨3, 3, 0, 0, 0, []⟩]⟩)
 (J [0, 0, 1, 0, 1, 1] [⟨3, x, 0, 0, 0, []⟩, ⟨3, y, 0, 0, 0, []⟩, ⟨7, z, 0, 0, 0, []⟩, ⟨24, lp, 0, 1, 0, [⟨3, a, 0, 0, 0, []⟩, ⟨3, b, 0, 0, 0, []⟩, ⟨3, c, 0, 0, 0, []⟩]⟩, ⟨24, lp, 0, 1, 0, [⟨3, a, 0, 0, 0, []⟩, ⟨3, b, 0, 0, 0, []⟩, ⟨3, c, 0, 0, 0, []⟩]⟩, ⟨3, 3, 0, 0, 0, []⟩, ⟨3, 3, 0, 0, 0, []⟩]))
 (failR 301)) := by kernel_rfl
theorem l76_x_1_0 (J : Jmp) (x y z lp a : Nat) : lblY Tryz.prog 133 lab76 (baseH Tryz.prog) RE (finY Tryz.prog [.tmp 8, .tmp 9] [3, 32]) (bodyC Tryz.f76) J [0,0,1,0,1,1] [i64 x, i64 y, u64 z, slP lp 1 [i64 a], i64 1, i64 0] =
  (bi (nbeq (okN (PureAt Tryz.prog 144 [⟨3, a, 0, 0, 0, []⟩] ⟨8, bi (insN a) 1 0, 0, 0, 0, []⟩)) 1)
 (bi (nbeq (Nat.sub 1 (bi (insN a) 1 0)) 1)
 (ansY ⟨16, 0, 0, 0, 0, [⟨3, 0, 0, 0, 0, []⟩, ⟨3, 3, 0, 0, 0, []⟩]⟩)
 (J [0, 0, 1, 0, 1, 1] [⟨3, x, 0, 0, 0, []⟩, ⟨3, y, 0, 0, 0, []⟩, ⟨7, z, 0, 0, 0, []⟩, ⟨24, lp, 0, 1, 0, [⟨3, a, 0, 0, 0, []⟩]⟩, ⟨3, 1, 0, 0, 0, []⟩, ⟨3, 1, 0, 0, 0, []⟩]))
 (failR 301)) := by kernel_rfl
theorem l76_x_2_0 (J : Jmp) (x y z lp a b : Nat) : lblY Tryz.prog 133 lab76 (baseH Tryz.prog) RE (finY Tryz.prog [.tmp 8, .tmp 9] [3, 32]) (bodyC Tryz.f76) J [0,0,1,0,1,1] [i64 x, i64 y, u64 z, slP lp 1 [i64 a, i64 b], i64 2, i64 0] =
  (bi (nbeq (okN (PureAt Tryz.prog 144 [⟨3, a, 0, 0, 0, []⟩] ⟨8, bi (insN a) 1 0, 0, 0, 0, []⟩)) 1)
 (bi (nbeq (Nat.sub 1 (bi (insN a) 1 0)) 1)
 (ansY ⟨16, 0, 0, 0, 0, [⟨3, 0, 0, 0, 0, []⟩, ⟨3, 3, 0, 0, 0, []⟩]⟩)
 (J [0, 0, 1, 0, 1, 1] [⟨3, x, 0, 0, 0, []⟩, ⟨3, y, 0, 0, 0, []⟩, ⟨7, z, 0, 0, 0, []⟩, ⟨24, lp, 0, 1, 0, [⟨3, a, 0, 0, 0, []⟩, ⟨3, b, 0, 0, 0, []⟩]⟩, ⟨3, 2, 0, 0, 0, []⟩, ⟨3, 1, 0, 0, 0, []⟩]))
 (failR 301)) := by kernel_rfl
theorem l76_x_2_1 (J : Jmp) (x y z lp a b : Nat) : lblY Tryz.prog 133 lab76 (baseH Tryz.prog) RE (finY Tryz.prog [.tmp 8, .tmp 9] [3, 32]) (bodyC Tryz.f76) J [0,0,1,0,1,1] [i64 x, i64 y, u64 z, slP lp 1 [i64 a, i64 b], i64 2, i64 1] =
  (bi (nbeq (okN (PureAt Tryz.prog 144 [⟨3, b, 0, 0, 0, []⟩] ⟨8, bi (insN b) 1 0, 0, 0, 0, []⟩)) 1)
 (bi (nbeq (Nat.sub 1 (bi (insN b) 1 0)) 1)
 (ansY ⟨16, 0, 0, 0, 0, [⟨3, 0, 0, 0, 0, []⟩, ⟨3, 3, 0, 0, 0, []⟩]⟩)
 (J [0, 0, 1, 0, 1, 1] [⟨3, x, 0, 0, 0, []⟩, ⟨3, y, 0, 0, 0, []⟩, ⟨7, z, 0, 0, 0, []⟩, ⟨24, lp, 0, 1, 0, [⟨3, a, 0, 0, 0, []⟩, ⟨3, b, 0, 0, 0, []⟩]⟩, ⟨3, 2, 0, 0, 0, []⟩, ⟨3, 2, 0, 0, 0, []⟩]))
 (failR 301)) := by kernel_rfl
theorem l76_x_3_0 (J : Jmp) (x y z lp a b c : Nat) : lblY Tryz.prog 133 lab76 (baseH Tryz.prog) RE (finY Tryz.prog [.tmp 8, .tmp 9] [3, 32]) (bodyC Tryz.f76) J [0,0,1,0,1,1] [i64 x, i64 y, u64 z, slP lp 1 [i64 a, i64 b, i64 c], i64 3, i64 0] =
  (bi (nbeq (okN (PureAt Tryz.prog 144 [⟨3, a, 0, 0, 0, []⟩] ⟨8, bi (insN a) 1 0, 0, 0, 0, []⟩)) 1)
 (bi (nbeq (Nat.sub 1 (bi (insN a) 1 0)) 1)
 (ansY ⟨16, 0, 0, 0, 0, [⟨3, 0, 0, 0, 0, []⟩, ⟨3, 3, 0, 0, 0, []⟩]⟩)
 (J [0, 0, 1, 0, 1, 1] [⟨3, x, 0, 0, 0, []⟩, ⟨3, y, 0, 0, 0, []⟩, ⟨7, z, 0, 0, 0, []⟩, ⟨24, lp, 0, 1, 0, [⟨3, a, 0, 0, 0, []⟩, ⟨3, b, 0, 0, 0, []⟩, ⟨3, c, 0, 0, 0, []⟩]⟩, ⟨3, 3, 0, 0, 0, []⟩, ⟨3, 1, 0, 0, 0, []⟩]))
 (failR 301)) := by kernel_rfl
theorem l76_x_3_1 (J : Jmp) (x y z lp a b c : Nat) : lblY Tryz.prog 133 lab76 (baseH Tryz.prog) RE (finY Tryz.prog [.tmp 8, .tmp 9] [3, 32]) (bodyC Tryz.f76) J [0,0,1,0,1,1] [i64 x, i64 y, u64 z, slP lp 1 [i64 a, i64 b, i64 c], i64 3, i64 1] =
  (bi (nbeq (okN (PureAt Tryz.prog 144 [⟨3, b, 0, 0, 0, []⟩] ⟨8, bi (insN b) 1 0, 0, 0, 0, []⟩)) 1)
 (bi (nbeq (Nat.sub 1 (bi (insN b) 1 0)) 1)
 (ansY ⟨16, 0, 0, 0, 0, [⟨3, 0, 0, 0, 0, []⟩, ⟨3, 3, 0, 0, 0, []⟩]⟩)
 (J [0, 0, 1, 0, 1, 1] [⟨3, x, 0, 0, 0, []⟩, ⟨3, y, 0, 0, 0, []⟩, ⟨7, z, 0, 0, 0, []⟩, ⟨24, lp, 0, 1, 0, [⟨3, a, 0, 0, 0, []⟩, ⟨3, b, 0, 0, 0, []⟩, ⟨3, c, 0, 0, 0, []⟩]⟩, ⟨3, 3, 0, 0, 0, []⟩, ⟨3, 2, 0, 0, 0, []⟩]))
 (failR 301)) := by kernel_rfl
theorem l76_x_3_2 (J : Jmp) (x y z lp a b c : Nat) : lblY Tryz.prog 133 lab76 (baseH Tryz.prog) RE (finY Tryz.prog [.tmp 8, .tmp 9] [3, 32]) (bodyC Tryz.f76) J [0,0,1,0,1,1] [i64 x, i64 y, u64 z, slP lp 1 [i64 a, i64 b, i64 c], i64 3, i64 2] =
  (bi (nbeq (okN (PureAt Tryz.prog 144 [⟨3, c, 0, 0, 0, []⟩] ⟨8, bi (insN c) 1 0, 0, 0, 0, []⟩)) 1)
 (bi (nbeq (Nat.sub 1 (bi (insN c) 1 0)) 1)
 (ansY ⟨16, 0, 0, 0, 0, [⟨3, 0, 0, 0, 0, []⟩, ⟨3, 3, 0, 0, 0, []⟩]⟩)
 (J [0, 0, 1, 0, 1, 1] [⟨3, x, 0, 0, 0, []⟩, ⟨3, y, 0, 0, 0, []⟩, ⟨7, z, 0, 0, 0, []⟩, ⟨24, lp, 0, 1, 0, [⟨3, a, 0, 0, 0, []⟩, ⟨3, b, 0, 0, 0, []⟩, ⟨3, c, 0, 0, 0, []⟩]⟩, ⟨3, 3, 0, 0, 0, []⟩, ⟨3, 3, 0, 0, 0, []⟩]))
 (failR 301)) := by kernel_rfl
theorem l69_1_0_0 (J : Jmp) (y z lp : Nat) : lblY Tryz.prog 144 lab69 (baseH Tryz.prog) RE (finY Tryz.prog [.tmp 8, .tmp 9] [3, 32]) (bodyC Tryz.f69) J [0,0,1,0,1,1] [i64 1, i64 y, u64 z, slP lp 1 [], slP lp 1 [], i64 0, i64 0] =
  (bi (nbeq (okN (PureAt Tryz.prog 134 [⟨3, 1, 0, 0, 0, []⟩, ⟨3, y, 0, 0, 0, []⟩, ⟨7, z, 0, 0, 0, []⟩] ⟨16, 0, 0, 0, 0, [⟨3, bi (lfP 1 y z) y 0, 0, 0, 0, []⟩, ⟨3, bi (lfP 1 y z) 0 3, 0, 0, 0, []⟩]⟩)) 1)
 (ansY ⟨16, 0, 0, 0, 0, [⟨3, bi (lfP 1 y z) y 0, 0, 0, 0, []⟩, ⟨3, bi (lfP 1 y z) 0 3, 0, 0, 0, []⟩]⟩)
 (failR 301)) := by kernel_rfl
theorem l69_2_0_0 (J : Jmp) (y z lp : Nat) : lblY Tryz.prog 144 lab69 (baseH Tryz.prog) RE (finY Tryz.prog [.tmp 8, .tmp 9] [3, 32]) (bodyC Tryz.f69) J [0,0,1,0,1,1] [i64 2, i64 y, u64 z, slP lp 1 [], slP lp 1 [], i64 0, i64 0] =
  (bi (nbeq (okN (PureAt Tryz.prog 134 [⟨3, 2, 0, 0, 0, []⟩, ⟨3, y, 0, 0, 0, []⟩, ⟨7, z, 0, 0, 0, []⟩] ⟨16, 0, 0, 0, 0, [⟨3, bi (lfP 2 y z) y 0, 0, 0, 0, []⟩, ⟨3, bi (lfP 2 y z) 0 3, 0, 0, 0, []⟩]⟩)) 1)
 (ansY ⟨16, 0, 0, 0, 0, [⟨3, bi (lfP 2 y z) y 0, 0, 0, 0, []⟩, ⟨3, bi (lfP 2 y z) 0 3, 0, 0, 0, []⟩]⟩)
 (failR 301)) := by kernel_rfl
theorem l69_3_1_1 (J : Jmp) (y z lp a : Nat) : lblY Tryz.prog 144 lab69 (baseH Tryz.prog) RE (finY Tryz.prog [.tmp 8, .tmp 9] [3, 32]) (bodyC Tryz.f69) J [0,0,1,0,1,1] [i64 3, i64 y, u64 z, slP lp 1 [i64 a], slP lp 1 [i64 a], i64 1, i64 1] =
  (ansY ⟨16, 0, 0, 0, 0, [⟨3, a, 0, 0, 0, []⟩, ⟨3, 0, 0, 0, 0, []⟩]⟩) := by kernel_rfl
theorem l69_4_1_1 (J : Jmp) (y z lp a : Nat) : lblY Tryz.prog 144 lab69 (baseH Tryz.prog) RE (finY Tryz.prog [.tmp 8, .tmp 9] [3, 32]) (bodyC Tryz.f69) J [0,0,1,0,1,1] [i64 4, i64 y, u64 z, slP lp 1 [i64 a], slP lp 1 [i64 a], i64 1, i64 1] =
  (ansY ⟨16, 0, 0, 0, 0, [⟨3, a, 0, 0, 0, []⟩, ⟨3, 0, 0, 0, 0, []⟩]⟩) := by kernel_rfl
theorem l69_5_2_2 (J : Jmp) (y z lp a b : Nat) : lblY Tryz.prog 144 lab69 (baseH Tryz.prog) RE (finY Tryz.prog [.tmp 8, .tmp 9] [3, 32]) (bodyC Tryz.f69) J [0,0,1,0,1,1] [i64 5, i64 y, u64 z, slP lp 1 [i64 a, i64 b], slP lp 1 [i64 a, i64 b], i64 2, i64 2] =
  (bi (nbeq (okN (PureAt Tryz.prog 136 [⟨8, bi (nbeq a b) 1 0, 0, 0, 0, []⟩, ⟨3, a, 0, 0, 0, []⟩] ⟨16, 0, 0, 0, 0, [⟨3, bi (nbeq (bi (nbeq a b) 1 0) 1) a 0, 0, 0, 0, []⟩, ⟨3, bi (nbeq (bi (nbeq a b) 1 0) 1) 0 3, 0, 0, 0, []⟩]⟩)) 1)
 (ansY ⟨16, 0, 0, 0, 0, [⟨3, bi (nbeq (bi (nbeq a b) 1 0) 1) a 0, 0, 0, 0, []⟩, ⟨3, bi (nbeq (bi (nbeq a b) 1 0) 1) 0 3, 0, 0, 0, []⟩]⟩)
 (failR 301)) := by kernel_rfl
theorem l69_6_2_2 (J : Jmp) (y z lp a b : Nat) : lblY Tryz.prog 144 lab69 (baseH Tryz.prog) RE (finY Tryz.prog [.tmp 8, .tmp 9] [3, 32]) (bodyC Tryz.f69) J [0,0,1,0,1,1] [i64 6, i64 y, u64 z, slP lp 1 [i64 a, i64 b], slP lp 1 [i64 a, i64 b], i64 2, i64 2] =
  (bi (nbeq (okN (PureAt Tryz.prog 136 [⟨8, bi (nbeq a b) 1 0, 0, 0, 0, []⟩, ⟨3, a, 0, 0, 0, []⟩] ⟨16, 0, 0, 0, 0, [⟨3, bi (nbeq (bi (nbeq a b) 1 0) 1) a 0, 0, 0, 0, []⟩, ⟨3, bi (nbeq (bi (nbeq a b) 1 0) 1) 0 3, 0, 0, 0, []⟩]⟩)) 1)
 (ansY ⟨16, 0, 0, 0, 0, [⟨3, bi (nbeq (bi (nbeq a b) 1 0) 1) a 0, 0, 0, 0, []⟩, ⟨3, bi (nbeq (bi (nbeq a b) 1 0) 1) 0 3, 0, 0, 0, []⟩]⟩)
 (failR 301)) := by kernel_rfl
theorem l69_7_2_2 (J : Jmp) (y z lp a b : Nat) : lblY Tryz.prog 144 lab69 (baseH Tryz.prog) RE (finY Tryz.prog [.tmp 8, .tmp 9] [3, 32]) (bodyC Tryz.f69) J [0,0,1,0,1,1] [i64 7, i64 y, u64 z, slP lp 1 [i64 a, i64 b], slP lp 1 [i64 a, i64 b], i64 2, i64 2] =
  (bi (nbeq (okN (PureAt Tryz.prog 136 [⟨8, bi (nbeq a b) 1 0, 0, 0, 0, []⟩, ⟨3, a, 0, 0, 0, []⟩] ⟨16, 0, 0, 0, 0, [⟨3, bi (nbeq (bi (nbeq a b) 1 0) 1) a 0, 0, 0, 0, []⟩, ⟨3, bi (nbeq (bi (nbeq a b) 1 0) 1) 0 3, 0, 0, 0, []⟩]⟩)) 1)
 (ansY ⟨16, 0, 0, 0, 0, [⟨3, bi (nbeq (bi (nbeq a b) 1 0) 1) a 0, 0, 0, 0, []⟩, ⟨3, bi (nbeq (bi (nbeq a b) 1 0) 1) 0 3, 0, 0, 0, []⟩]⟩)
 (failR 301)) := by kernel_rfl
theorem l69_8_2_2 (J : Jmp) (y z lp a b : Nat) : lblY Tryz.prog 144 lab69 (baseH Tryz.prog) RE (finY Tryz.prog [.tmp 8, .tmp 9] [3, 32]) (bodyC Tryz.f69) J [0,0,1,0,1,1] [i64 8, i64 y, u64 z, slP lp 1 [i64 a, i64 b], slP lp 1 [i64 a, i64 b], i64 2, i64 2] =
  (bi (nbeq (okN (PureAt Tryz.prog 136 [⟨8, bi (nbeq a b) 1 0, 0, 0, 0, []⟩, ⟨3, a, 0, 0, 0, []⟩] ⟨16, 0, 0, 0, 0, [⟨3, bi (nbeq (bi (nbeq a b) 1 0) 1) a 0, 0, 0, 0, []⟩, ⟨3, bi (nbeq (bi (nbeq a b) 1 0) 1) 0 3, 0, 0, 0, []⟩]⟩)) 1)
 (ansY ⟨16, 0, 0, 0, 0, [⟨3, bi (nbeq (bi (nbeq a b) 1 0) 1) a 0, 0, 0, 0, []⟩, ⟨3, bi (nbeq (bi (nbeq a b) 1 0) 1) 0 3, 0, 0, 0, []⟩]⟩)
 (failR 301)) := by kernel_rfl
theorem l69_9_2_2 (J : Jmp) (y z lp a b : Nat) : lblY Tryz.prog 144 lab69 (baseH Tryz.prog) RE (finY Tryz.prog [.tmp 8, .tmp 9] [3, 32]) (bodyC Tryz.f69) J [0,0,1,0,1,1] [i64 9, i64 y, u64 z, slP lp 1 [i64 a, i64 b], slP lp 1 [i64 a, i64 b], i64 2, i64 2] =
  (bi (nbeq (okN (PureAt Tryz.prog 136 [⟨8, bi (nbeq a b) 1 0, 0, 0, 0, []⟩, ⟨3, a, 0, 0, 0, []⟩] ⟨16, 0, 0, 0, 0, [⟨3, bi (nbeq (bi (nbeq a b) 1 0) 1) a 0, 0, 0, 0, []⟩, ⟨3, bi (nbeq (bi (nbeq a b) 1 0) 1) 0 3, 0, 0, 0, []⟩]⟩)) 1)
 (ansY ⟨16, 0, 0, 0, 0, [⟨3, bi (nbeq (bi (nbeq a b) 1 0) 1) a 0, 0, 0, 0, []⟩, ⟨3, bi (nbeq (bi (nbeq a b) 1 0) 1) 0 3, 0, 0, 0, []⟩]⟩)
 (failR 301)) := by kernel_rfl
theorem l69_10_2_2 (J : Jmp) (y z lp a b : Nat) : lblY Tryz.prog 144 lab69 (baseH Tryz.prog) RE (finY Tryz.prog [.tmp 8, .tmp 9] [3, 32]) (bodyC Tryz.f69) J [0,0,1,0,1,1] [i64 10, i64 y, u64 z, slP lp 1 [i64 a, i64 b], slP lp 1 [i64 a, i64 b], i64 2, i64 2] =
  (bi (nbeq (okN (PureAt Tryz.prog 136 [⟨8, bi (nbeq a b) 1 0, 0, 0, 0, []⟩, ⟨3, a, 0, 0, 0, []⟩] ⟨16, 0, 0, 0, 0, [⟨3, bi (nbeq (bi (nbeq a b) 1 0) 1) a 0, 0, 0, 0, []⟩, ⟨3, bi (nbeq (bi (nbeq a b) 1 0) 1) 0 3, 0, 0, 0, []⟩]⟩)) 1)
 (ansY ⟨16, 0, 0, 0, 0, [⟨3, bi (nbeq (bi (nbeq a b) 1 0) 1) a 0, 0, 0, 0, []⟩, ⟨3, bi (nbeq (bi (nbeq a b) 1 0) 1) 0 3, 0, 0, 0, []⟩]⟩)
 (failR 301)) := by kernel_rfl
theorem l69_11_2_2 (J : Jmp) (y z lp a b : Nat) : lblY Tryz.prog 144 lab69 (baseH Tryz.prog) RE (finY Tryz.prog [.tmp 8, .tmp 9] [3, 32]) (bodyC Tryz.f69) J [0,0,1,0,1,1] [i64 11, i64 y, u64 z, slP lp 1 [i64 a, i64 b], slP lp 1 [i64 a, i64 b], i64 2, i64 2] =
  (bi (nbeq (okN (PureAt Tryz.prog 136 [⟨8, bi (nbeq a b) 1 0, 0, 0, 0, []⟩, ⟨3, a, 0, 0, 0, []⟩] ⟨16, 0, 0, 0, 0, [⟨3, bi (nbeq (bi (nbeq a b) 1 0) 1) a 0, 0, 0, 0, []⟩, ⟨3, bi (nbeq (bi (nbeq a b) 1 0) 1) 0 3, 0, 0, 0, []⟩]⟩)) 1)
 (ansY ⟨16, 0, 0, 0, 0, [⟨3, bi (nbeq (bi (nbeq a b) 1 0) 1) a 0, 0, 0, 0, []⟩, ⟨3, bi (nbeq (bi (nbeq a b) 1 0) 1) 0 3, 0, 0, 0, []⟩]⟩)
 (failR 301)) := by kernel_rfl
theorem l69_12_2_2 (J : Jmp) (y z lp a b : Nat) : lblY Tryz.prog 144 lab69 (baseH Tryz.prog) RE (finY Tryz.prog [.tmp 8, .tmp 9] [3, 32]) (bodyC Tryz.f69) J [0,0,1,0,1,1] [i64 12, i64 y, u64 z, slP lp 1 [i64 a, i64 b], slP lp 1 [i64 a, i64 b], i64 2, i64 2] =
  (bi (nbeq (okN (PureAt Tryz.prog 136 [⟨8, bi (nbeq a b) 1 0, 0, 0, 0, []⟩, ⟨3, a, 0, 0, 0, []⟩] ⟨16, 0, 0, 0, 0, [⟨3, bi (nbeq (bi (nbeq a b) 1 0) 1) a 0, 0, 0, 0, []⟩, ⟨3, bi (nbeq (bi (nbeq a b) 1 0) 1) 0 3, 0, 0, 0, []⟩]⟩)) 1)
 (ansY ⟨16, 0, 0, 0, 0, [⟨3, bi (nbeq (bi (nbeq a b) 1 0) 1) a 0, 0, 0, 0, []⟩, ⟨3, bi (nbeq (bi (nbeq a b) 1 0) 1) 0 3, 0, 0, 0, []⟩]⟩)
 (failR 301)) := by kernel_rfl
theorem l69_13_2_2 (J : Jmp) (y z lp a b : Nat) : lblY Tryz.prog 144 lab69 (baseH Tryz.prog) RE (finY Tryz.prog [.tmp 8, .tmp 9] [3, 32]) (bodyC Tryz.f69) J [0,0,1,0,1,1] [i64 13, i64 y, u64 z, slP lp 1 [i64 a, i64 b], slP lp 1 [i64 a, i64 b], i64 2, i64 2] =
  (bi (nbeq (okN (PureAt Tryz.prog 136 [⟨8, bi (nbeq a b) 1 0, 0, 0, 0, []⟩, ⟨3, a, 0, 0, 0, []⟩] ⟨16, 0, 0, 0, 0, [⟨3, bi (nbeq (bi (nbeq a b) 1 0) 1) a 0, 0, 0, 0, []⟩, ⟨3, bi (nbeq (bi (nbeq a b) 1 0) 1) 0 3, 0, 0, 0, []⟩]⟩)) 1)
 (ansY ⟨16, 0, 0, 0, 0, [⟨3, bi (nbeq (bi (nbeq a b) 1 0) 1) a 0, 0, 0, 0, []⟩, ⟨3, bi (nbeq (bi (nbeq a b) 1 0) 1) 0 3, 0, 0, 0, []⟩]⟩)
 (failR 301)) := by kernel_rfl
theorem l69_14_2_2 (J : Jmp) (y z lp a b : Nat) : lblY Tryz.prog 144 lab69 (baseH Tryz.prog) RE (finY Tryz.prog [.tmp 8, .tmp 9] [3, 32]) (bodyC Tryz.f69) J [0,0,1,0,1,1] [i64 14, i64 y, u64 z, slP lp 1 [i64 a, i64 b], slP lp 1 [i64 a, i64 b], i64 2, i64 2] =
  (bi (nbeq (okN (PureAt Tryz.prog 136 [⟨8, bi (nbeq a b) 1 0, 0, 0, 0, []⟩, ⟨3, a, 0, 0, 0, []⟩] ⟨16, 0, 0, 0, 0, [⟨3, bi (nbeq (bi (nbeq a b) 1 0) 1) a 0, 0, 0, 0, []⟩, ⟨3, bi (nbeq (bi (nbeq a b) 1 0) 1) 0 3, 0, 0, 0, []⟩]⟩)) 1)
 (ansY ⟨16, 0, 0, 0, 0, [⟨3, bi (nbeq (bi (nbeq a b) 1 0) 1) a 0, 0, 0, 0, []⟩, ⟨3, bi (nbeq (bi (nbeq a b) 1 0) 1) 0 3, 0, 0, 0, []⟩]⟩)
 (failR 301)) := by kernel_rfl
theorem l69_15_2_2 (J : Jmp) (y z lp a b : Nat) : lblY Tryz.prog 144 lab69 (baseH Tryz.prog) RE (finY Tryz.prog [.tmp 8, .tmp 9] [3, 32]) (bodyC Tryz.f69) J [0,0,1,0,1,1] [i64 15, i64 y, u64 z, slP lp 1 [i64 a, i64 b], slP lp 1 [i64 a, i64 b], i64 2, i64 2] =
  (bi (nbeq (okN (PureAt Tryz.prog 136 [⟨8, bi (nbeq a b) 1 0, 0, 0, 0, []⟩, ⟨3, a, 0, 0, 0, []⟩] ⟨16, 0, 0, 0, 0, [⟨3, bi (nbeq (bi (nbeq a b) 1 0) 1) a 0, 0, 0, 0, []⟩, ⟨3, bi (nbeq (bi (nbeq a b) 1 0) 1) 0 3, 0, 0, 0, []⟩]⟩)) 1)
 (ansY ⟨16, 0, 0, 0, 0, [⟨3, bi (nbeq (bi (nbeq a b) 1 0) 1) a 0, 0, 0, 0, []⟩, ⟨3, bi (nbeq (bi (nbeq a b) 1 0) 1) 0 3, 0, 0, 0, []⟩]⟩)
 (failR 301)) := by kernel_rfl
theorem l69_16_2_2 (J : Jmp) (y z lp a b : Nat) : lblY Tryz.prog 144 lab69 (baseH Tryz.prog) RE (finY Tryz.prog [.tmp 8, .tmp 9] [3, 32]) (bodyC Tryz.f69) J [0,0,1,0,1,1] [i64 16, i64 y, u64 z, slP lp 1 [i64 a, i64 b], slP lp 1 [i64 a, i64 b], i64 2, i64 2] =
  (bi (nbeq (okN (PureAt Tryz.prog 136 [⟨8, bi (nbeq a b) 1 0, 0, 0, 0, []⟩, ⟨3, 1, 0, 0, 0, []⟩] ⟨16, 0, 0, 0, 0, [⟨3, bi (nbeq (bi (nbeq a b) 1 0) 1) 1 0, 0, 0, 0, []⟩, ⟨3, bi (nbeq (bi (nbeq a b) 1 0) 1) 0 3, 0, 0, 0, []⟩]⟩)) 1)
 (ansY ⟨16, 0, 0, 0, 0, [⟨3, bi (nbeq (bi (nbeq a b) 1 0) 1) 1 0, 0, 0, 0, []⟩, ⟨3, bi (nbeq (bi (nbeq a b) 1 0) 1) 0 3, 0, 0, 0, []⟩]⟩)
 (failR 301)) := by kernel_rfl
theorem l69_17_2_2 (J : Jmp) (y z lp a b : Nat) : lblY Tryz.prog 144 lab69 (baseH Tryz.prog) RE (finY Tryz.prog [.tmp 8, .tmp 9] [3, 32]) (bodyC Tryz.f69) J [0,0,1,0,1,1] [i64 17, i64 y, u64 z, slP lp 1 [i64 a, i64 b], slP lp 1 [i64 a, i64 b], i64 2, i64 2] =
  (bi (nbeq (okN (PureAt Tryz.prog 136 [⟨8, bi (nbeq a b) 1 0, 0, 0, 0, []⟩, ⟨3, 1, 0, 0, 0, []⟩] ⟨16, 0, 0, 0, 0, [⟨3, bi (nbeq (bi (nbeq a b) 1 0) 1) 1 0, 0, 0, 0, []⟩, ⟨3, bi (nbeq (bi (nbeq a b) 1 0) 1) 0 3, 0, 0, 0, []⟩]⟩)) 1)
 (ansY ⟨16, 0, 0, 0, 0, [⟨3, bi (nbeq (bi (nbeq a b) 1 0) 1) 1 0, 0, 0, 0, []⟩, ⟨3, bi (nbeq (bi (nbeq a b) 1 0) 1) 0 3, 0, 0, 0, []⟩]⟩)
 (failR 301)) := by kernel_rfl
theorem l69_18_2_2 (J : Jmp) (y z lp a b : Nat) : lblY Tryz.prog 144 lab69 (baseH Tryz.prog) RE (finY Tryz.prog [.tmp 8, .tmp 9] [3, 32]) (bodyC Tryz.f69) J [0,0,1,0,1,1] [i64 18, i64 y, u64 z, slP lp 1 [i64 a, i64 b], slP lp 1 [i64 a, i64 b], i64 2, i64 2] =
  (bi (nbeq (okN (PureAt Tryz.prog 136 [⟨8, bi (nbeq a b) 1 0, 0, 0, 0, []⟩, ⟨3, 1, 0, 0, 0, []⟩] ⟨16, 0, 0, 0, 0, [⟨3, bi (nbeq (bi (nbeq a b) 1 0) 1) 1 0, 0, 0, 0, []⟩, ⟨3, bi (nbeq (bi (nbeq a b) 1 0) 1) 0 3, 0, 0, 0, []⟩]⟩)) 1)
 (ansY ⟨16, 0, 0, 0, 0, [⟨3, bi (nbeq (bi (nbeq a b) 1 0) 1) 1 0, 0, 0, 0, []⟩, ⟨3, bi (nbeq (bi (nbeq a b) 1 0) 1) 0 3, 0, 0, 0, []⟩]⟩)
 (failR 301)) := by kernel_rfl
theorem l76_1_0_0 (J : Jmp) (y z lp : Nat) : lblY Tryz.prog 133 lab76 (baseH Tryz.prog) RE (finY Tryz.prog [.tmp 8, .tmp 9] [3, 32]) (bodyC Tryz.f76) J [0,0,1,0,1,1] [i64 1, i64 y, u64 z, slP lp 1 [], i64 0, i64 0] =
  (bi (nbeq (okN (PureAt Tryz.prog 145 [⟨3, 1, 0, 0, 0, []⟩] ⟨8, bi (leafR 1) 1 0, 0, 0, 0, []⟩)) 1)
 (bi (nbeq (bi (leafR 1) 1 0) 1)
 (bi (nbeq (okN (PureAt Tryz.prog 146 [⟨3, 1, 0, 0, 0, []⟩, ⟨3, y, 0, 0, 0, []⟩, ⟨7, z, 0, 0, 0, []⟩] ⟨16, 0, 0, 0, 0, [⟨3, bi (lfP 1 y z) y 0, 0, 0, 0, []⟩, ⟨3, bi (lfP 1 y z) 0 3, 0, 0, 0, []⟩]⟩)) 1)
 (ansY ⟨16, 0, 0, 0, 0, [⟨3, bi (lfP 1 y z) y 0, 0, 0, 0, []⟩, ⟨3, bi (lfP 1 y z) 0 3, 0, 0, 0, []⟩]⟩)
 (failR 301))
 (failR 205))
 (failR 301)) := by kernel_rfl
theorem l76_2_0_0 (J : Jmp) (y z lp : Nat) : lblY Tryz.prog 133 lab76 (baseH Tryz.prog) RE (finY Tryz.prog [.tmp 8, .tmp 9] [3, 32]) (bodyC Tryz.f76) J [0,0,1,0,1,1] [i64 2, i64 y, u64 z, slP lp 1 [], i64 0, i64 0] =
  (bi (nbeq (okN (PureAt Tryz.prog 145 [⟨3, 2, 0, 0, 0, []⟩] ⟨8, bi (leafR 2) 1 0, 0, 0, 0, []⟩)) 1)
 (bi (nbeq (bi (leafR 2) 1 0) 1)
 (bi (nbeq (okN (PureAt Tryz.prog 146 [⟨3, 2, 0, 0, 0, []⟩, ⟨3, y, 0, 0, 0, []⟩, ⟨7, z, 0, 0, 0, []⟩] ⟨16, 0, 0, 0, 0, [⟨3, bi (lfP 2 y z) y 0, 0, 0, 0, []⟩, ⟨3, bi (lfP 2 y z) 0 3, 0, 0, 0, []⟩]⟩)) 1)
 (ansY ⟨16, 0, 0, 0, 0, [⟨3, bi (lfP 2 y z) y 0, 0, 0, 0, []⟩, ⟨3, bi (lfP 2 y z) 0 3, 0, 0, 0, []⟩]⟩)
 (failR 301))
 (failR 205))
 (failR 301)) := by kernel_rfl
theorem l76_3_1_1 (J : Jmp) (y z lp a : Nat) : lblY Tryz.prog 133 lab76 (baseH Tryz.prog) RE (finY Tryz.prog [.tmp 8, .tmp 9] [3, 32]) (bodyC Tryz.f76) J [0,0,1,0,1,1] [i64 3, i64 y, u64 z, slP lp 1 [i64 a], i64 1, i64 1] =
  (bi (nbeq (okN (PureAt Tryz.prog 145 [⟨3, 3, 0, 0, 0, []⟩] ⟨8, bi (leafR 3) 1 0, 0, 0, 0, []⟩)) 1)
 (bi (nbeq (bi (leafR 3) 1 0) 1)
 (bi (nbeq (okN (PureAt Tryz.prog 146 [⟨3, 3, 0, 0, 0, []⟩, ⟨3, y, 0, 0, 0, []⟩, ⟨7, z, 0, 0, 0, []⟩] ⟨16, 0, 0, 0, 0, [⟨3, bi (lfP 3 y z) y 0, 0, 0, 0, []⟩, ⟨3, bi (lfP 3 y z) 0 3, 0, 0, 0, []⟩]⟩)) 1)
 (ansY ⟨16, 0, 0, 0, 0, [⟨3, bi (lfP 3 y z) y 0, 0, 0, 0, []⟩, ⟨3, bi (lfP 3 y z) 0 3, 0, 0, 0, []⟩]⟩)
 (failR 301))
 (ansY ⟨16, 0, 0, 0, 0, [⟨3, a, 0, 0, 0, []⟩, ⟨3, 0, 0, 0, 0, []⟩]⟩))
 (failR 301)) := by kernel_rfl
theorem l76_4_1_1 (J : Jmp) (y z lp a : Nat) : lblY Tryz.prog 133 lab76 (baseH Tryz.prog) RE (finY Tryz.prog [.tmp 8, .tmp 9] [3, 32]) (bodyC Tryz.f76) J [0,0,1,0,1,1] [i64 4, i64 y, u64 z, slP lp 1 [i64 a], i64 1, i64 1] =
  (bi (nbeq (okN (PureAt Tryz.prog 145 [⟨3, 4, 0, 0, 0, []⟩] ⟨8, bi (leafR 4) 1 0, 0, 0, 0, []⟩)) 1)
 (bi (nbeq (bi (leafR 4) 1 0) 1)
 (bi (nbeq (okN (PureAt Tryz.prog 146 [⟨3, 4, 0, 0, 0, []⟩, ⟨3, y, 0, 0, 0, []⟩, ⟨7, z, 0, 0, 0, []⟩] ⟨16, 0, 0, 0, 0, [⟨3, bi (lfP 4 y z) y 0, 0, 0, 0, []⟩, ⟨3, bi (lfP 4 y z) 0 3, 0, 0, 0, []⟩]⟩)) 1)
 (ansY ⟨16, 0, 0, 0, 0, [⟨3, bi (lfP 4 y z) y 0, 0, 0, 0, []⟩, ⟨3, bi (lfP 4 y z) 0 3, 0, 0, 0, []⟩]⟩)
 (failR 301))
 (ansY ⟨16, 0, 0, 0, 0, [⟨3, a, 0, 0, 0, []⟩, ⟨3, 0, 0, 0, 0, []⟩]⟩))
 (failR 301)) := by kernel_rfl
theorem l76_5_2_2 (J : Jmp) (y z lp a b : Nat) : lblY Tryz.prog 133 lab76 (baseH Tryz.prog) RE (finY Tryz.prog [.tmp 8, .tmp 9] [3, 32]) (bodyC Tryz.f76) J [0,0,1,0,1,1] [i64 5, i64 y, u64 z, slP lp 1 [i64 a, i64 b], i64 2, i64 2] =
  (bi (nbeq (okN (PureAt Tryz.prog 145 [⟨3, 5, 0, 0, 0, []⟩] ⟨8, bi (leafR 5) 1 0, 0, 0, 0, []⟩)) 1)
 (bi (nbeq (bi (leafR 5) 1 0) 1)
 (bi (nbeq (okN (PureAt Tryz.prog 146 [⟨3, 5, 0, 0, 0, []⟩, ⟨3, y, 0, 0, 0, []⟩, ⟨7, z, 0, 0, 0, []⟩] ⟨16, 0, 0, 0, 0, [⟨3, bi (lfP 5 y z) y 0, 0, 0, 0, []⟩, ⟨3, bi (lfP 5 y z) 0 3, 0, 0, 0, []⟩]⟩)) 1)
 (ansY ⟨16, 0, 0, 0, 0, [⟨3, bi (lfP 5 y z) y 0, 0, 0, 0, []⟩, ⟨3, bi (lfP 5 y z) 0 3, 0, 0, 0, []⟩]⟩)
 (failR 301))
 (bi (nbeq (bi (nb (nbeq a b)) 1 0) 1)
 (ansY ⟨16, 0, 0, 0, 0, [⟨3, 0, 0, 0, 0, []⟩, ⟨3, 3, 0, 0, 0, []⟩]⟩)
 (ansY ⟨16, 0, 0, 0, 0, [⟨3, a, 0, 0, 0, []⟩, ⟨3, 0, 0, 0, 0, []⟩]⟩)))
 (failR 301)) := by kernel_rfl
theorem l76_6_2_2 (J : Jmp) (y z lp a b : Nat) : lblY Tryz.prog 133 lab76 (baseH Tryz.prog) RE (finY Tryz.prog [.tmp 8, .tmp 9] [3, 32]) (bodyC Tryz.f76) J [0,0,1,0,1,1] [i64 6, i64 y, u64 z, slP lp 1 [i64 a, i64 b], i64 2, i64 2] =
  (bi (nbeq (okN (PureAt Tryz.prog 145 [⟨3, 6, 0, 0, 0, []⟩] ⟨8, bi (leafR 6) 1 0, 0, 0, 0, []⟩)) 1)
 (bi (nbeq (bi (leafR 6) 1 0) 1)
 (bi (nbeq (okN (PureAt Tryz.prog 146 [⟨3, 6, 0, 0, 0, []⟩, ⟨3, y, 0, 0, 0, []⟩, ⟨7, z, 0, 0, 0, []⟩] ⟨16, 0, 0, 0, 0, [⟨3, bi (lfP 6 y z) y 0, 0, 0, 0, []⟩, ⟨3, bi (lfP 6 y z) 0 3, 0, 0, 0, []⟩]⟩)) 1)
 (ansY ⟨16, 0, 0, 0, 0, [⟨3, bi (lfP 6 y z) y 0, 0, 0, 0, []⟩, ⟨3, bi (lfP 6 y z) 0 3, 0, 0, 0, []⟩]⟩)
 (failR 301))
 (bi (nbeq (bi (nb (nbeq a b)) 1 0) 1)
 (ansY ⟨16, 0, 0, 0, 0, [⟨3, 0, 0, 0, 0, []⟩, ⟨3, 3, 0, 0, 0, []⟩]⟩)
 (ansY ⟨16, 0, 0, 0, 0, [⟨3, a, 0, 0, 0, []⟩, ⟨3, 0, 0, 0, 0, []⟩]⟩)))
 (failR 301)) := by kernel_rfl
theorem l76_7_2_2 (J : Jmp) (y z lp a b : Nat) : lblY Tryz.prog 133 lab76 (baseH Tryz.prog) RE (finY Tryz.prog [.tmp 8, .tmp 9] [3, 32]) (bodyC Tryz.f76) J [0,0,1,0,1,1] [i64 7, i64 y, u64 z, slP lp 1 [i64 a, i64 b], i64 2, i64 2] =
  (bi (nbeq (okN (PureAt Tryz.prog 145 [⟨3, 7, 0, 0, 0, []⟩] ⟨8, bi (leafR 7) 1 0, 0, 0, 0, []⟩)) 1)
 (bi (nbeq (bi (leafR 7) 1 0) 1)
 (bi (nbeq (okN (PureAt Tryz.prog 146 [⟨3, 7, 0, 0, 0, []⟩, ⟨3, y, 0, 0, 0, []⟩, ⟨7, z, 0, 0, 0, []⟩] ⟨16, 0, 0, 0, 0, [⟨3, bi (lfP 7 y z) y 0, 0, 0, 0, []⟩, ⟨3, bi (lfP 7 y z) 0 3, 0, 0, 0, []⟩]⟩)) 1)
 (ansY ⟨16, 0, 0, 0, 0, [⟨3, bi (lfP 7 y z) y 0, 0, 0, 0, []⟩, ⟨3, bi (lfP 7 y z) 0 3, 0, 0, 0, []⟩]⟩)
 (failR 301))
 (bi (nbeq (bi (nb (nbeq a b)) 1 0) 1)
 (ansY ⟨16, 0, 0, 0, 0, [⟨3, 0, 0, 0, 0, []⟩, ⟨3, 3, 0, 0, 0, []⟩]⟩)
 (ansY ⟨16, 0, 0, 0, 0, [⟨3, a, 0, 0, 0, []⟩, ⟨3, 0, 0, 0, 0, []⟩]⟩)))
 (failR 301)) := by kernel_rfl
theorem l76_8_2_2 (J : Jmp) (y z lp a b : Nat) : lblY Tryz.prog 133 lab76 (baseH Tryz.prog) RE (finY Tryz.prog [.tmp 8, .tmp 9] [3, 32]) (bodyC Tryz.f76) J [0,0,1,0,1,1] [i64 8, i64 y, u64 z, slP lp 1 [i64 a, i64 b], i64 2, i64 2] =
  (bi (nbeq (okN (PureAt Tryz.prog 145 [⟨3, 8, 0, 0, 0, []⟩] ⟨8, bi (leafR 8) 1 0, 0, 0, 0, []⟩)) 1)
 (bi (nbeq (bi (leafR 8) 1 0) 1)
 (bi (nbeq (okN (PureAt Tryz.prog 146 [⟨3, 8, 0, 0, 0, []⟩, ⟨3, y, 0, 0, 0, []⟩, ⟨7, z, 0, 0, 0, []⟩] ⟨16, 0, 0, 0, 0, [⟨3, bi (lfP 8 y z) y 0, 0, 0, 0, []⟩, ⟨3, bi (lfP 8 y z) 0 3, 0, 0, 0, []⟩]⟩)) 1)
 (ansY ⟨16, 0, 0, 0, 0, [⟨3, bi (lfP 8 y z) y 0, 0, 0, 0, []⟩, ⟨3, bi (lfP 8 y z) 0 3, 0, 0, 0, []⟩]⟩)
 (failR 301))
 (bi (nbeq (bi (nb (nbeq a b)) 1 0) 1)
 (ansY ⟨16, 0, 0, 0, 0, [⟨3, 0, 0, 0, 0, []⟩, ⟨3, 3, 0, 0, 0, []⟩]⟩)
 (ansY ⟨16, 0, 0, 0, 0, [⟨3, a, 0, 0, 0, []⟩, ⟨3, 0, 0, 0, 0, []⟩]⟩)))
 (failR 301)) := by kernel_rfl
theorem l76_9_2_2 (J : Jmp) (y z lp a b : Nat) : lblY Tryz.prog 133 lab76 (baseH Tryz.prog) RE (finY Tryz.prog [.tmp 8, .tmp 9] [3, 32]) (bodyC Tryz.f76) J [0,0,1,0,1,1] [i64 9, i64 y, u64 z, slP lp 1 [i64 a, i64 b], i64 2, i64 2] =
  (bi (nbeq (okN (PureAt Tryz.prog 145 [⟨3, 9, 0, 0, 0, []⟩] ⟨8, bi (leafR 9) 1 0, 0, 0, 0, []⟩)) 1)
 (bi (nbeq (bi (leafR 9) 1 0) 1)
 (bi (nbeq (okN (PureAt Tryz.prog 146 [⟨3, 9, 0, 0, 0, []⟩, ⟨3, y, 0, 0, 0, []⟩, ⟨7, z, 0, 0, 0, []⟩] ⟨16, 0, 0, 0, 0, [⟨3, bi (lfP 9 y z) y 0, 0, 0, 0, []⟩, ⟨3, bi (lfP 9 y z) 0 3, 0, 0, 0, []⟩]⟩)) 1)
 (ansY ⟨16, 0, 0, 0, 0, [⟨3, bi (lfP 9 y z) y 0, 0, 0, 0, []⟩, ⟨3, bi (lfP 9 y z) 0 3, 0, 0, 0, []⟩]⟩)
 (failR 301))
 (bi (nbeq (bi (nb (nbeq a b)) 1 0) 1)
 (ansY ⟨16, 0, 0, 0, 0, [⟨3, 0, 0, 0, 0, []⟩, ⟨3, 3, 0, 0, 0, []⟩]⟩)
 (ansY ⟨16, 0, 0, 0, 0, [⟨3, a, 0, 0, 0, []⟩, ⟨3, 0, 0, 0, 0, []⟩]⟩)))
 (failR 301)) := by kernel_rfl
theorem l76_10_2_2 (J : Jmp) (y z lp a b : Nat) : lblY Tryz.prog 133 lab76 (baseH Tryz.prog) RE (finY Tryz.prog [.tmp 8, .tmp 9] [3, 32]) (bodyC Tryz.f76) J [0,0,1,0,1,1] [i64 10, i64 y, u64 z, slP lp 1 [i64 a, i64 b], i64 2, i64 2] =
  (bi (nbeq (okN (PureAt Tryz.prog 145 [⟨3, 10, 0, 0, 0, []⟩] ⟨8, bi (leafR 10) 1 0, 0, 0, 0, []⟩)) 1)
 (bi (nbeq (bi (leafR 10) 1 0) 1)
 (bi (nbeq (okN (PureAt Tryz.prog 146 [⟨3, 10, 0, 0, 0, []⟩, ⟨3, y, 0, 0, 0, []⟩, ⟨7, z, 0, 0, 0, []⟩] ⟨16, 0, 0, 0, 0, [⟨3, bi (lfP 10 y z) y 0, 0, 0, 0, []⟩, ⟨3, bi (lfP 10 y z) 0 3, 0, 0, 0, []⟩]⟩)) 1)
 (ansY ⟨16, 0, 0, 0, 0, [⟨3, bi (lfP 10 y z) y 0, 0, 0, 0, []⟩, ⟨3, bi (lfP 10 y z) 0 3, 0, 0, 0, []⟩]⟩)
 (failR 301))
 (bi (nbeq (bi (nb (nbeq a b)) 1 0) 1)
 (ansY ⟨16, 0, 0, 0, 0, [⟨3, 0, 0, 0, 0, []⟩, ⟨3, 3, 0, 0, 0, []⟩]⟩)
 (ansY ⟨16, 0, 0, 0, 0, [⟨3, a, 0, 0, 0, []⟩, ⟨3, 0, 0, 0, 0, []⟩]⟩)))
 (failR 301)) := by kernel_rfl
theorem l76_11_2_2 (J : Jmp) (y z lp a b : Nat) : lblY Tryz.prog 133 lab76 (baseH Tryz.prog) RE (finY Tryz.prog [.tmp 8, .tmp 9] [3, 32]) (bodyC Tryz.f76) J [0,0,1,0,1,1] [i64 11, i64 y, u64 z, slP lp 1 [i64 a, i64 b], i64 2, i64 2] =
  (bi (nbeq (okN (PureAt Tryz.prog 145 [⟨3, 11, 0, 0, 0, []⟩] ⟨8, bi (leafR 11) 1 0, 0, 0, 0, []⟩)) 1)
 (bi (nbeq (bi (leafR 11) 1 0) 1)
 (bi (nbeq (okN (PureAt Tryz.prog 146 [⟨3, 11, 0, 0, 0, []⟩, ⟨3, y, 0, 0, 0, []⟩, ⟨7, z, 0, 0, 0, []⟩] ⟨16, 0, 0, 0, 0, [⟨3, bi (lfP 11 y z) y 0, 0, 0, 0, []⟩, ⟨3, bi (lfP 11 y z) 0 3, 0, 0, 0, []⟩]⟩)) 1)
 (ansY ⟨16, 0, 0, 0, 0, [⟨3, bi (lfP 11 y z) y 0, 0, 0, 0, []⟩, ⟨3, bi (lfP 11 y z) 0 3, 0, 0, 0, []⟩]⟩)
 (failR 301))
 (bi (nbeq (bi (nb (nbeq a b)) 1 0) 1)
 (ansY ⟨16, 0, 0, 0, 0, [⟨3, 0, 0, 0, 0, []⟩, ⟨3, 3, 0, 0, 0, []⟩]⟩)
 (ansY ⟨16, 0, 0, 0, 0, [⟨3, a, 0, 0, 0, []⟩, ⟨3, 0, 0, 0, 0, []⟩]⟩)))
 (failR 301)) := by kernel_rfl
theorem l76_12_2_2 (J : Jmp) (y z lp a b : Nat) : lblY Tryz.prog 133 lab76 (baseH Tryz.prog) RE (finY Tryz.prog [.tmp 8, .tmp 9] [3, 32]) (bodyC Tryz.f76) J [0,0,1,0,1,1] [i64 12, i64 y, u64 z, slP lp 1 [i64 a, i64 b], i64 2, i64 2] =
  (bi (nbeq (okN (PureAt Tryz.prog 145 [⟨3, 12, 0, 0, 0, []⟩] ⟨8, bi (leafR 12) 1 0, 0, 0, 0, []⟩)) 1)
 (bi (nbeq (bi (leafR 12) 1 0) 1)
 (bi (nbeq (okN (PureAt Tryz.prog 146 [⟨3, 12, 0, 0, 0, []⟩, ⟨3, y, 0, 0, 0, []⟩, ⟨7, z, 0, 0, 0, []⟩] ⟨16, 0, 0, 0, 0, [⟨3, bi (lfP 12 y z) y 0, 0, 0, 0, []⟩, ⟨3, bi (lfP 12 y z) 0 3, 0, 0, 0, []⟩]⟩)) 1)
 (ansY ⟨16, 0, 0, 0, 0, [⟨3, bi (lfP 12 y z) y 0, 0, 0, 0, []⟩, ⟨3, bi (lfP 12 y z) 0 3, 0, 0, 0, []⟩]⟩)
 (failR 301))
 (bi (nbeq (bi (nb (nbeq a b)) 1 0) 1)
 (ansY ⟨16, 0, 0, 0, 0, [⟨3, 0, 0, 0, 0, []⟩, ⟨3, 3, 0, 0, 0, []⟩]⟩)
 (ansY ⟨16, 0, 0, 0, 0, [⟨3, a, 0, 0, 0, []⟩, ⟨3, 0, 0, 0, 0, []⟩]⟩)))
 (failR 301)) := by kernel_rfl
theorem l76_13_2_2 (J : Jmp) (y z lp a b : Nat) : lblY Tryz.prog 133 lab76 (baseH Tryz.prog) RE (finY Tryz.prog [.tmp 8, .tmp 9] [3, 32]) (bodyC Tryz.f76) J [0,0,1,0,1,1] [i64 13, i64 y, u64 z, slP lp 1 [i64 a, i64 b], i64 2, i64 2] =
  (bi (nbeq (okN (PureAt Tryz.prog 145 [⟨3, 13, 0, 0, 0, []⟩] ⟨8, bi (leafR 13) 1 0, 0, 0, 0, []⟩)) 1)
 (bi (nbeq (bi (leafR 13) 1 0) 1)
 (bi (nbeq (okN (PureAt Tryz.prog 146 [⟨3, 13, 0, 0, 0, []⟩, ⟨3, y, 0, 0, 0, []⟩, ⟨7, z, 0, 0, 0, []⟩] ⟨16, 0, 0, 0, 0, [⟨3, bi (lfP 13 y z) y 0, 0, 0, 0, []⟩, ⟨3, bi (lfP 13 y z) 0 3, 0, 0, 0, []⟩]⟩)) 1)
 (ansY ⟨16, 0, 0, 0, 0, [⟨3, bi (lfP 13 y z) y 0, 0, 0, 0, []⟩, ⟨3, bi (lfP 13 y z) 0 3, 0, 0, 0, []⟩]⟩)
 (failR 301))
 (bi (nbeq (bi (nb (nbeq a b)) 1 0) 1)
 (ansY ⟨16, 0, 0, 0, 0, [⟨3, 0, 0, 0, 0, []⟩, ⟨3, 3, 0, 0, 0, []⟩]⟩)
 (ansY ⟨16, 0, 0, 0, 0, [⟨3, a, 0, 0, 0, []⟩, ⟨3, 0, 0, 0, 0, []⟩]⟩)))
 (failR 301)) := by kernel_rfl
theorem l76_14_2_2 (J : Jmp) (y z lp a b : Nat) : lblY Tryz.prog 133 lab76 (baseH Tryz.prog) RE (finY Tryz.prog [.tmp 8, .tmp 9] [3, 32]) (bodyC Tryz.f76) J [0,0,1,0,1,1] [i64 14, i64 y, u64 z, slP lp 1 [i64 a, i64 b], i64 2, i64 2] =
  (bi (nbeq (okN (PureAt Tryz.prog 145 [⟨3, 14, 0, 0, 0, []⟩] ⟨8, bi (leafR 14) 1 0, 0, 0, 0, []⟩)) 1)
 (bi (nbeq (bi (leafR 14) 1 0) 1)
 (bi (nbeq (okN (PureAt Tryz.prog 146 [⟨3, 14, 0, 0, 0, []⟩, ⟨3, y, 0, 0, 0, []⟩, ⟨7, z, 0, 0, 0, []⟩] ⟨16, 0, 0, 0, 0, [⟨3, bi (lfP 14 y z) y 0, 0, 0, 0, []⟩, ⟨3, bi (lfP 14 y z) 0 3, 0, 0, 0, []⟩]⟩)) 1)
 (ansY ⟨16, 0, 0, 0, 0, [⟨3, bi (lfP 14 y z) y 0, 0, 0, 0, []⟩, ⟨3, bi (lfP 14 y z) 0 3, 0, 0, 0, []⟩]⟩)
 (failR 301))
 (bi (nbeq (bi (nb (nbeq a b)) 1 0) 1)
 (ansY ⟨16, 0, 0, 0, 0, [⟨3, 0, 0, 0, 0, []⟩, ⟨3, 3, 0, 0, 0, []⟩]⟩)
 (ansY ⟨16, 0, 0, 0, 0, [⟨3, a, 0, 0, 0, []⟩, ⟨3, 0, 0, 0, 0, []⟩]⟩)))
 (failR 301)) := by kernel_rfl
theorem l76_15_2_2 (J : Jmp) (y z lp a b : Nat) : lblY Tryz.prog 133 lab76 (baseH Tryz.prog) RE (finY Tryz.prog [.tmp 8, .tmp 9] [3, 32]) (bodyC Tryz.f76) J [0,0,1,0,1,1] [i64 15, i64 y, u64 z, slP lp 1 [i64 a, i64 b], i64 2, i64 2] =
  (bi (nbeq (okN (PureAt Tryz.prog 145 [⟨3, 15, 0, 0, 0, []⟩] ⟨8, bi (leafR 15) 1 0, 0, 0, 0, []⟩)) 1)
 (bi (nbeq (bi (leafR 15) 1 0) 1)
 (bi (nbeq (okN (PureAt Tryz.prog 146 [⟨3, 15, 0, 0, 0, []⟩, ⟨3, y, 0, 0, 0, []⟩, ⟨7, z, 0, 0, 0, []⟩] ⟨16, 0, 0, 0, 0, [⟨3, bi (lfP 15 y z) y 0, 0, 0, 0, []⟩, ⟨3, bi (lfP 15 y z) 0 3, 0, 0, 0, []⟩]⟩)) 1)
 (ansY ⟨16, 0, 0, 0, 0, [⟨3, bi (lfP 15 y z) y 0, 0, 0, 0, []⟩, ⟨3, bi (lfP 15 y z) 0 3, 0, 0, 0, []⟩]⟩)
 (failR 301))
 (bi (nbeq (bi (nb (nbeq a b)) 1 0) 1)
 (ansY ⟨16, 0, 0, 0, 0, [⟨3, 0, 0, 0, 0, []⟩, ⟨3, 3, 0, 0, 0, []⟩]⟩)
 (ansY ⟨16, 0, 0, 0, 0, [⟨3, a, 0, 0, 0, []⟩, ⟨3, 0, 0, 0, 0, []⟩]⟩)))
 (failR 301)) := by kernel_rfl
theorem l76_16_2_2 (J : Jmp) (y z lp a b : Nat) : lblY Tryz.prog 133 lab76 (baseH Tryz.prog) RE (finY Tryz.prog [.tmp 8, .tmp 9] [3, 32]) (bodyC Tryz.f76) J [0,0,1,0,1,1] [i64 16, i64 y, u64 z, slP lp 1 [i64 a, i64 b], i64 2, i64 2] =
  (bi (nbeq (okN (PureAt Tryz.prog 145 [⟨3, 16, 0, 0, 0, []⟩] ⟨8, bi (leafR 16) 1 0, 0, 0, 0, []⟩)) 1)
 (bi (nbeq (bi (leafR 16) 1 0) 1)
 (bi (nbeq (okN (PureAt Tryz.prog 146 [⟨3, 16, 0, 0, 0, []⟩, ⟨3, y, 0, 0, 0, []⟩, ⟨7, z, 0, 0, 0, []⟩] ⟨16, 0, 0, 0, 0, [⟨3, bi (lfP 16 y z) y 0, 0, 0, 0, []⟩, ⟨3, bi (lfP 16 y z) 0 3, 0, 0, 0, []⟩]⟩)) 1)
 (ansY ⟨16, 0, 0, 0, 0, [⟨3, bi (lfP 16 y z) y 0, 0, 0, 0, []⟩, ⟨3, bi (lfP 16 y z) 0 3, 0, 0, 0, []⟩]⟩)
 (failR 301))
 (bi (nbeq (bi (nb (nbeq a b)) 1 0) 1)
 (ansY ⟨16, 0, 0, 0, 0, [⟨3, 0, 0, 0, 0, []⟩, ⟨3, 3, 0, 0, 0, []⟩]⟩)
 (ansY ⟨16, 0, 0, 0, 0, [⟨3, 1, 0, 0, 0, []⟩, ⟨3, 0, 0, 0, 0, []⟩]⟩)))
 (failR 301)) := by kernel_rfl
theorem l76_17_2_2 (J : Jmp) (y z lp a b : Nat) : lblY Tryz.prog 133 lab76 (baseH Tryz.prog) RE (finY Tryz.prog [.tmp 8, .tmp 9] [3, 32]) (bodyC Tryz.f76) J [0,0,1,0,1,1] [i64 17, i64 y, u64 z, slP lp 1 [i64 a, i64 b], i64 2, i64 2] =
  (bi (nbeq (okN (PureAt Tryz.prog 145 [⟨3, 17, 0, 0, 0, []⟩] ⟨8, bi (leafR 17) 1 0, 0, 0, 0, []⟩)) 1)
 (bi (nbeq (bi (leafR 17) 1 0) 1)
 (bi (nbeq (okN (PureAt Tryz.prog 146 [⟨3, 17, 0, 0, 0, []⟩, ⟨3, y, 0, 0, 0, []⟩, ⟨7, z, 0, 0, 0, []⟩] ⟨16, 0, 0, 0, 0, [⟨3, bi (lfP 17 y z) y 0, 0, 0, 0, []⟩, ⟨3, bi (lfP 17 y z) 0 3, 0, 0, 0, []⟩]⟩)) 1)
 (ansY ⟨16, 0, 0, 0, 0, [⟨3, bi (lfP 17 y z) y 0, 0, 0, 0, []⟩, ⟨3, bi (lfP 17 y z) 0 3, 0, 0, 0, []⟩]⟩)
 (failR 301))
 (bi (nbeq (bi (nb (nbeq a b)) 1 0) 1)
 (ansY ⟨16, 0, 0, 0, 0, [⟨3, 0, 0, 0, 0, []⟩, ⟨3, 3, 0, 0, 0, []⟩]⟩)
 (ansY ⟨16, 0, 0, 0, 0, [⟨3, 1, 0, 0, 0, []⟩, ⟨3, 0, 0, 0, 0, []⟩]⟩)))
 (failR 301)) := by kernel_rfl
theorem l76_18_2_2 (J : Jmp) (y z lp a b : Nat) : lblY Tryz.prog 133 lab76 (baseH Tryz.prog) RE (finY Tryz.prog [.tmp 8, .tmp 9] [3, 32]) (bodyC Tryz.f76) J [0,0,1,0,1,1] [i64 18, i64 y, u64 z, slP lp 1 [i64 a, i64 b], i64 2, i64 2] =
  (bi (nbeq (okN (PureAt Tryz.prog 145 [⟨3, 18, 0, 0, 0, []⟩] ⟨8, bi (leafR 18) 1 0, 0, 0, 0, []⟩)) 1)
 (bi (nbeq (bi (leafR 18) 1 0) 1)
 (bi (nbeq (okN (PureAt Tryz.prog 146 [⟨3, 18, 0, 0, 0, []⟩, ⟨3, y, 0, 0, 0, []⟩, ⟨7, z, 0, 0, 0, []⟩] ⟨16, 0, 0, 0, 0, [⟨3, bi (lfP 18 y z) y 0, 0, 0, 0, []⟩, ⟨3, bi (lfP 18 y z) 0 3, 0, 0, 0, []⟩]⟩)) 1)
 (ansY ⟨16, 0, 0, 0, 0, [⟨3, bi (lfP 18 y z) y 0, 0, 0, 0, []⟩, ⟨3, bi (lfP 18 y z) 0 3, 0, 0, 0, []⟩]⟩)
 (failR 301))
 (bi (nbeq (bi (nb (nbeq a b)) 1 0) 1)
 (ansY ⟨16, 0, 0, 0, 0, [⟨3, 0, 0, 0, 0, []⟩, ⟨3, 3, 0, 0, 0, []⟩]⟩)
 (ansY ⟨16, 0, 0, 0, 0, [⟨3, 1, 0, 0, 0, []⟩, ⟨3, 0, 0, 0, 0, []⟩]⟩)))
 (failR 301)) := by kernel_rfl
theorem l69_21_1_1 (J : Jmp) (y z lp a : Nat) : lblY Tryz.prog 144 lab69 (baseH Tryz.prog) RE (finY Tryz.prog [.tmp 8, .tmp 9] [3, 32]) (bodyC Tryz.f69) J [0,0,1,0,1,1] [i64 21, i64 y, u64 z, slP lp 1 [i64 a], slP lp 1 [i64 a], i64 1, i64 1] =
  (bi (nbeq (okN (PureAt Tryz.prog 135 [⟨3, 21, 0, 0, 0, []⟩, ⟨3, y, 0, 0, 0, []⟩, ⟨7, z, 0, 0, 0, []⟩, ⟨3, a, 0, 0, 0, []⟩] ⟨16, 0, 0, 0, 0, [⟨3, bi (rsP 21 y z a) y 0, 0, 0, 0, []⟩, ⟨3, bi (rsP 21 y z a) 0 3, 0, 0, 0, []⟩]⟩)) 1)
 (ansY ⟨16, 0, 0, 0, 0, [⟨3, bi (rsP 21 y z a) y 0, 0, 0, 0, []⟩, ⟨3, bi (rsP 21 y z a) 0 3, 0, 0, 0, []⟩]⟩)
 (failR 301)) := by kernel_rfl
theorem l69_22_1_1 (J : Jmp) (y z lp a : Nat) : lblY Tryz.prog 144 lab69 (baseH Tryz.prog) RE (finY Tryz.prog [.tmp 8, .tmp 9] [3, 32]) (bodyC Tryz.f69) J [0,0,1,0,1,1] [i64 22, i64 y, u64 z, slP lp 1 [i64 a], slP lp 1 [i64 a], i64 1, i64 1] =
  (bi (nbeq (okN (PureAt Tryz.prog 135 [⟨3, 22, 0, 0, 0, []⟩, ⟨3, y, 0, 0, 0, []⟩, ⟨7, z, 0, 0, 0, []⟩, ⟨3, a, 0, 0, 0, []⟩] ⟨16, 0, 0, 0, 0, [⟨3, bi (rsP 22 y z a) y 0, 0, 0, 0, []⟩, ⟨3, bi (rsP 22 y z a) 0 3, 0, 0, 0, []⟩]⟩)) 1)
 (ansY ⟨16, 0, 0, 0, 0, [⟨3, bi (rsP 22 y z a) y 0, 0, 0, 0, []⟩, ⟨3, bi (rsP 22 y z a) 0 3, 0, 0, 0, []⟩]⟩)
 (failR 301)) := by kernel_rfl
theorem l69_23_1_1 (J : Jmp) (y z lp a : Nat) : lblY Tryz.prog 144 lab69 (baseH Tryz.prog) RE (finY Tryz.prog [.tmp 8, .tmp 9] [3, 32]) (bodyC Tryz.f69) J [0,0,1,0,1,1] [i64 23, i64 y, u64 z, slP lp 1 [i64 a], slP lp 1 [i64 a], i64 1, i64 1] =
  (bi (nbeq (okN (PureAt Tryz.prog 135 [⟨3, 23, 0, 0, 0, []⟩, ⟨3, y, 0, 0, 0, []⟩, ⟨7, z, 0, 0, 0, []⟩, ⟨3, a, 0, 0, 0, []⟩] ⟨16, 0, 0, 0, 0, [⟨3, bi (rsP 23 y z a) y 0, 0, 0, 0, []⟩, ⟨3, bi (rsP 23 y z a) 0 3, 0, 0, 0, []⟩]⟩)) 1)
 (ansY ⟨16, 0, 0, 0, 0, [⟨3, bi (rsP 23 y z a) y 0, 0, 0, 0, []⟩, ⟨3, bi (rsP 23 y z a) 0 3, 0, 0, 0, []⟩]⟩)
 (failR 301)) := by kernel_rfl
theorem l69_24_0_0 (J : Jmp) (y z lp : Nat) : lblY Tryz.prog 144 lab69 (baseH Tryz.prog) RE (finY Tryz.prog [.tmp 8, .tmp 9] [3, 32]) (bodyC Tryz.f69) J [0,0,1,0,1,1] [i64 24, i64 y, u64 z, slP lp 1 [], slP lp 1 [], i64 0, i64 0] =
  (bi (nbeq (okN (PureAt Tryz.prog 134 [⟨3, 24, 0, 0, 0, []⟩, ⟨3, y, 0, 0, 0, []⟩, ⟨7, z, 0, 0, 0, []⟩] ⟨16, 0, 0, 0, 0, [⟨3, bi (lfP 24 y z) y 0, 0, 0, 0, []⟩, ⟨3, bi (lfP 24 y z) 0 3, 0, 0, 0, []⟩]⟩)) 1)
 (ansY ⟨16, 0, 0, 0, 0, [⟨3, bi (lfP 24 y z) y 0, 0, 0, 0, []⟩, ⟨3, bi (lfP 24 y z) 0 3, 0, 0, 0, []⟩]⟩)
 (failR 301)) := by kernel_rfl
theorem l69_25_0_0 (J : Jmp) (y z lp : Nat) : lblY Tryz.prog 144 lab69 (baseH Tryz.prog) RE (finY Tryz.prog [.tmp 8, .tmp 9] [3, 32]) (bodyC Tryz.f69) J [0,0,1,0,1,1] [i64 25, i64 y, u64 z, slP lp 1 [], slP lp 1 [], i64 0, i64 0] =
  (bi (nbeq (okN (PureAt Tryz.prog 134 [⟨3, 25, 0, 0, 0, []⟩, ⟨3, y, 0, 0, 0, []⟩, ⟨7, z, 0, 0, 0, []⟩] ⟨16, 0, 0, 0, 0, [⟨3, bi (lfP 25 y z) y 0, 0, 0, 0, []⟩, ⟨3, bi (lfP 25 y z) 0 3, 0, 0, 0, []⟩]⟩)) 1)
 (ansY ⟨16, 0, 0, 0, 0, [⟨3, bi (lfP 25 y z) y 0, 0, 0, 0, []⟩, ⟨3, bi (lfP 25 y z) 0 3, 0, 0, 0, []⟩]⟩)
 (failR 301)) := by kernel_rfl
theorem l69_26_1_1 (J : Jmp) (y z lp a : Nat) : lblY Tryz.prog 144 lab69 (baseH Tryz.prog) RE (finY Tryz.prog [.tmp 8, .tmp 9] [3, 32]) (bodyC Tryz.f69) J [0,0,1,0,1,1] [i64 26, i64 y, u64 z, slP lp 1 [i64 a], slP lp 1 [i64 a], i64 1, i64 1] =
  (ansY ⟨16, 0, 0, 0, 0, [⟨3, a, 0, 0, 0, []⟩, ⟨3, 0, 0, 0, 0, []⟩]⟩) := by kernel_rfl
theorem l76_21_1_1 (J : Jmp) (y z lp a : Nat) : lblY Tryz.prog 133 lab76 (baseH Tryz.prog) RE (finY Tryz.prog [.tmp 8, .tmp 9] [3, 32]) (bodyC Tryz.f76) J [0,0,1,0,1,1] [i64 21, i64 y, u64 z, slP lp 1 [i64 a], i64 1, i64 1] =
  (bi (nbeq (okN (PureAt Tryz.prog 145 [⟨3, 21, 0, 0, 0, []⟩] ⟨8, bi (leafR 21) 1 0, 0, 0, 0, []⟩)) 1)
 (bi (nbeq (bi (leafR 21) 1 0) 1)
 (bi (nbeq (okN (PureAt Tryz.prog 146 [⟨3, 21, 0, 0, 0, []⟩, ⟨3, y, 0, 0, 0, []⟩, ⟨7, z, 0, 0, 0, []⟩] ⟨16, 0, 0, 0, 0, [⟨3, bi (lfP 21 y z) y 0, 0, 0, 0, []⟩, ⟨3, bi (lfP 21 y z) 0 3, 0, 0, 0, []⟩]⟩)) 1)
 (ansY ⟨16, 0, 0, 0, 0, [⟨3, bi (lfP 21 y z) y 0, 0, 0, 0, []⟩, ⟨3, bi (lfP 21 y z) 0 3, 0, 0, 0, []⟩]⟩)
 (failR 301))
 (bi (nbeq (okN (PureAt Tryz.prog 147 [⟨3, 21, 0, 0, 0, []⟩, ⟨3, y, 0, 0, 0, []⟩, ⟨7, z, 0, 0, 0, []⟩, ⟨3, a, 0, 0, 0, []⟩] ⟨16, 0, 0, 0, 0, [⟨3, bi (rsP 21 y z a) y 0, 0, 0, 0, []⟩, ⟨3, bi (rsP 21 y z a) 0 3, 0, 0, 0, []⟩]⟩)) 1)
 (ansY ⟨16, 0, 0, 0, 0, [⟨3, bi (rsP 21 y z a) y 0, 0, 0, 0, []⟩, ⟨3, bi (rsP 21 y z a) 0 3, 0, 0, 0, []⟩]⟩)
 (failR 301)))
 (failR 301)) := by kernel_rfl
theorem l76_22_1_1 (J : Jmp) (y z lp a : Nat) : lblY Tryz.prog 133 lab76 (baseH Tryz.prog) RE (finY Tryz.prog [.tmp 8, .tmp 9] [3, 32]) (bodyC Tryz.f76) J [0,0,1,0,1,1] [i64 22, i64 y, u64 z, slP lp 1 [i64 a], i64 1, i64 1] =
  (bi (nbeq (okN (PureAt Tryz.prog 145 [⟨3, 22, 0, 0, 0, []⟩] ⟨8, bi (leafR 22) 1 0, 0, 0, 0, []⟩)) 1)
 (bi (nbeq (bi (leafR 22) 1 0) 1)
 (bi (nbeq (okN (PureAt Tryz.prog 146 [⟨3, 22, 0, 0, 0, []⟩, ⟨3, y, 0, 0, 0, []⟩, ⟨7, z, 0, 0, 0, []⟩] ⟨16, 0, 0, 0, 0, [⟨3, bi (lfP 22 y z) y 0, 0, 0, 0, []⟩, ⟨3, bi (lfP 22 y z) 0 3, 0, 0, 0, []⟩]⟩)) 1)
 (ansY ⟨16, 0, 0, 0, 0, [⟨3, bi (lfP 22 y z) y 0, 0, 0, 0, []⟩, ⟨3, bi (lfP 22 y z) 0 3, 0, 0, 0, []⟩]⟩)
 (failR 301))
 (bi (nbeq (okN (PureAt Tryz.prog 147 [⟨3, 22, 0, 0, 0, []⟩, ⟨3, y, 0, 0, 0, []⟩, ⟨7, z, 0, 0, 0, []⟩, ⟨3, a, 0, 0, 0, []⟩] ⟨16, 0, 0, 0, 0, [⟨3, bi (rsP 22 y z a) y 0, 0, 0, 0, []⟩, ⟨3, bi (rsP 22 y z a) 0 3, 0, 0, 0, []⟩]⟩)) 1)
 (ansY ⟨16, 0, 0, 0, 0, [⟨3, bi (rsP 22 y z a) y 0, 0, 0, 0, []⟩, ⟨3, bi (rsP 22 y z a) 0 3, 0, 0, 0, []⟩]⟩)
 (failR 301)))
 (failR 301)) := by kernel_rfl
theorem l76_23_1_1 (J : Jmp) (y z lp a : Nat) : lblY Tryz.prog 133 lab76 (baseH Tryz.prog) RE (finY Tryz.prog [.tmp 8, .tmp 9] [3, 32]) (bodyC Tryz.f76) J [0,0,1,0,1,1] [i64 23, i64 y, u64 z, slP lp 1 [i64 a], i64 1, i64 1] =
  (bi (nbeq (okN (PureAt Tryz.prog 145 [⟨3, 23, 0, 0, 0, []⟩] ⟨8, bi (leafR 23) 1 0, 0, 0, 0, []⟩)) 1)
 (bi (nbeq (bi (leafR 23) 1 0) 1)
 (bi (nbeq (okN (PureAt Tryz.prog 146 [⟨3, 23, 0, 0, 0, []⟩, ⟨3, y, 0, 0, 0, []⟩, ⟨7, z, 0, 0, 0, []⟩] ⟨16, 0, 0, 0, 0, [⟨3, bi (lfP 23 y z) y 0, 0, 0, 0, []⟩, ⟨3, bi (lfP 23 y z) 0 3, 0, 0, 0, []⟩]⟩)) 1)
 (ansY ⟨16, 0, 0, 0, 0, [⟨3, bi (lfP 23 y z) y 0, 0, 0, 0, []⟩, ⟨3, bi (lfP 23 y z) 0 3, 0, 0, 0, []⟩]⟩)
 (failR 301))
 (bi (nbeq (okN (PureAt Tryz.prog 147 [⟨3, 23, 0, 0, 0, []⟩, ⟨3, y, 0, 0, 0, []⟩, ⟨7, z, 0, 0, 0, []⟩, ⟨3, a, 0, 0, 0, []⟩] ⟨16, 0, 0, 0, 0, [⟨3, bi (rsP 23 y z a) y 0, 0, 0, 0, []⟩, ⟨3, bi (rsP 23 y z a) 0 3, 0, 0, 0, []⟩]⟩)) 1)
 (ansY ⟨16, 0, 0, 0, 0, [⟨3, bi (rsP 23 y z a) y 0, 0, 0, 0, []⟩, ⟨3, bi (rsP 23 y z a) 0 3, 0, 0, 0, []⟩]⟩)
 (failR 301)))
 (failR 301)) := by kernel_rfl
theorem l76_24_0_0 (J : Jmp) (y z lp : Nat) : lblY Tryz.prog 133 lab76 (baseH Tryz.prog) RE (finY Tryz.prog [.tmp 8, .tmp 9] [3, 32]) (bodyC Tryz.f76) J [0,0,1,0,1,1] [i64 24, i64 y, u64 z, slP lp 1 [], i64 0, i64 0] =
  (bi (nbeq (okN (PureAt Tryz.prog 145 [⟨3, 24, 0, 0, 0, []⟩] ⟨8, bi (leafR 24) 1 0, 0, 0, 0, []⟩)) 1)
 (bi (nbeq (bi (leafR 24) 1 0) 1)
 (bi (nbeq (okN (PureAt Tryz.prog 146 [⟨3, 24, 0, 0, 0, []⟩, ⟨3, y, 0, 0, 0, []⟩, ⟨7, z, 0, 0, 0, []⟩] ⟨16, 0, 0, 0, 0, [⟨3, bi (lfP 24 y z) y 0, 0, 0, 0, []⟩, ⟨3, bi (lfP 24 y z) 0 3, 0, 0, 0, []⟩]⟩)) 1)
 (ansY ⟨16, 0, 0, 0, 0, [⟨3, bi (lfP 24 y z) y 0, 0, 0, 0, []⟩, ⟨3, bi (lfP 24 y z) 0 3, 0, 0, 0, []⟩]⟩)
 (failR 301))
 (failR 205))
 (failR 301)) := by kernel_rfl
theorem l76_25_0_0 (J : Jmp) (y z lp : Nat) : lblY Tryz.prog 133 lab76 (baseH Tryz.prog) RE (finY Tryz.prog [.tmp 8, .tmp 9] [3, 32]) (bodyC Tryz.f76) J [0,0,1,0,1,1] [i64 25, i64 y, u64 z, slP lp 1 [], i64 0, i64 0] =
  (bi (nbeq (okN (PureAt Tryz.prog 145 [⟨3, 25, 0, 0, 0, []⟩] ⟨8, bi (leafR 25) 1 0, 0, 0, 0, []⟩)) 1)
 (bi (nbeq (bi (leafR 25) 1 0) 1)
 (bi (nbeq (okN (PureAt Tryz.prog 146 [⟨3, 25, 0, 0, 0, []⟩, ⟨3, y, 0, 0, 0, []⟩, ⟨7, z, 0, 0, 0, []⟩] ⟨16, 0, 0, 0, 0, [⟨3, bi (lfP 25 y z) y 0, 0, 0, 0, []⟩, ⟨3, bi (lfP 25 y z) 0 3, 0, 0, 0, []⟩]⟩)) 1)
 (ansY ⟨16, 0, 0, 0, 0, [⟨3, bi (lfP 25 y z) y 0, 0, 0, 0, []⟩, ⟨3, bi (lfP 25 y z) 0 3, 0, 0, 0, []⟩]⟩)
 (failR 301))
 (failR 205))
 (failR 301)) := by kernel_rfl
theorem l76_26_1_1 (J : Jmp) (y z lp a : Nat) : lblY Tryz.prog 133 lab76 (baseH Tryz.prog) RE (finY Tryz.prog [.tmp 8, .tmp 9] [3, 32]) (bodyC Tryz.f76) J [0,0,1,0,1,1] [i64 26, i64 y, u64 z, slP lp 1 [i64 a], i64 1, i64 1] =
  (bi (nbeq (okN (PureAt Tryz.prog 145 [⟨3, 26, 0, 0, 0, []⟩] ⟨8, bi (leafR 26) 1 0, 0, 0, 0, []⟩)) 1)
 (bi (nbeq (bi (leafR 26) 1 0) 1)
 (bi (nbeq (okN (PureAt Tryz.prog 146 [⟨3, 26, 0, 0, 0, []⟩, ⟨3, y, 0, 0, 0, []⟩, ⟨7, z, 0, 0, 0, []⟩] ⟨16, 0, 0, 0, 0, [⟨3, bi (lfP 26 y z) y 0, 0, 0, 0, []⟩, ⟨3, bi (lfP 26 y z) 0 3, 0, 0, 0, []⟩]⟩)) 1)
 (ansY ⟨16, 0, 0, 0, 0, [⟨3, bi (lfP 26 y z) y 0, 0, 0, 0, []⟩, ⟨3, bi (lfP 26 y z) 0 3, 0, 0, 0, []⟩]⟩)
 (failR 301))
 (ansY ⟨16, 0, 0, 0, 0, [⟨3, a, 0, 0, 0, []⟩, ⟨3, 0, 0, 0, 0, []⟩]⟩))
 (failR 301)) := by kernel_rfl
theorem l69_19_3_3 (J : Jmp) (y z lp a b c : Nat) : lblY Tryz.prog 144 lab69 (baseH Tryz.prog) RE (finY Tryz.prog [.tmp 8, .tmp 9] [3, 32]) (bodyC Tryz.f69) J [0,0,1,0,1,1] [i64 19, i64 y, u64 z, slP lp 1 [i64 a, i64 b, i64 c], slP lp 1 [i64 a, i64 b, i64 c], i64 3, i64 3] =
  (bi (nbeq (bi (nbeq a 1) 1 0) 1)
 (bi (nbeq (okN (PureAt Tryz.prog 136 [⟨8, bi (nbeq b c) 1 0, 0, 0, 0, []⟩, ⟨3, b, 0, 0, 0, []⟩] ⟨16, 0, 0, 0, 0, [⟨3, bi (nbeq (bi (nbeq b c) 1 0) 1) b 0, 0, 0, 0, []⟩, ⟨3, bi (nbeq (bi (nbeq b c) 1 0) 1) 0 3, 0, 0, 0, []⟩]⟩)) 1)
 (ansY ⟨16, 0, 0, 0, 0, [⟨3, bi (nbeq (bi (nbeq b c) 1 0) 1) b 0, 0, 0, 0, []⟩, ⟨3, bi (nbeq (bi (nbeq b c) 1 0) 1) 0 3, 0, 0, 0, []⟩]⟩)
 (failR 301))
 (bi (nbeq (bi (nbeq a 1) 1 0) 0)
 (bi (nbeq (okN (PureAt Tryz.prog 136 [⟨8, 0, 0, 0, 0, []⟩, ⟨3, b, 0, 0, 0, []⟩] ⟨16, 0, 0, 0, 0, [⟨3, 0, 0, 0, 0, []⟩, ⟨3, 3, 0, 0, 0, []⟩]⟩)) 1)
 (ansY ⟨16, 0, 0, 0, 0, [⟨3, 0, 0, 0, 0, []⟩, ⟨3, 3, 0, 0, 0, []⟩]⟩)
 (failR 301))
 (failR 40))) := by kernel_rfl
theorem l76_19_3_3 (J : Jmp) (y z lp a b c : Nat) : lblY Tryz.prog 133 lab76 (baseH Tryz.prog) RE (finY Tryz.prog [.tmp 8, .tmp 9] [3, 32]) (bodyC Tryz.f76) J [0,0,1,0,1,1] [i64 19, i64 y, u64 z, slP lp 1 [i64 a, i64 b, i64 c], i64 3, i64 3] =
  (bi (nbeq (okN (PureAt Tryz.prog 145 [⟨3, 19, 0, 0, 0, []⟩] ⟨8, bi (leafR 19) 1 0, 0, 0, 0, []⟩)) 1)
 (bi (nbeq (bi (leafR 19) 1 0) 1)
 (bi (nbeq (okN (PureAt Tryz.prog 146 [⟨3, 19, 0, 0, 0, []⟩, ⟨3, y, 0, 0, 0, []⟩, ⟨7, z, 0, 0, 0, []⟩] ⟨16, 0, 0, 0, 0, [⟨3, bi (lfP 19 y z) y 0, 0, 0, 0, []⟩, ⟨3, bi (lfP 19 y z) 0 3, 0, 0, 0, []⟩]⟩)) 1)
 (ansY ⟨16, 0, 0, 0, 0, [⟨3, bi (lfP 19 y z) y 0, 0, 0, 0, []⟩, ⟨3, bi (lfP 19 y z) 0 3, 0, 0, 0, []⟩]⟩)
 (failR 301))
 (bi (nbeq (bi (nb (nbeq a 1)) 1 0) 1)
 (ansY ⟨16, 0, 0, 0, 0, [⟨3, 0, 0, 0, 0, []⟩, ⟨3, 3, 0, 0, 0, []⟩]⟩)
 (bi (nbeq (bi (nb (nbeq a 1)) 1 0) 0)
 (bi (nbeq (bi (nb (nbeq b c)) 1 0) 1)
 (ansY ⟨16, 0, 0, 0, 0, [⟨3, 0, 0, 0, 0, []⟩, ⟨3, 3, 0, 0, 0, []⟩]⟩)
 (ansY ⟨16, 0, 0, 0, 0, [⟨3, b, 0, 0, 0, []⟩, ⟨3, 0, 0, 0, 0, []⟩]⟩))
 (failR 40))))
 (failR 301)) := by kernel_rfl
theorem l76_20_2_2 (J : Jmp) (y z lp a b : Nat) : lblY Tryz.prog 133 lab76 (baseH Tryz.prog) RE (finY Tryz.prog [.tmp 8, .tmp 9] [3, 32]) (bodyC Tryz.f76) J [0,0,1,0,1,1] [i64 20, i64 y, u64 z, slP lp 1 [i64 a, i64 b], i64 2, i64 2] =
  (bi (nbeq (okN (PureAt Tryz.prog 145 [⟨3, 20, 0, 0, 0, []⟩] ⟨8, bi (leafR 20) 1 0, 0, 0, 0, []⟩)) 1)
 (bi (nbeq (bi (leafR 20) 1 0) 1)
 (bi (nbeq (okN (PureAt Tryz.prog 146 [⟨3, 20, 0, 0, 0, []⟩, ⟨3, y, 0, 0, 0, []⟩, ⟨7, z, 0, 0, 0, []⟩] ⟨16, 0, 0, 0, 0, [⟨3, bi (lfP 20 y z) y 0, 0, 0, 0, []⟩, ⟨3, bi (lfP 20 y z) 0 3, 0, 0, 0, []⟩]⟩)) 1)
 (ansY ⟨16, 0, 0, 0, 0, [⟨3, bi (lfP 20 y z) y 0, 0, 0, 0, []⟩, ⟨3, bi (lfP 20 y z) 0 3, 0, 0, 0, []⟩]⟩)
 (failR 301))
 (bi (nbeq (bi (nb (nble 9223372036854775809 (biased 3 a))) 1 0) 1)
 (ansY ⟨16, 0, 0, 0, 0, [⟨3, 0, 0, 0, 0, []⟩, ⟨3, 3, 0, 0, 0, []⟩]⟩)
 (bi (nbeq (bi (nb (nble 9223372036854775809 (biased 3 a))) 1 0) 0)
 (bi (nbeq (bi (nb (nble 9223372036854775809 (biased 3 b))) 1 0) 1)
 (ansY ⟨16, 0, 0, 0, 0, [⟨3, 0, 0, 0, 0, []⟩, ⟨3, 3, 0, 0, 0, []⟩]⟩)
 (bi (nbeq (bi (nb (nble 9223372036854775809 (biased 3 b))) 1 0) 0)
 (bi (nbeq (bi (nb (nble (biased 3 (gt2 (fun a b => (a.add b).mod (kMod (kCode IntKind.i64))) a b)) 9223372036854775872)) 1 0) 1)
 (ansY ⟨16, 0, 0, 0, 0, [⟨3, 0, 0, 0, 0, []⟩, ⟨3, 3, 0, 0, 0, []⟩]⟩)
 (ansY ⟨16, 0, 0, 0, 0, [⟨3, gt2 (fun a b => (a.add b).mod (kMod (kCode IntKind.i64))) a b, 0, 0, 0, []⟩, ⟨3, 0, 0, 0, 0, []⟩]⟩))
 (failR 40)))
 (failR 40))))
 (failR 301)) := by kernel_rfl
theorem l69_20_2_2 (J : Jmp) (y z lp a b : Nat) : lblY Tryz.prog 144 lab69 (baseH Tryz.prog) RE (finY Tryz.prog [.tmp 8, .tmp 9] [3, 32]) (bodyC Tryz.f69) J [0,0,1,0,1,1] [i64 20, i64 y, u64 z, slP lp 1 [i64 a, i64 b], slP lp 1 [i64 a, i64 b], i64 2, i64 2] =
  (bi (nbeq (bi (nble 9223372036854775809 (biased 3 a)) 1 0) 1)
 (bi (nbeq (bi (nble 9223372036854775809 (biased 3 b)) 1 0) 1)
 (bi (nbeq (okN (PureAt Tryz.prog 136 [⟨8, bi (nble (biased 3 (gt2 (fun a b => (a.add b).mod (kMod (kCode IntKind.i64))) a b)) 9223372036854775872) 1 0, 0, 0, 0, []⟩, ⟨3, gt2 (fun a b => (a.add b).mod (kMod (kCode IntKind.i64))) a b, 0, 0, 0, []⟩] ⟨16, 0, 0, 0, 0, [⟨3, bi (nbeq (bi (nble (biased 3 (gt2 (fun a b => (a.add b).mod (kMod (kCode IntKind.i64))) a b)) 9223372036854775872) 1 0) 1) (gt2 (fun a b => (a.add b).mod (kMod (kCode IntKind.i64))) a b) 0, 0, 0, 0, []⟩, ⟨3, bi (nbeq (bi (nble (biased 3 (gt2 (fun a b => (a.add b).mod (kMod (kCode IntKind.i64))) a b)) 9223372036854775872) 1 0) 1) 0 3, 0, 0, 0, []⟩]⟩)) 1)
 (ansY ⟨16, 0, 0, 0, 0, [⟨3, bi (nbeq (bi (nble (biased 3 (gt2 (fun a b => (a.add b).mod (kMod (kCode IntKind.i64))) a b)) 9223372036854775872) 1 0) 1) (gt2 (fun a b => (a.add b).mod (kMod (kCode IntKind.i64))) a b) 0, 0, 0, 0, []⟩, ⟨3, bi (nbeq (bi (nble (biased 3 (gt2 (fun a b => (a.add b).mod (kMod (kCode IntKind.i64))) a b)) 9223372036854775872) 1 0) 1) 0 3, 0, 0, 0, []⟩]⟩)
 (failR 301))
 (bi (nbeq (bi (nble 9223372036854775809 (biased 3 b)) 1 0) 0)
 (bi (nbeq (okN (PureAt Tryz.prog 136 [⟨8, 0, 0, 0, 0, []⟩, ⟨3, gt2 (fun a b => (a.add b).mod (kMod (kCode IntKind.i64))) a b, 0, 0, 0, []⟩] ⟨16, 0, 0, 0, 0, [⟨3, 0, 0, 0, 0, []⟩, ⟨3, 3, 0, 0, 0, []⟩]⟩)) 1)
 (ansY ⟨16, 0, 0, 0, 0, [⟨3, 0, 0, 0, 0, []⟩, ⟨3, 3, 0, 0, 0, []⟩]⟩)
 (failR 301))
 (failR 40)))
 (bi (nbeq (bi (nble 9223372036854775809 (biased 3 a)) 1 0) 0)
 (bi (nbeq (okN (PureAt Tryz.prog 136 [⟨8, 0, 0, 0, 0, []⟩, ⟨3, gt2 (fun a b => (a.add b).mod (kMod (kCode IntKind.i64))) a b, 0, 0, 0, []⟩] ⟨16, 0, 0, 0, 0, [⟨3, 0, 0, 0, 0, []⟩, ⟨3, 3, 0, 0, 0, []⟩]⟩)) 1)
 (ansY ⟨16, 0, 0, 0, 0, [⟨3, 0, 0, 0, 0, []⟩, ⟨3, 3, 0, 0, 0, []⟩]⟩)
 (failR 301))
 (failR 40))) := by kernel_rfl
theorem body69 : Tryz.f69.body = some (bodyC Tryz.f69) := by kernel_rfl
theorem fn69 : Tryz.prog.funcs[69]? = some Tryz.f69 := by kernel_rfl
theorem nt69 : Tryz.f69.ntmps = 144 := by kernel_rfl
theorem rs69 : Tryz.f69.results.toList = [.tmp 8, .tmp 9] := by kernel_rfl
theorem body76 : Tryz.f76.body = some (bodyC Tryz.f76) := by kernel_rfl
theorem fn76 : Tryz.prog.funcs[76]? = some Tryz.f76 := by kernel_rfl
theorem nt76 : Tryz.f76.ntmps = 133 := by kernel_rfl
theorem rs76 : Tryz.f76.results.toList = [.tmp 8, .tmp 9] := by kernel_rfl

noncomputable def wv (p : Nat × Nat) : AV := tupV [i64 p.1, i64 p.2]
theorem wd_0 {op y z : Nat} (har : arT op = 0) (ho : ¬ (op = 0 ∨ 26 < op)) : wdP op y z [] = (if lfP op y z = true then (y, 0) else (0, 3)) := by
  unfold wdP
  rw [if_neg (by rw [har]; simp; omega), if_neg (by simp)]
theorem wd_1 {op y z a : Nat} (har : arT op = 1) (ho : ¬ (op = 0 ∨ 26 < op)) (ha : a ≤ 64) : wdP op y z [a] = (if op = 21 ∨ op = 22 ∨ op = 23 then (if rsP op y z a = true then (y, 0) else (0, 3)) else (a, 0)) := by
  unfold wdP
  rw [if_neg (by rw [har]; simp; omega), if_neg (by simp [ha])]
theorem wd_2 {op y z a b : Nat} (har : arT op = 2) (ho : ¬ (op = 0 ∨ 26 < op)) (ha : a ≤ 64) (hb : b ≤ 64) : wdP op y z [a, b] = (if op = 20 then (if 1 ≤ a ∧ 1 ≤ b ∧ a + b ≤ 64 then (a + b, 0) else (0, 3)) else if a = b then (if op = 16 ∨ op = 17 ∨ op = 18 then (1, 0) else (a, 0)) else (0, 3)) := by
  unfold wdP
  rw [if_neg (by rw [har]; simp; omega), if_neg (by simp [ha, hb])]
theorem wd_3 {op y z a b c : Nat} (har : arT op = 3) (ho : ¬ (op = 0 ∨ 26 < op)) (ha : a ≤ 64) (hb : b ≤ 64) (hc : c ≤ 64) : wdP op y z [a, b, c] = (if a = 1 ∧ b = c then (b, 0) else (0, 3)) := by
  unfold wdP
  rw [if_neg (by rw [har]; simp; omega), if_neg (by simp [ha, hb, hc])]
theorem wd_bad {op y z : Nat} {ws : List Nat} (h : op = 0 ∨ 26 < op ∨ ws.length ≠ arT op) : wdP op y z ws = (0, 4) := by
  unfold wdP
  rw [if_pos h]
theorem wd_big {op y z : Nat} {ws : List Nat} (h : ¬ (op = 0 ∨ 26 < op ∨ ws.length ≠ arT op)) {a : Nat} (hm : a ∈ ws) (ha : ¬ a ≤ 64) : wdP op y z ws = (0, 3) := by
  unfold wdP
  rw [if_neg h, if_pos (by rw [← Bool.not_eq_true, List.all_eq_true]; intro hh; have := hh a hm; simp at this; omega)]
theorem addN {a b : Nat} (h : a + b < 2 ^ 64) : gt2 (fun a b => (a.add b).mod (kMod (kCode IntKind.i64))) a b = a + b := by
  rw [gt2_eq]
  have e : kMod (kCode IntKind.i64) = 2 ^ 64 := by decide +kernel
  rw [e]
  exact Nat.mod_eq_of_lt h
theorem one_le {a : Nat} (h : a ≤ 64) : nble 9223372036854775809 (biased 3 a) = decide (1 ≤ a) := by
  rw [biased3s (by omega), nble_dec, decide_eq_decide]; omega
theorem le_64 {a : Nat} (h : a ≤ 1000) : nble (biased 3 a) 9223372036854775872 = decide (a ≤ 64) := by
  rw [biased3s (by omega), nble_dec, decide_eq_decide]; omega
theorem bl_bi0 {α : Type} (c : Bool) (a b : α) : bi (nbeq (bi c 1 0) 0) a b = bi c b a := by cases c <;> rfl
theorem st69_1_0 (n x y z lp a : Nat) (hx : a < 2 ^ 64) : jmpN Tryz.prog 144 lab69 (baseH Tryz.prog) RE (finY Tryz.prog [.tmp 8, .tmp 9] [3, 32]) (bodyC Tryz.f69) (n + 1) [0,0,1,0,1,1] [i64 x, i64 y, u64 z, slP lp 1 [i64 a], slP lp 1 [i64 a], i64 1, i64 0] = bi (decide (a ≤ 64)) (jmpN Tryz.prog 144 lab69 (baseH Tryz.prog) RE (finY Tryz.prog [.tmp 8, .tmp 9] [3, 32]) (bodyC Tryz.f69) n [0,0,1,0,1,1] [i64 x, i64 y, u64 z, slP lp 1 [i64 a], slP lp 1 [i64 a], i64 1, i64 1]) (ansY (wv (0, 3))) := by
  have p := okN_one.2 (pure133 a)
  rw [ins_iff hx] at p
  simp only [bV, mk1] at p
  rw [jmpN_succ, l69_x_1_0]
  rw [ins_iff hx]
  simp only [mk_i64, mk_u64, mk_slP, p, b0, bS, bl_bi, n11, bi_tt]
  rfl
theorem st69_2_0 (n x y z lp a b : Nat) (hx : a < 2 ^ 64) : jmpN Tryz.prog 144 lab69 (baseH Tryz.prog) RE (finY Tryz.prog [.tmp 8, .tmp 9] [3, 32]) (bodyC Tryz.f69) (n + 1) [0,0,1,0,1,1] [i64 x, i64 y, u64 z, slP lp 1 [i64 a, i64 b], slP lp 1 [i64 a, i64 b], i64 2, i64 0] = bi (decide (a ≤ 64)) (jmpN Tryz.prog 144 lab69 (baseH Tryz.prog) RE (finY Tryz.prog [.tmp 8, .tmp 9] [3, 32]) (bodyC Tryz.f69) n [0,0,1,0,1,1] [i64 x, i64 y, u64 z, slP lp 1 [i64 a, i64 b], slP lp 1 [i64 a, i64 b], i64 2, i64 1]) (ansY (wv (0, 3))) := by
  have p := okN_one.2 (pure133 a)
  rw [ins_iff hx] at p
  simp only [bV, mk1] at p
  rw [jmpN_succ, l69_x_2_0]
  rw [ins_iff hx]
  simp only [mk_i64, mk_u64, mk_slP, p, b0, bS, bl_bi, n11, bi_tt]
  rfl
theorem st69_2_1 (n x y z lp a b : Nat) (hx : b < 2 ^ 64) : jmpN Tryz.prog 144 lab69 (baseH Tryz.prog) RE (finY Tryz.prog [.tmp 8, .tmp 9] [3, 32]) (bodyC Tryz.f69) (n + 1) [0,0,1,0,1,1] [i64 x, i64 y, u64 z, slP lp 1 [i64 a, i64 b], slP lp 1 [i64 a, i64 b], i64 2, i64 1] = bi (decide (b ≤ 64)) (jmpN Tryz.prog 144 lab69 (baseH Tryz.prog) RE (finY Tryz.prog [.tmp 8, .tmp 9] [3, 32]) (bodyC Tryz.f69) n [0,0,1,0,1,1] [i64 x, i64 y, u64 z, slP lp 1 [i64 a, i64 b], slP lp 1 [i64 a, i64 b], i64 2, i64 2]) (ansY (wv (0, 3))) := by
  have p := okN_one.2 (pure133 b)
  rw [ins_iff hx] at p
  simp only [bV, mk1] at p
  rw [jmpN_succ, l69_x_2_1]
  rw [ins_iff hx]
  simp only [mk_i64, mk_u64, mk_slP, p, b0, bS, bl_bi, n11, bi_tt]
  rfl
theorem st69_3_0 (n x y z lp a b c : Nat) (hx : a < 2 ^ 64) : jmpN Tryz.prog 144 lab69 (baseH Tryz.prog) RE (finY Tryz.prog [.tmp 8, .tmp 9] [3, 32]) (bodyC Tryz.f69) (n + 1) [0,0,1,0,1,1] [i64 x, i64 y, u64 z, slP lp 1 [i64 a, i64 b, i64 c], slP lp 1 [i64 a, i64 b, i64 c], i64 3, i64 0] = bi (decide (a ≤ 64)) (jmpN Tryz.prog 144 lab69 (baseH Tryz.prog) RE (finY Tryz.prog [.tmp 8, .tmp 9] [3, 32]) (bodyC Tryz.f69) n [0,0,1,0,1,1] [i64 x, i64 y, u64 z, slP lp 1 [i64 a, i64 b, i64 c], slP lp 1 [i64 a, i64 b, i64 c], i64 3, i64 1]) (ansY (wv (0, 3))) := by
  have p := okN_one.2 (pure133 a)
  rw [ins_iff hx] at p
  simp only [bV, mk1] at p
  rw [jmpN_succ, l69_x_3_0]
  rw [ins_iff hx]
  simp only [mk_i64, mk_u64, mk_slP, p, b0, bS, bl_bi, n11, bi_tt]
  rfl
theorem st69_3_1 (n x y z lp a b c : Nat) (hx : b < 2 ^ 64) : jmpN Tryz.prog 144 lab69 (baseH Tryz.prog) RE (finY Tryz.prog [.tmp 8, .tmp 9] [3, 32]) (bodyC Tryz.f69) (n + 1) [0,0,1,0,1,1] [i64 x, i64 y, u64 z, slP lp 1 [i64 a, i64 b, i64 c], slP lp 1 [i64 a, i64 b, i64 c], i64 3, i64 1] = bi (decide (b ≤ 64)) (jmpN Tryz.prog 144 lab69 (baseH Tryz.prog) RE (finY Tryz.prog [.tmp 8, .tmp 9] [3, 32]) (bodyC Tryz.f69) n [0,0,1,0,1,1] [i64 x, i64 y, u64 z, slP lp 1 [i64 a, i64 b, i64 c], slP lp 1 [i64 a, i64 b, i64 c], i64 3, i64 2]) (ansY (wv (0, 3))) := by
  have p := okN_one.2 (pure133 b)
  rw [ins_iff hx] at p
  simp only [bV, mk1] at p
  rw [jmpN_succ, l69_x_3_1]
  rw [ins_iff hx]
  simp only [mk_i64, mk_u64, mk_slP, p, b0, bS, bl_bi, n11, bi_tt]
  rfl
theorem st69_3_2 (n x y z lp a b c : Nat) (hx : c < 2 ^ 64) : jmpN Tryz.prog 144 lab69 (baseH Tryz.prog) RE (finY Tryz.prog [.tmp 8, .tmp 9] [3, 32]) (bodyC Tryz.f69) (n + 1) [0,0,1,0,1,1] [i64 x, i64 y, u64 z, slP lp 1 [i64 a, i64 b, i64 c], slP lp 1 [i64 a, i64 b, i64 c], i64 3, i64 2] = bi (decide (c ≤ 64)) (jmpN Tryz.prog 144 lab69 (baseH Tryz.prog) RE (finY Tryz.prog [.tmp 8, .tmp 9] [3, 32]) (bodyC Tryz.f69) n [0,0,1,0,1,1] [i64 x, i64 y, u64 z, slP lp 1 [i64 a, i64 b, i64 c], slP lp 1 [i64 a, i64 b, i64 c], i64 3, i64 3]) (ansY (wv (0, 3))) := by
  have p := okN_one.2 (pure133 c)
  rw [ins_iff hx] at p
  simp only [bV, mk1] at p
  rw [jmpN_succ, l69_x_3_2]
  rw [ins_iff hx]
  simp only [mk_i64, mk_u64, mk_slP, p, b0, bS, bl_bi, n11, bi_tt]
  rfl
theorem st76_1_0 (n x y z lp a : Nat) (hx : a < 2 ^ 64) : jmpN Tryz.prog 133 lab76 (baseH Tryz.prog) RE (finY Tryz.prog [.tmp 8, .tmp 9] [3, 32]) (bodyC Tryz.f76) (n + 1) [0,0,1,0,1,1] [i64 x, i64 y, u64 z, slP lp 1 [i64 a], i64 1, i64 0] = bi (decide (a ≤ 64)) (jmpN Tryz.prog 133 lab76 (baseH Tryz.prog) RE (finY Tryz.prog [.tmp 8, .tmp 9] [3, 32]) (bodyC Tryz.f76) n [0,0,1,0,1,1] [i64 x, i64 y, u64 z, slP lp 1 [i64 a], i64 1, i64 1]) (ansY (wv (0, 3))) := by
  have p := okN_one.2 (pure144 a)
  rw [ins_iff hx] at p
  simp only [bV, mk1] at p
  rw [jmpN_succ, l76_x_1_0]
  rw [ins_iff hx]
  simp only [mk_i64, mk_u64, mk_slP, p, b0, bS, bl_bi, n11, bi_tt]
  rfl
theorem st76_2_0 (n x y z lp a b : Nat) (hx : a < 2 ^ 64) : jmpN Tryz.prog 133 lab76 (baseH Tryz.prog) RE (finY Tryz.prog [.tmp 8, .tmp 9] [3, 32]) (bodyC Tryz.f76) (n + 1) [0,0,1,0,1,1] [i64 x, i64 y, u64 z, slP lp 1 [i64 a, i64 b], i64 2, i64 0] = bi (decide (a ≤ 64)) (jmpN Tryz.prog 133 lab76 (baseH Tryz.prog) RE (finY Tryz.prog [.tmp 8, .tmp 9] [3, 32]) (bodyC Tryz.f76) n [0,0,1,0,1,1] [i64 x, i64 y, u64 z, slP lp 1 [i64 a, i64 b], i64 2, i64 1]) (ansY (wv (0, 3))) := by
  have p := okN_one.2 (pure144 a)
  rw [ins_iff hx] at p
  simp only [bV, mk1] at p
  rw [jmpN_succ, l76_x_2_0]
  rw [ins_iff hx]
  simp only [mk_i64, mk_u64, mk_slP, p, b0, bS, bl_bi, n11, bi_tt]
  rfl
theorem st76_2_1 (n x y z lp a b : Nat) (hx : b < 2 ^ 64) : jmpN Tryz.prog 133 lab76 (baseH Tryz.prog) RE (finY Tryz.prog [.tmp 8, .tmp 9] [3, 32]) (bodyC Tryz.f76) (n + 1) [0,0,1,0,1,1] [i64 x, i64 y, u64 z, slP lp 1 [i64 a, i64 b], i64 2, i64 1] = bi (decide (b ≤ 64)) (jmpN Tryz.prog 133 lab76 (baseH Tryz.prog) RE (finY Tryz.prog [.tmp 8, .tmp 9] [3, 32]) (bodyC Tryz.f76) n [0,0,1,0,1,1] [i64 x, i64 y, u64 z, slP lp 1 [i64 a, i64 b], i64 2, i64 2]) (ansY (wv (0, 3))) := by
  have p := okN_one.2 (pure144 b)
  rw [ins_iff hx] at p
  simp only [bV, mk1] at p
  rw [jmpN_succ, l76_x_2_1]
  rw [ins_iff hx]
  simp only [mk_i64, mk_u64, mk_slP, p, b0, bS, bl_bi, n11, bi_tt]
  rfl
theorem st76_3_0 (n x y z lp a b c : Nat) (hx : a < 2 ^ 64) : jmpN Tryz.prog 133 lab76 (baseH Tryz.prog) RE (finY Tryz.prog [.tmp 8, .tmp 9] [3, 32]) (bodyC Tryz.f76) (n + 1) [0,0,1,0,1,1] [i64 x, i64 y, u64 z, slP lp 1 [i64 a, i64 b, i64 c], i64 3, i64 0] = bi (decide (a ≤ 64)) (jmpN Tryz.prog 133 lab76 (baseH Tryz.prog) RE (finY Tryz.prog [.tmp 8, .tmp 9] [3, 32]) (bodyC Tryz.f76) n [0,0,1,0,1,1] [i64 x, i64 y, u64 z, slP lp 1 [i64 a, i64 b, i64 c], i64 3, i64 1]) (ansY (wv (0, 3))) := by
  have p := okN_one.2 (pure144 a)
  rw [ins_iff hx] at p
  simp only [bV, mk1] at p
  rw [jmpN_succ, l76_x_3_0]
  rw [ins_iff hx]
  simp only [mk_i64, mk_u64, mk_slP, p, b0, bS, bl_bi, n11, bi_tt]
  rfl
theorem st76_3_1 (n x y z lp a b c : Nat) (hx : b < 2 ^ 64) : jmpN Tryz.prog 133 lab76 (baseH Tryz.prog) RE (finY Tryz.prog [.tmp 8, .tmp 9] [3, 32]) (bodyC Tryz.f76) (n + 1) [0,0,1,0,1,1] [i64 x, i64 y, u64 z, slP lp 1 [i64 a, i64 b, i64 c], i64 3, i64 1] = bi (decide (b ≤ 64)) (jmpN Tryz.prog 133 lab76 (baseH Tryz.prog) RE (finY Tryz.prog [.tmp 8, .tmp 9] [3, 32]) (bodyC Tryz.f76) n [0,0,1,0,1,1] [i64 x, i64 y, u64 z, slP lp 1 [i64 a, i64 b, i64 c], i64 3, i64 2]) (ansY (wv (0, 3))) := by
  have p := okN_one.2 (pure144 b)
  rw [ins_iff hx] at p
  simp only [bV, mk1] at p
  rw [jmpN_succ, l76_x_3_1]
  rw [ins_iff hx]
  simp only [mk_i64, mk_u64, mk_slP, p, b0, bS, bl_bi, n11, bi_tt]
  rfl
theorem st76_3_2 (n x y z lp a b c : Nat) (hx : c < 2 ^ 64) : jmpN Tryz.prog 133 lab76 (baseH Tryz.prog) RE (finY Tryz.prog [.tmp 8, .tmp 9] [3, 32]) (bodyC Tryz.f76) (n + 1) [0,0,1,0,1,1] [i64 x, i64 y, u64 z, slP lp 1 [i64 a, i64 b, i64 c], i64 3, i64 2] = bi (decide (c ≤ 64)) (jmpN Tryz.prog 133 lab76 (baseH Tryz.prog) RE (finY Tryz.prog [.tmp 8, .tmp 9] [3, 32]) (bodyC Tryz.f76) n [0,0,1,0,1,1] [i64 x, i64 y, u64 z, slP lp 1 [i64 a, i64 b, i64 c], i64 3, i64 3]) (ansY (wv (0, 3))) := by
  have p := okN_one.2 (pure144 c)
  rw [ins_iff hx] at p
  simp only [bV, mk1] at p
  rw [jmpN_succ, l76_x_3_2]
  rw [ins_iff hx]
  simp only [mk_i64, mk_u64, mk_slP, p, b0, bS, bl_bi, n11, bi_tt]
  rfl
theorem en69_1 (n y z lp : Nat) (hy : y < 2 ^ 64) (hz : z < 2 ^ 64) : jmpN Tryz.prog 144 lab69 (baseH Tryz.prog) RE (finY Tryz.prog [.tmp 8, .tmp 9] [3, 32]) (bodyC Tryz.f69) (n + 1) [0,0,1,0,1,1] [i64 1, i64 y, u64 z, slP lp 1 [], slP lp 1 [], i64 0, i64 0] = ansY (wv (wdP 1 y z [])) := by
  rw [wd_0 (show arT 1 = 0 from rfl) (by omega) , jmpN_succ, l69_1_0_0]
  have q := okN_one.2 (pure134 1 y z hy hz)
  simp only [tupV] at q
  simp only [mk_i64, mk_u64, q, bl_bi, n11, bi_tt]
  cases lfP 1 y z <;> rfl
theorem en69_2 (n y z lp : Nat) (hy : y < 2 ^ 64) (hz : z < 2 ^ 64) : jmpN Tryz.prog 144 lab69 (baseH Tryz.prog) RE (finY Tryz.prog [.tmp 8, .tmp 9] [3, 32]) (bodyC Tryz.f69) (n + 1) [0,0,1,0,1,1] [i64 2, i64 y, u64 z, slP lp 1 [], slP lp 1 [], i64 0, i64 0] = ansY (wv (wdP 2 y z [])) := by
  rw [wd_0 (show arT 2 = 0 from rfl) (by omega) , jmpN_succ, l69_2_0_0]
  have q := okN_one.2 (pure134 2 y z hy hz)
  simp only [tupV] at q
  simp only [mk_i64, mk_u64, q, bl_bi, n11, bi_tt]
  cases lfP 2 y z <;> rfl
theorem en69_3 (n y z lp a : Nat) (_hy : y < 2 ^ 64) (_hz : z < 2 ^ 64) (ha : a ≤ 64) : jmpN Tryz.prog 144 lab69 (baseH Tryz.prog) RE (finY Tryz.prog [.tmp 8, .tmp 9] [3, 32]) (bodyC Tryz.f69) (n + 1) [0,0,1,0,1,1] [i64 3, i64 y, u64 z, slP lp 1 [i64 a], slP lp 1 [i64 a], i64 1, i64 1] = ansY (wv (wdP 3 y z [a])) := by
  rw [wd_1 (show arT 3 = 1 from rfl) (by omega) ha, jmpN_succ, l69_3_1_1]
  rfl
theorem en69_4 (n y z lp a : Nat) (_hy : y < 2 ^ 64) (_hz : z < 2 ^ 64) (ha : a ≤ 64) : jmpN Tryz.prog 144 lab69 (baseH Tryz.prog) RE (finY Tryz.prog [.tmp 8, .tmp 9] [3, 32]) (bodyC Tryz.f69) (n + 1) [0,0,1,0,1,1] [i64 4, i64 y, u64 z, slP lp 1 [i64 a], slP lp 1 [i64 a], i64 1, i64 1] = ansY (wv (wdP 4 y z [a])) := by
  rw [wd_1 (show arT 4 = 1 from rfl) (by omega) ha, jmpN_succ, l69_4_1_1]
  rfl
theorem en69_5 (n y z lp a b : Nat) (_hy : y < 2 ^ 64) (_hz : z < 2 ^ 64) (ha : a ≤ 64) (hb : b ≤ 64) : jmpN Tryz.prog 144 lab69 (baseH Tryz.prog) RE (finY Tryz.prog [.tmp 8, .tmp 9] [3, 32]) (bodyC Tryz.f69) (n + 1) [0,0,1,0,1,1] [i64 5, i64 y, u64 z, slP lp 1 [i64 a, i64 b], slP lp 1 [i64 a, i64 b], i64 2, i64 2] = ansY (wv (wdP 5 y z [a, b])) := by
  rw [wd_2 (show arT 5 = 2 from rfl) (by omega) ha hb, jmpN_succ, l69_5_2_2]
  rw [if_neg (show ¬ (5 = 20) by decide)]
  have q := okN_one.2 (pure136 (nbeq a b) a)
  simp only [bV, mk1, tupV, i64] at q
  simp only [bl_bi, q, n11, bi_tt]
  by_cases h1 : a = b
  · rw [beq_true.2 h1, if_pos h1]; rfl
  · rw [beq_false.2 h1, if_neg h1]; rfl
theorem en69_6 (n y z lp a b : Nat) (_hy : y < 2 ^ 64) (_hz : z < 2 ^ 64) (ha : a ≤ 64) (hb : b ≤ 64) : jmpN Tryz.prog 144 lab69 (baseH Tryz.prog) RE (finY Tryz.prog [.tmp 8, .tmp 9] [3, 32]) (bodyC Tryz.f69) (n + 1) [0,0,1,0,1,1] [i64 6, i64 y, u64 z, slP lp 1 [i64 a, i64 b], slP lp 1 [i64 a, i64 b], i64 2, i64 2] = ansY (wv (wdP 6 y z [a, b])) := by
  rw [wd_2 (show arT 6 = 2 from rfl) (by omega) ha hb, jmpN_succ, l69_6_2_2]
  rw [if_neg (show ¬ (6 = 20) by decide)]
  have q := okN_one.2 (pure136 (nbeq a b) a)
  simp only [bV, mk1, tupV, i64] at q
  simp only [bl_bi, q, n11, bi_tt]
  by_cases h1 : a = b
  · rw [beq_true.2 h1, if_pos h1]; rfl
  · rw [beq_false.2 h1, if_neg h1]; rfl
theorem en69_7 (n y z lp a b : Nat) (_hy : y < 2 ^ 64) (_hz : z < 2 ^ 64) (ha : a ≤ 64) (hb : b ≤ 64) : jmpN Tryz.prog 144 lab69 (baseH Tryz.prog) RE (finY Tryz.prog [.tmp 8, .tmp 9] [3, 32]) (bodyC Tryz.f69) (n + 1) [0,0,1,0,1,1] [i64 7, i64 y, u64 z, slP lp 1 [i64 a, i64 b], slP lp 1 [i64 a, i64 b], i64 2, i64 2] = ansY (wv (wdP 7 y z [a, b])) := by
  rw [wd_2 (show arT 7 = 2 from rfl) (by omega) ha hb, jmpN_succ, l69_7_2_2]
  rw [if_neg (show ¬ (7 = 20) by decide)]
  have q := okN_one.2 (pure136 (nbeq a b) a)
  simp only [bV, mk1, tupV, i64] at q
  simp only [bl_bi, q, n11, bi_tt]
  by_cases h1 : a = b
  · rw [beq_true.2 h1, if_pos h1]; rfl
  · rw [beq_false.2 h1, if_neg h1]; rfl
theorem en69_8 (n y z lp a b : Nat) (_hy : y < 2 ^ 64) (_hz : z < 2 ^ 64) (ha : a ≤ 64) (hb : b ≤ 64) : jmpN Tryz.prog 144 lab69 (baseH Tryz.prog) RE (finY Tryz.prog [.tmp 8, .tmp 9] [3, 32]) (bodyC Tryz.f69) (n + 1) [0,0,1,0,1,1] [i64 8, i64 y, u64 z, slP lp 1 [i64 a, i64 b], slP lp 1 [i64 a, i64 b], i64 2, i64 2] = ansY (wv (wdP 8 y z [a, b])) := by
  rw [wd_2 (show arT 8 = 2 from rfl) (by omega) ha hb, jmpN_succ, l69_8_2_2]
  rw [if_neg (show ¬ (8 = 20) by decide)]
  have q := okN_one.2 (pure136 (nbeq a b) a)
  simp only [bV, mk1, tupV, i64] at q
  simp only [bl_bi, q, n11, bi_tt]
  by_cases h1 : a = b
  · rw [beq_true.2 h1, if_pos h1]; rfl
  · rw [beq_false.2 h1, if_neg h1]; rfl
theorem en69_9 (n y z lp a b : Nat) (_hy : y < 2 ^ 64) (_hz : z < 2 ^ 64) (ha : a ≤ 64) (hb : b ≤ 64) : jmpN Tryz.prog 144 lab69 (baseH Tryz.prog) RE (finY Tryz.prog [.tmp 8, .tmp 9] [3, 32]) (bodyC Tryz.f69) (n + 1) [0,0,1,0,1,1] [i64 9, i64 y, u64 z, slP lp 1 [i64 a, i64 b], slP lp 1 [i64 a, i64 b], i64 2, i64 2] = ansY (wv (wdP 9 y z [a, b])) := by
  rw [wd_2 (show arT 9 = 2 from rfl) (by omega) ha hb, jmpN_succ, l69_9_2_2]
  rw [if_neg (show ¬ (9 = 20) by decide)]
  have q := okN_one.2 (pure136 (nbeq a b) a)
  simp only [bV, mk1, tupV, i64] at q
  simp only [bl_bi, q, n11, bi_tt]
  by_cases h1 : a = b
  · rw [beq_true.2 h1, if_pos h1]; rfl
  · rw [beq_false.2 h1, if_neg h1]; rfl
theorem en69_10 (n y z lp a b : Nat) (_hy : y < 2 ^ 64) (_hz : z < 2 ^ 64) (ha : a ≤ 64) (hb : b ≤ 64) : jmpN Tryz.prog 144 lab69 (baseH Tryz.prog) RE (finY Tryz.prog [.tmp 8, .tmp 9] [3, 32]) (bodyC Tryz.f69) (n + 1) [0,0,1,0,1,1] [i64 10, i64 y, u64 z, slP lp 1 [i64 a, i64 b], slP lp 1 [i64 a, i64 b], i64 2, i64 2] = ansY (wv (wdP 10 y z [a, b])) := by
  rw [wd_2 (show arT 10 = 2 from rfl) (by omega) ha hb, jmpN_succ, l69_10_2_2]
  rw [if_neg (show ¬ (10 = 20) by decide)]
  have q := okN_one.2 (pure136 (nbeq a b) a)
  simp only [bV, mk1, tupV, i64] at q
  simp only [bl_bi, q, n11, bi_tt]
  by_cases h1 : a = b
  · rw [beq_true.2 h1, if_pos h1]; rfl
  · rw [beq_false.2 h1, if_neg h1]; rfl
theorem en69_11 (n y z lp a b : Nat) (_hy : y < 2 ^ 64) (_hz : z < 2 ^ 64) (ha : a ≤ 64) (hb : b ≤ 64) : jmpN Tryz.prog 144 lab69 (baseH Tryz.prog) RE (finY Tryz.prog [.tmp 8, .tmp 9] [3, 32]) (bodyC Tryz.f69) (n + 1) [0,0,1,0,1,1] [i64 11, i64 y, u64 z, slP lp 1 [i64 a, i64 b], slP lp 1 [i64 a, i64 b], i64 2, i64 2] = ansY (wv (wdP 11 y z [a, b])) := by
  rw [wd_2 (show arT 11 = 2 from rfl) (by omega) ha hb, jmpN_succ, l69_11_2_2]
  rw [if_neg (show ¬ (11 = 20) by decide)]
  have q := okN_one.2 (pure136 (nbeq a b) a)
  simp only [bV, mk1, tupV, i64] at q
  simp only [bl_bi, q, n11, bi_tt]
  by_cases h1 : a = b
  · rw [beq_true.2 h1, if_pos h1]; rfl
  · rw [beq_false.2 h1, if_neg h1]; rfl
theorem en69_12 (n y z lp a b : Nat) (_hy : y < 2 ^ 64) (_hz : z < 2 ^ 64) (ha : a ≤ 64) (hb : b ≤ 64) : jmpN Tryz.prog 144 lab69 (baseH Tryz.prog) RE (finY Tryz.prog [.tmp 8, .tmp 9] [3, 32]) (bodyC Tryz.f69) (n + 1) [0,0,1,0,1,1] [i64 12, i64 y, u64 z, slP lp 1 [i64 a, i64 b], slP lp 1 [i64 a, i64 b], i64 2, i64 2] = ansY (wv (wdP 12 y z [a, b])) := by
  rw [wd_2 (show arT 12 = 2 from rfl) (by omega) ha hb, jmpN_succ, l69_12_2_2]
  rw [if_neg (show ¬ (12 = 20) by decide)]
  have q := okN_one.2 (pure136 (nbeq a b) a)
  simp only [bV, mk1, tupV, i64] at q
  simp only [bl_bi, q, n11, bi_tt]
  by_cases h1 : a = b
  · rw [beq_true.2 h1, if_pos h1]; rfl
  · rw [beq_false.2 h1, if_neg h1]; rfl
theorem en69_13 (n y z lp a b : Nat) (_hy : y < 2 ^ 64) (_hz : z < 2 ^ 64) (ha : a ≤ 64) (hb : b ≤ 64) : jmpN Tryz.prog 144 lab69 (baseH Tryz.prog) RE (finY Tryz.prog [.tmp 8, .tmp 9] [3, 32]) (bodyC Tryz.f69) (n + 1) [0,0,1,0,1,1] [i64 13, i64 y, u64 z, slP lp 1 [i64 a, i64 b], slP lp 1 [i64 a, i64 b], i64 2, i64 2] = ansY (wv (wdP 13 y z [a, b])) := by
  rw [wd_2 (show arT 13 = 2 from rfl) (by omega) ha hb, jmpN_succ, l69_13_2_2]
  rw [if_neg (show ¬ (13 = 20) by decide)]
  have q := okN_one.2 (pure136 (nbeq a b) a)
  simp only [bV, mk1, tupV, i64] at q
  simp only [bl_bi, q, n11, bi_tt]
  by_cases h1 : a = b
  · rw [beq_true.2 h1, if_pos h1]; rfl
  · rw [beq_false.2 h1, if_neg h1]; rfl
theorem en69_14 (n y z lp a b : Nat) (_hy : y < 2 ^ 64) (_hz : z < 2 ^ 64) (ha : a ≤ 64) (hb : b ≤ 64) : jmpN Tryz.prog 144 lab69 (baseH Tryz.prog) RE (finY Tryz.prog [.tmp 8, .tmp 9] [3, 32]) (bodyC Tryz.f69) (n + 1) [0,0,1,0,1,1] [i64 14, i64 y, u64 z, slP lp 1 [i64 a, i64 b], slP lp 1 [i64 a, i64 b], i64 2, i64 2] = ansY (wv (wdP 14 y z [a, b])) := by
  rw [wd_2 (show arT 14 = 2 from rfl) (by omega) ha hb, jmpN_succ, l69_14_2_2]
  rw [if_neg (show ¬ (14 = 20) by decide)]
  have q := okN_one.2 (pure136 (nbeq a b) a)
  simp only [bV, mk1, tupV, i64] at q
  simp only [bl_bi, q, n11, bi_tt]
  by_cases h1 : a = b
  · rw [beq_true.2 h1, if_pos h1]; rfl
  · rw [beq_false.2 h1, if_neg h1]; rfl
theorem en69_15 (n y z lp a b : Nat) (_hy : y < 2 ^ 64) (_hz : z < 2 ^ 64) (ha : a ≤ 64) (hb : b ≤ 64) : jmpN Tryz.prog 144 lab69 (baseH Tryz.prog) RE (finY Tryz.prog [.tmp 8, .tmp 9] [3, 32]) (bodyC Tryz.f69) (n + 1) [0,0,1,0,1,1] [i64 15, i64 y, u64 z, slP lp 1 [i64 a, i64 b], slP lp 1 [i64 a, i64 b], i64 2, i64 2] = ansY (wv (wdP 15 y z [a, b])) := by
  rw [wd_2 (show arT 15 = 2 from rfl) (by omega) ha hb, jmpN_succ, l69_15_2_2]
  rw [if_neg (show ¬ (15 = 20) by decide)]
  have q := okN_one.2 (pure136 (nbeq a b) a)
  simp only [bV, mk1, tupV, i64] at q
  simp only [bl_bi, q, n11, bi_tt]
  by_cases h1 : a = b
  · rw [beq_true.2 h1, if_pos h1]; rfl
  · rw [beq_false.2 h1, if_neg h1]; rfl
theorem en69_16 (n y z lp a b : Nat) (_hy : y < 2 ^ 64) (_hz : z < 2 ^ 64) (ha : a ≤ 64) (hb : b ≤ 64) : jmpN Tryz.prog 144 lab69 (baseH Tryz.prog) RE (finY Tryz.prog [.tmp 8, .tmp 9] [3, 32]) (bodyC Tryz.f69) (n + 1) [0,0,1,0,1,1] [i64 16, i64 y, u64 z, slP lp 1 [i64 a, i64 b], slP lp 1 [i64 a, i64 b], i64 2, i64 2] = ansY (wv (wdP 16 y z [a, b])) := by
  rw [wd_2 (show arT 16 = 2 from rfl) (by omega) ha hb, jmpN_succ, l69_16_2_2]
  rw [if_neg (show ¬ (16 = 20) by decide)]
  have q := okN_one.2 (pure136 (nbeq a b) 1)
  simp only [bV, mk1, tupV, i64] at q
  simp only [bl_bi, q, n11, bi_tt]
  by_cases h1 : a = b
  · rw [beq_true.2 h1, if_pos h1]; rfl
  · rw [beq_false.2 h1, if_neg h1]; rfl
theorem en69_17 (n y z lp a b : Nat) (_hy : y < 2 ^ 64) (_hz : z < 2 ^ 64) (ha : a ≤ 64) (hb : b ≤ 64) : jmpN Tryz.prog 144 lab69 (baseH Tryz.prog) RE (finY Tryz.prog [.tmp 8, .tmp 9] [3, 32]) (bodyC Tryz.f69) (n + 1) [0,0,1,0,1,1] [i64 17, i64 y, u64 z, slP lp 1 [i64 a, i64 b], slP lp 1 [i64 a, i64 b], i64 2, i64 2] = ansY (wv (wdP 17 y z [a, b])) := by
  rw [wd_2 (show arT 17 = 2 from rfl) (by omega) ha hb, jmpN_succ, l69_17_2_2]
  rw [if_neg (show ¬ (17 = 20) by decide)]
  have q := okN_one.2 (pure136 (nbeq a b) 1)
  simp only [bV, mk1, tupV, i64] at q
  simp only [bl_bi, q, n11, bi_tt]
  by_cases h1 : a = b
  · rw [beq_true.2 h1, if_pos h1]; rfl
  · rw [beq_false.2 h1, if_neg h1]; rfl
theorem en69_18 (n y z lp a b : Nat) (_hy : y < 2 ^ 64) (_hz : z < 2 ^ 64) (ha : a ≤ 64) (hb : b ≤ 64) : jmpN Tryz.prog 144 lab69 (baseH Tryz.prog) RE (finY Tryz.prog [.tmp 8, .tmp 9] [3, 32]) (bodyC Tryz.f69) (n + 1) [0,0,1,0,1,1] [i64 18, i64 y, u64 z, slP lp 1 [i64 a, i64 b], slP lp 1 [i64 a, i64 b], i64 2, i64 2] = ansY (wv (wdP 18 y z [a, b])) := by
  rw [wd_2 (show arT 18 = 2 from rfl) (by omega) ha hb, jmpN_succ, l69_18_2_2]
  rw [if_neg (show ¬ (18 = 20) by decide)]
  have q := okN_one.2 (pure136 (nbeq a b) 1)
  simp only [bV, mk1, tupV, i64] at q
  simp only [bl_bi, q, n11, bi_tt]
  by_cases h1 : a = b
  · rw [beq_true.2 h1, if_pos h1]; rfl
  · rw [beq_false.2 h1, if_neg h1]; rfl
theorem en69_19 (n y z lp a b c : Nat) (_hy : y < 2 ^ 64) (_hz : z < 2 ^ 64) (ha : a ≤ 64) (hb : b ≤ 64) (hc : c ≤ 64) : jmpN Tryz.prog 144 lab69 (baseH Tryz.prog) RE (finY Tryz.prog [.tmp 8, .tmp 9] [3, 32]) (bodyC Tryz.f69) (n + 1) [0,0,1,0,1,1] [i64 19, i64 y, u64 z, slP lp 1 [i64 a, i64 b, i64 c], slP lp 1 [i64 a, i64 b, i64 c], i64 3, i64 3] = ansY (wv (wdP 19 y z [a, b, c])) := by
  rw [wd_3 (show arT 19 = 3 from rfl) (by omega) ha hb hc, jmpN_succ, l69_19_3_3]
  have q := okN_one.2 (pure136 (nbeq b c) b)
  have q2 := okN_one.2 (pure136 false b)
  simp only [bV, mk1, tupV, i64, bi_ff] at q q2
  simp only [bl_bi, bl_bi0, q, q2, n11, bi_tt, b0]
  by_cases h1 : a = 1
  · rw [beq_true.2 h1]
    by_cases h2 : b = c
    · rw [beq_true.2 h2, if_pos ⟨h1, h2⟩]; rfl
    · rw [beq_false.2 h2, if_neg fun h => h2 h.2]; rfl
  · rw [beq_false.2 h1, if_neg fun h => h1 h.1]; rfl
theorem en69_20 (n y z lp a b : Nat) (_hy : y < 2 ^ 64) (_hz : z < 2 ^ 64) (ha : a ≤ 64) (hb : b ≤ 64) : jmpN Tryz.prog 144 lab69 (baseH Tryz.prog) RE (finY Tryz.prog [.tmp 8, .tmp 9] [3, 32]) (bodyC Tryz.f69) (n + 1) [0,0,1,0,1,1] [i64 20, i64 y, u64 z, slP lp 1 [i64 a, i64 b], slP lp 1 [i64 a, i64 b], i64 2, i64 2] = ansY (wv (wdP 20 y z [a, b])) := by
  rw [wd_2 (show arT 20 = 2 from rfl) (by omega) ha hb, jmpN_succ, l69_20_2_2]
  rw [if_pos rfl]
  rw [one_le ha, one_le hb, addN (by omega), le_64 (by omega)]
  have q := okN_one.2 (pure136 (decide (a + b ≤ 64)) (a + b))
  have q2 := okN_one.2 (pure136 false (a + b))
  simp only [bV, mk1, tupV, i64, bi_ff] at q q2
  simp only [bl_bi, bl_bi0, q, q2, n11, bi_tt, b0]
  by_cases h1 : 1 ≤ a
  · rw [decide_eq_true h1]
    by_cases h2 : 1 ≤ b
    · rw [decide_eq_true h2]
      by_cases h3 : a + b ≤ 64
      · rw [decide_eq_true h3, if_pos ⟨h1, h2, h3⟩]; rfl
      · rw [decide_eq_false h3, if_neg fun h => h3 h.2.2]; rfl
    · rw [decide_eq_false h2, if_neg fun h => h2 h.2.1]; rfl
  · rw [decide_eq_false h1, if_neg fun h => h1 h.1]; rfl
theorem en69_21 (n y z lp a : Nat) (hy : y < 2 ^ 64) (hz : z < 2 ^ 64) (ha : a ≤ 64) : jmpN Tryz.prog 144 lab69 (baseH Tryz.prog) RE (finY Tryz.prog [.tmp 8, .tmp 9] [3, 32]) (bodyC Tryz.f69) (n + 1) [0,0,1,0,1,1] [i64 21, i64 y, u64 z, slP lp 1 [i64 a], slP lp 1 [i64 a], i64 1, i64 1] = ansY (wv (wdP 21 y z [a])) := by
  rw [wd_1 (show arT 21 = 1 from rfl) (by omega) ha, jmpN_succ, l69_21_1_1]
  have q := okN_one.2 (pure135 21 y z a hy hz (by omega))
  simp only [tupV] at q
  simp only [mk_i64, mk_u64, q, bl_bi, n11, bi_tt, bi_ff]
  cases rsP 21 y z a <;> rfl
theorem en69_22 (n y z lp a : Nat) (hy : y < 2 ^ 64) (hz : z < 2 ^ 64) (ha : a ≤ 64) : jmpN Tryz.prog 144 lab69 (baseH Tryz.prog) RE (finY Tryz.prog [.tmp 8, .tmp 9] [3, 32]) (bodyC Tryz.f69) (n + 1) [0,0,1,0,1,1] [i64 22, i64 y, u64 z, slP lp 1 [i64 a], slP lp 1 [i64 a], i64 1, i64 1] = ansY (wv (wdP 22 y z [a])) := by
  rw [wd_1 (show arT 22 = 1 from rfl) (by omega) ha, jmpN_succ, l69_22_1_1]
  have q := okN_one.2 (pure135 22 y z a hy hz (by omega))
  simp only [tupV] at q
  simp only [mk_i64, mk_u64, q, bl_bi, n11, bi_tt, bi_ff]
  cases rsP 22 y z a <;> rfl
theorem en69_23 (n y z lp a : Nat) (hy : y < 2 ^ 64) (hz : z < 2 ^ 64) (ha : a ≤ 64) : jmpN Tryz.prog 144 lab69 (baseH Tryz.prog) RE (finY Tryz.prog [.tmp 8, .tmp 9] [3, 32]) (bodyC Tryz.f69) (n + 1) [0,0,1,0,1,1] [i64 23, i64 y, u64 z, slP lp 1 [i64 a], slP lp 1 [i64 a], i64 1, i64 1] = ansY (wv (wdP 23 y z [a])) := by
  rw [wd_1 (show arT 23 = 1 from rfl) (by omega) ha, jmpN_succ, l69_23_1_1]
  have q := okN_one.2 (pure135 23 y z a hy hz (by omega))
  simp only [tupV] at q
  simp only [mk_i64, mk_u64, q, bl_bi, n11, bi_tt, bi_ff]
  cases rsP 23 y z a <;> rfl
theorem en69_24 (n y z lp : Nat) (hy : y < 2 ^ 64) (hz : z < 2 ^ 64) : jmpN Tryz.prog 144 lab69 (baseH Tryz.prog) RE (finY Tryz.prog [.tmp 8, .tmp 9] [3, 32]) (bodyC Tryz.f69) (n + 1) [0,0,1,0,1,1] [i64 24, i64 y, u64 z, slP lp 1 [], slP lp 1 [], i64 0, i64 0] = ansY (wv (wdP 24 y z [])) := by
  rw [wd_0 (show arT 24 = 0 from rfl) (by omega) , jmpN_succ, l69_24_0_0]
  have q := okN_one.2 (pure134 24 y z hy hz)
  simp only [tupV] at q
  simp only [mk_i64, mk_u64, q, bl_bi, n11, bi_tt]
  cases lfP 24 y z <;> rfl
theorem en69_25 (n y z lp : Nat) (hy : y < 2 ^ 64) (hz : z < 2 ^ 64) : jmpN Tryz.prog 144 lab69 (baseH Tryz.prog) RE (finY Tryz.prog [.tmp 8, .tmp 9] [3, 32]) (bodyC Tryz.f69) (n + 1) [0,0,1,0,1,1] [i64 25, i64 y, u64 z, slP lp 1 [], slP lp 1 [], i64 0, i64 0] = ansY (wv (wdP 25 y z [])) := by
  rw [wd_0 (show arT 25 = 0 from rfl) (by omega) , jmpN_succ, l69_25_0_0]
  have q := okN_one.2 (pure134 25 y z hy hz)
  simp only [tupV] at q
  simp only [mk_i64, mk_u64, q, bl_bi, n11, bi_tt]
  cases lfP 25 y z <;> rfl
theorem en69_26 (n y z lp a : Nat) (_hy : y < 2 ^ 64) (_hz : z < 2 ^ 64) (ha : a ≤ 64) : jmpN Tryz.prog 144 lab69 (baseH Tryz.prog) RE (finY Tryz.prog [.tmp 8, .tmp 9] [3, 32]) (bodyC Tryz.f69) (n + 1) [0,0,1,0,1,1] [i64 26, i64 y, u64 z, slP lp 1 [i64 a], slP lp 1 [i64 a], i64 1, i64 1] = ansY (wv (wdP 26 y z [a])) := by
  rw [wd_1 (show arT 26 = 1 from rfl) (by omega) ha, jmpN_succ, l69_26_1_1]
  rfl
theorem en76_1 (n y z lp : Nat) (hy : y < 2 ^ 64) (hz : z < 2 ^ 64) : jmpN Tryz.prog 133 lab76 (baseH Tryz.prog) RE (finY Tryz.prog [.tmp 8, .tmp 9] [3, 32]) (bodyC Tryz.f76) (n + 1) [0,0,1,0,1,1] [i64 1, i64 y, u64 z, slP lp 1 [], i64 0, i64 0] = ansY (wv (wdP 1 y z [])) := by
  rw [wd_0 (show arT 1 = 0 from rfl) (by omega) , jmpN_succ, l76_1_0_0]
  have p := okN_one.2 (pure145 1)
  have e : leafR 1 = true := rfl
  have q := okN_one.2 (pure146 1 y z hy hz)
  rw [e] at p ⊢
  simp only [bV, mk1, bi_tt, bi_ff] at p
  simp only [tupV] at q
  simp only [mk_i64, mk_u64, p, q, bl_bi, n11, bi_tt]
  cases lfP 1 y z <;> rfl
theorem en76_2 (n y z lp : Nat) (hy : y < 2 ^ 64) (hz : z < 2 ^ 64) : jmpN Tryz.prog 133 lab76 (baseH Tryz.prog) RE (finY Tryz.prog [.tmp 8, .tmp 9] [3, 32]) (bodyC Tryz.f76) (n + 1) [0,0,1,0,1,1] [i64 2, i64 y, u64 z, slP lp 1 [], i64 0, i64 0] = ansY (wv (wdP 2 y z [])) := by
  rw [wd_0 (show arT 2 = 0 from rfl) (by omega) , jmpN_succ, l76_2_0_0]
  have p := okN_one.2 (pure145 2)
  have e : leafR 2 = true := rfl
  have q := okN_one.2 (pure146 2 y z hy hz)
  rw [e] at p ⊢
  simp only [bV, mk1, bi_tt, bi_ff] at p
  simp only [tupV] at q
  simp only [mk_i64, mk_u64, p, q, bl_bi, n11, bi_tt]
  cases lfP 2 y z <;> rfl
theorem en76_3 (n y z lp a : Nat) (_hy : y < 2 ^ 64) (_hz : z < 2 ^ 64) (ha : a ≤ 64) : jmpN Tryz.prog 133 lab76 (baseH Tryz.prog) RE (finY Tryz.prog [.tmp 8, .tmp 9] [3, 32]) (bodyC Tryz.f76) (n + 1) [0,0,1,0,1,1] [i64 3, i64 y, u64 z, slP lp 1 [i64 a], i64 1, i64 1] = ansY (wv (wdP 3 y z [a])) := by
  rw [wd_1 (show arT 3 = 1 from rfl) (by omega) ha, jmpN_succ, l76_3_1_1]
  have p := okN_one.2 (pure145 3)
  have e : leafR 3 = false := rfl
  rw [e] at p ⊢
  simp only [bV, mk1, bi_tt, bi_ff] at p
  simp only [mk_i64, mk_u64, p, bl_bi, n11, bi_tt, bi_ff]
  rfl
theorem en76_4 (n y z lp a : Nat) (_hy : y < 2 ^ 64) (_hz : z < 2 ^ 64) (ha : a ≤ 64) : jmpN Tryz.prog 133 lab76 (baseH Tryz.prog) RE (finY Tryz.prog [.tmp 8, .tmp 9] [3, 32]) (bodyC Tryz.f76) (n + 1) [0,0,1,0,1,1] [i64 4, i64 y, u64 z, slP lp 1 [i64 a], i64 1, i64 1] = ansY (wv (wdP 4 y z [a])) := by
  rw [wd_1 (show arT 4 = 1 from rfl) (by omega) ha, jmpN_succ, l76_4_1_1]
  have p := okN_one.2 (pure145 4)
  have e : leafR 4 = false := rfl
  rw [e] at p ⊢
  simp only [bV, mk1, bi_tt, bi_ff] at p
  simp only [mk_i64, mk_u64, p, bl_bi, n11, bi_tt, bi_ff]
  rfl
theorem en76_5 (n y z lp a b : Nat) (_hy : y < 2 ^ 64) (_hz : z < 2 ^ 64) (ha : a ≤ 64) (hb : b ≤ 64) : jmpN Tryz.prog 133 lab76 (baseH Tryz.prog) RE (finY Tryz.prog [.tmp 8, .tmp 9] [3, 32]) (bodyC Tryz.f76) (n + 1) [0,0,1,0,1,1] [i64 5, i64 y, u64 z, slP lp 1 [i64 a, i64 b], i64 2, i64 2] = ansY (wv (wdP 5 y z [a, b])) := by
  rw [wd_2 (show arT 5 = 2 from rfl) (by omega) ha hb, jmpN_succ, l76_5_2_2]
  have p := okN_one.2 (pure145 5)
  have e : leafR 5 = false := rfl
  rw [e] at p ⊢
  simp only [bV, mk1, bi_tt, bi_ff] at p
  rw [if_neg (show ¬ (5 = 20) by decide)]
  simp only [mk_i64, mk_u64, p, bl_bi, n11, n01, bi_tt, bi_ff]
  by_cases h1 : a = b
  · rw [beq_true.2 h1, if_pos h1]; rfl
  · rw [beq_false.2 h1, if_neg h1]; rfl
theorem en76_6 (n y z lp a b : Nat) (_hy : y < 2 ^ 64) (_hz : z < 2 ^ 64) (ha : a ≤ 64) (hb : b ≤ 64) : jmpN Tryz.prog 133 lab76 (baseH Tryz.prog) RE (finY Tryz.prog [.tmp 8, .tmp 9] [3, 32]) (bodyC Tryz.f76) (n + 1) [0,0,1,0,1,1] [i64 6, i64 y, u64 z, slP lp 1 [i64 a, i64 b], i64 2, i64 2] = ansY (wv (wdP 6 y z [a, b])) := by
  rw [wd_2 (show arT 6 = 2 from rfl) (by omega) ha hb, jmpN_succ, l76_6_2_2]
  have p := okN_one.2 (pure145 6)
  have e : leafR 6 = false := rfl
  rw [e] at p ⊢
  simp only [bV, mk1, bi_tt, bi_ff] at p
  rw [if_neg (show ¬ (6 = 20) by decide)]
  simp only [mk_i64, mk_u64, p, bl_bi, n11, n01, bi_tt, bi_ff]
  by_cases h1 : a = b
  · rw [beq_true.2 h1, if_pos h1]; rfl
  · rw [beq_false.2 h1, if_neg h1]; rfl
theorem en76_7 (n y z lp a b : Nat) (_hy : y < 2 ^ 64) (_hz : z < 2 ^ 64) (ha : a ≤ 64) (hb : b ≤ 64) : jmpN Tryz.prog 133 lab76 (baseH Tryz.prog) RE (finY Tryz.prog [.tmp 8, .tmp 9] [3, 32]) (bodyC Tryz.f76) (n + 1) [0,0,1,0,1,1] [i64 7, i64 y, u64 z, slP lp 1 [i64 a, i64 b], i64 2, i64 2] = ansY (wv (wdP 7 y z [a, b])) := by
  rw [wd_2 (show arT 7 = 2 from rfl) (by omega) ha hb, jmpN_succ, l76_7_2_2]
  have p := okN_one.2 (pure145 7)
  have e : leafR 7 = false := rfl
  rw [e] at p ⊢
  simp only [bV, mk1, bi_tt, bi_ff] at p
  rw [if_neg (show ¬ (7 = 20) by decide)]
  simp only [mk_i64, mk_u64, p, bl_bi, n11, n01, bi_tt, bi_ff]
  by_cases h1 : a = b
  · rw [beq_true.2 h1, if_pos h1]; rfl
  · rw [beq_false.2 h1, if_neg h1]; rfl
theorem en76_8 (n y z lp a b : Nat) (_hy : y < 2 ^ 64) (_hz : z < 2 ^ 64) (ha : a ≤ 64) (hb : b ≤ 64) : jmpN Tryz.prog 133 lab76 (baseH Tryz.prog) RE (finY Tryz.prog [.tmp 8, .tmp 9] [3, 32]) (bodyC Tryz.f76) (n + 1) [0,0,1,0,1,1] [i64 8, i64 y, u64 z, slP lp 1 [i64 a, i64 b], i64 2, i64 2] = ansY (wv (wdP 8 y z [a, b])) := by
  rw [wd_2 (show arT 8 = 2 from rfl) (by omega) ha hb, jmpN_succ, l76_8_2_2]
  have p := okN_one.2 (pure145 8)
  have e : leafR 8 = false := rfl
  rw [e] at p ⊢
  simp only [bV, mk1, bi_tt, bi_ff] at p
  rw [if_neg (show ¬ (8 = 20) by decide)]
  simp only [mk_i64, mk_u64, p, bl_bi, n11, n01, bi_tt, bi_ff]
  by_cases h1 : a = b
  · rw [beq_true.2 h1, if_pos h1]; rfl
  · rw [beq_false.2 h1, if_neg h1]; rfl
theorem en76_9 (n y z lp a b : Nat) (_hy : y < 2 ^ 64) (_hz : z < 2 ^ 64) (ha : a ≤ 64) (hb : b ≤ 64) : jmpN Tryz.prog 133 lab76 (baseH Tryz.prog) RE (finY Tryz.prog [.tmp 8, .tmp 9] [3, 32]) (bodyC Tryz.f76) (n + 1) [0,0,1,0,1,1] [i64 9, i64 y, u64 z, slP lp 1 [i64 a, i64 b], i64 2, i64 2] = ansY (wv (wdP 9 y z [a, b])) := by
  rw [wd_2 (show arT 9 = 2 from rfl) (by omega) ha hb, jmpN_succ, l76_9_2_2]
  have p := okN_one.2 (pure145 9)
  have e : leafR 9 = false := rfl
  rw [e] at p ⊢
  simp only [bV, mk1, bi_tt, bi_ff] at p
  rw [if_neg (show ¬ (9 = 20) by decide)]
  simp only [mk_i64, mk_u64, p, bl_bi, n11, n01, bi_tt, bi_ff]
  by_cases h1 : a = b
  · rw [beq_true.2 h1, if_pos h1]; rfl
  · rw [beq_false.2 h1, if_neg h1]; rfl
theorem en76_10 (n y z lp a b : Nat) (_hy : y < 2 ^ 64) (_hz : z < 2 ^ 64) (ha : a ≤ 64) (hb : b ≤ 64) : jmpN Tryz.prog 133 lab76 (baseH Tryz.prog) RE (finY Tryz.prog [.tmp 8, .tmp 9] [3, 32]) (bodyC Tryz.f76) (n + 1) [0,0,1,0,1,1] [i64 10, i64 y, u64 z, slP lp 1 [i64 a, i64 b], i64 2, i64 2] = ansY (wv (wdP 10 y z [a, b])) := by
  rw [wd_2 (show arT 10 = 2 from rfl) (by omega) ha hb, jmpN_succ, l76_10_2_2]
  have p := okN_one.2 (pure145 10)
  have e : leafR 10 = false := rfl
  rw [e] at p ⊢
  simp only [bV, mk1, bi_tt, bi_ff] at p
  rw [if_neg (show ¬ (10 = 20) by decide)]
  simp only [mk_i64, mk_u64, p, bl_bi, n11, n01, bi_tt, bi_ff]
  by_cases h1 : a = b
  · rw [beq_true.2 h1, if_pos h1]; rfl
  · rw [beq_false.2 h1, if_neg h1]; rfl
theorem en76_11 (n y z lp a b : Nat) (_hy : y < 2 ^ 64) (_hz : z < 2 ^ 64) (ha : a ≤ 64) (hb : b ≤ 64) : jmpN Tryz.prog 133 lab76 (baseH Tryz.prog) RE (finY Tryz.prog [.tmp 8, .tmp 9] [3, 32]) (bodyC Tryz.f76) (n + 1) [0,0,1,0,1,1] [i64 11, i64 y, u64 z, slP lp 1 [i64 a, i64 b], i64 2, i64 2] = ansY (wv (wdP 11 y z [a, b])) := by
  rw [wd_2 (show arT 11 = 2 from rfl) (by omega) ha hb, jmpN_succ, l76_11_2_2]
  have p := okN_one.2 (pure145 11)
  have e : leafR 11 = false := rfl
  rw [e] at p ⊢
  simp only [bV, mk1, bi_tt, bi_ff] at p
  rw [if_neg (show ¬ (11 = 20) by decide)]
  simp only [mk_i64, mk_u64, p, bl_bi, n11, n01, bi_tt, bi_ff]
  by_cases h1 : a = b
  · rw [beq_true.2 h1, if_pos h1]; rfl
  · rw [beq_false.2 h1, if_neg h1]; rfl
theorem en76_12 (n y z lp a b : Nat) (_hy : y < 2 ^ 64) (_hz : z < 2 ^ 64) (ha : a ≤ 64) (hb : b ≤ 64) : jmpN Tryz.prog 133 lab76 (baseH Tryz.prog) RE (finY Tryz.prog [.tmp 8, .tmp 9] [3, 32]) (bodyC Tryz.f76) (n + 1) [0,0,1,0,1,1] [i64 12, i64 y, u64 z, slP lp 1 [i64 a, i64 b], i64 2, i64 2] = ansY (wv (wdP 12 y z [a, b])) := by
  rw [wd_2 (show arT 12 = 2 from rfl) (by omega) ha hb, jmpN_succ, l76_12_2_2]
  have p := okN_one.2 (pure145 12)
  have e : leafR 12 = false := rfl
  rw [e] at p ⊢
  simp only [bV, mk1, bi_tt, bi_ff] at p
  rw [if_neg (show ¬ (12 = 20) by decide)]
  simp only [mk_i64, mk_u64, p, bl_bi, n11, n01, bi_tt, bi_ff]
  by_cases h1 : a = b
  · rw [beq_true.2 h1, if_pos h1]; rfl
  · rw [beq_false.2 h1, if_neg h1]; rfl
theorem en76_13 (n y z lp a b : Nat) (_hy : y < 2 ^ 64) (_hz : z < 2 ^ 64) (ha : a ≤ 64) (hb : b ≤ 64) : jmpN Tryz.prog 133 lab76 (baseH Tryz.prog) RE (finY Tryz.prog [.tmp 8, .tmp 9] [3, 32]) (bodyC Tryz.f76) (n + 1) [0,0,1,0,1,1] [i64 13, i64 y, u64 z, slP lp 1 [i64 a, i64 b], i64 2, i64 2] = ansY (wv (wdP 13 y z [a, b])) := by
  rw [wd_2 (show arT 13 = 2 from rfl) (by omega) ha hb, jmpN_succ, l76_13_2_2]
  have p := okN_one.2 (pure145 13)
  have e : leafR 13 = false := rfl
  rw [e] at p ⊢
  simp only [bV, mk1, bi_tt, bi_ff] at p
  rw [if_neg (show ¬ (13 = 20) by decide)]
  simp only [mk_i64, mk_u64, p, bl_bi, n11, n01, bi_tt, bi_ff]
  by_cases h1 : a = b
  · rw [beq_true.2 h1, if_pos h1]; rfl
  · rw [beq_false.2 h1, if_neg h1]; rfl
theorem en76_14 (n y z lp a b : Nat) (_hy : y < 2 ^ 64) (_hz : z < 2 ^ 64) (ha : a ≤ 64) (hb : b ≤ 64) : jmpN Tryz.prog 133 lab76 (baseH Tryz.prog) RE (finY Tryz.prog [.tmp 8, .tmp 9] [3, 32]) (bodyC Tryz.f76) (n + 1) [0,0,1,0,1,1] [i64 14, i64 y, u64 z, slP lp 1 [i64 a, i64 b], i64 2, i64 2] = ansY (wv (wdP 14 y z [a, b])) := by
  rw [wd_2 (show arT 14 = 2 from rfl) (by omega) ha hb, jmpN_succ, l76_14_2_2]
  have p := okN_one.2 (pure145 14)
  have e : leafR 14 = false := rfl
  rw [e] at p ⊢
  simp only [bV, mk1, bi_tt, bi_ff] at p
  rw [if_neg (show ¬ (14 = 20) by decide)]
  simp only [mk_i64, mk_u64, p, bl_bi, n11, n01, bi_tt, bi_ff]
  by_cases h1 : a = b
  · rw [beq_true.2 h1, if_pos h1]; rfl
  · rw [beq_false.2 h1, if_neg h1]; rfl
theorem en76_15 (n y z lp a b : Nat) (_hy : y < 2 ^ 64) (_hz : z < 2 ^ 64) (ha : a ≤ 64) (hb : b ≤ 64) : jmpN Tryz.prog 133 lab76 (baseH Tryz.prog) RE (finY Tryz.prog [.tmp 8, .tmp 9] [3, 32]) (bodyC Tryz.f76) (n + 1) [0,0,1,0,1,1] [i64 15, i64 y, u64 z, slP lp 1 [i64 a, i64 b], i64 2, i64 2] = ansY (wv (wdP 15 y z [a, b])) := by
  rw [wd_2 (show arT 15 = 2 from rfl) (by omega) ha hb, jmpN_succ, l76_15_2_2]
  have p := okN_one.2 (pure145 15)
  have e : leafR 15 = false := rfl
  rw [e] at p ⊢
  simp only [bV, mk1, bi_tt, bi_ff] at p
  rw [if_neg (show ¬ (15 = 20) by decide)]
  simp only [mk_i64, mk_u64, p, bl_bi, n11, n01, bi_tt, bi_ff]
  by_cases h1 : a = b
  · rw [beq_true.2 h1, if_pos h1]; rfl
  · rw [beq_false.2 h1, if_neg h1]; rfl
theorem en76_16 (n y z lp a b : Nat) (_hy : y < 2 ^ 64) (_hz : z < 2 ^ 64) (ha : a ≤ 64) (hb : b ≤ 64) : jmpN Tryz.prog 133 lab76 (baseH Tryz.prog) RE (finY Tryz.prog [.tmp 8, .tmp 9] [3, 32]) (bodyC Tryz.f76) (n + 1) [0,0,1,0,1,1] [i64 16, i64 y, u64 z, slP lp 1 [i64 a, i64 b], i64 2, i64 2] = ansY (wv (wdP 16 y z [a, b])) := by
  rw [wd_2 (show arT 16 = 2 from rfl) (by omega) ha hb, jmpN_succ, l76_16_2_2]
  have p := okN_one.2 (pure145 16)
  have e : leafR 16 = false := rfl
  rw [e] at p ⊢
  simp only [bV, mk1, bi_tt, bi_ff] at p
  rw [if_neg (show ¬ (16 = 20) by decide)]
  simp only [mk_i64, mk_u64, p, bl_bi, n11, n01, bi_tt, bi_ff]
  by_cases h1 : a = b
  · rw [beq_true.2 h1, if_pos h1]; rfl
  · rw [beq_false.2 h1, if_neg h1]; rfl
theorem en76_17 (n y z lp a b : Nat) (_hy : y < 2 ^ 64) (_hz : z < 2 ^ 64) (ha : a ≤ 64) (hb : b ≤ 64) : jmpN Tryz.prog 133 lab76 (baseH Tryz.prog) RE (finY Tryz.prog [.tmp 8, .tmp 9] [3, 32]) (bodyC Tryz.f76) (n + 1) [0,0,1,0,1,1] [i64 17, i64 y, u64 z, slP lp 1 [i64 a, i64 b], i64 2, i64 2] = ansY (wv (wdP 17 y z [a, b])) := by
  rw [wd_2 (show arT 17 = 2 from rfl) (by omega) ha hb, jmpN_succ, l76_17_2_2]
  have p := okN_one.2 (pure145 17)
  have e : leafR 17 = false := rfl
  rw [e] at p ⊢
  simp only [bV, mk1, bi_tt, bi_ff] at p
  rw [if_neg (show ¬ (17 = 20) by decide)]
  simp only [mk_i64, mk_u64, p, bl_bi, n11, n01, bi_tt, bi_ff]
  by_cases h1 : a = b
  · rw [beq_true.2 h1, if_pos h1]; rfl
  · rw [beq_false.2 h1, if_neg h1]; rfl
theorem en76_18 (n y z lp a b : Nat) (_hy : y < 2 ^ 64) (_hz : z < 2 ^ 64) (ha : a ≤ 64) (hb : b ≤ 64) : jmpN Tryz.prog 133 lab76 (baseH Tryz.prog) RE (finY Tryz.prog [.tmp 8, .tmp 9] [3, 32]) (bodyC Tryz.f76) (n + 1) [0,0,1,0,1,1] [i64 18, i64 y, u64 z, slP lp 1 [i64 a, i64 b], i64 2, i64 2] = ansY (wv (wdP 18 y z [a, b])) := by
  rw [wd_2 (show arT 18 = 2 from rfl) (by omega) ha hb, jmpN_succ, l76_18_2_2]
  have p := okN_one.2 (pure145 18)
  have e : leafR 18 = false := rfl
  rw [e] at p ⊢
  simp only [bV, mk1, bi_tt, bi_ff] at p
  rw [if_neg (show ¬ (18 = 20) by decide)]
  simp only [mk_i64, mk_u64, p, bl_bi, n11, n01, bi_tt, bi_ff]
  by_cases h1 : a = b
  · rw [beq_true.2 h1, if_pos h1]; rfl
  · rw [beq_false.2 h1, if_neg h1]; rfl
theorem en76_19 (n y z lp a b c : Nat) (_hy : y < 2 ^ 64) (_hz : z < 2 ^ 64) (ha : a ≤ 64) (hb : b ≤ 64) (hc : c ≤ 64) : jmpN Tryz.prog 133 lab76 (baseH Tryz.prog) RE (finY Tryz.prog [.tmp 8, .tmp 9] [3, 32]) (bodyC Tryz.f76) (n + 1) [0,0,1,0,1,1] [i64 19, i64 y, u64 z, slP lp 1 [i64 a, i64 b, i64 c], i64 3, i64 3] = ansY (wv (wdP 19 y z [a, b, c])) := by
  rw [wd_3 (show arT 19 = 3 from rfl) (by omega) ha hb hc, jmpN_succ, l76_19_3_3]
  have p := okN_one.2 (pure145 19)
  have e : leafR 19 = false := rfl
  rw [e] at p ⊢
  simp only [bV, mk1, bi_tt, bi_ff] at p
  simp only [mk_i64, mk_u64, p, bl_bi, bl_bi0, n11, n01, bi_tt, bi_ff]
  by_cases h1 : a = 1
  · rw [beq_true.2 h1]
    by_cases h2 : b = c
    · rw [beq_true.2 h2, if_pos ⟨h1, h2⟩]; rfl
    · rw [beq_false.2 h2, if_neg fun h => h2 h.2]; rfl
  · rw [beq_false.2 h1, if_neg fun h => h1 h.1]; rfl
theorem en76_20 (n y z lp a b : Nat) (_hy : y < 2 ^ 64) (_hz : z < 2 ^ 64) (ha : a ≤ 64) (hb : b ≤ 64) : jmpN Tryz.prog 133 lab76 (baseH Tryz.prog) RE (finY Tryz.prog [.tmp 8, .tmp 9] [3, 32]) (bodyC Tryz.f76) (n + 1) [0,0,1,0,1,1] [i64 20, i64 y, u64 z, slP lp 1 [i64 a, i64 b], i64 2, i64 2] = ansY (wv (wdP 20 y z [a, b])) := by
  rw [wd_2 (show arT 20 = 2 from rfl) (by omega) ha hb, jmpN_succ, l76_20_2_2]
  have p := okN_one.2 (pure145 20)
  have e : leafR 20 = false := rfl
  rw [e] at p ⊢
  simp only [bV, mk1, bi_tt, bi_ff] at p
  rw [if_pos rfl]
  rw [one_le ha, one_le hb, addN (by omega), le_64 (by omega)]
  simp only [mk_i64, mk_u64, p, bl_bi, bl_bi0, n11, n01, bi_tt, bi_ff]
  by_cases h1 : 1 ≤ a
  · rw [decide_eq_true h1]
    by_cases h2 : 1 ≤ b
    · rw [decide_eq_true h2]
      by_cases h3 : a + b ≤ 64
      · rw [decide_eq_true h3, if_pos ⟨h1, h2, h3⟩]; rfl
      · rw [decide_eq_false h3, if_neg fun h => h3 h.2.2]; rfl
    · rw [decide_eq_false h2, if_neg fun h => h2 h.2.1]; rfl
  · rw [decide_eq_false h1, if_neg fun h => h1 h.1]; rfl
theorem en76_21 (n y z lp a : Nat) (hy : y < 2 ^ 64) (hz : z < 2 ^ 64) (ha : a ≤ 64) : jmpN Tryz.prog 133 lab76 (baseH Tryz.prog) RE (finY Tryz.prog [.tmp 8, .tmp 9] [3, 32]) (bodyC Tryz.f76) (n + 1) [0,0,1,0,1,1] [i64 21, i64 y, u64 z, slP lp 1 [i64 a], i64 1, i64 1] = ansY (wv (wdP 21 y z [a])) := by
  rw [wd_1 (show arT 21 = 1 from rfl) (by omega) ha, jmpN_succ, l76_21_1_1]
  have p := okN_one.2 (pure145 21)
  have e : leafR 21 = false := rfl
  rw [e] at p ⊢
  simp only [bV, mk1, bi_tt, bi_ff] at p
  have q := okN_one.2 (pure147 21 y z a hy hz (by omega))
  simp only [tupV] at q
  simp only [mk_i64, mk_u64, p, q, bl_bi, n11, bi_tt, bi_ff]
  cases rsP 21 y z a <;> rfl
theorem en76_22 (n y z lp a : Nat) (hy : y < 2 ^ 64) (hz : z < 2 ^ 64) (ha : a ≤ 64) : jmpN Tryz.prog 133 lab76 (baseH Tryz.prog) RE (finY Tryz.prog [.tmp 8, .tmp 9] [3, 32]) (bodyC Tryz.f76) (n + 1) [0,0,1,0,1,1] [i64 22, i64 y, u64 z, slP lp 1 [i64 a], i64 1, i64 1] = ansY (wv (wdP 22 y z [a])) := by
  rw [wd_1 (show arT 22 = 1 from rfl) (by omega) ha, jmpN_succ, l76_22_1_1]
  have p := okN_one.2 (pure145 22)
  have e : leafR 22 = false := rfl
  rw [e] at p ⊢
  simp only [bV, mk1, bi_tt, bi_ff] at p
  have q := okN_one.2 (pure147 22 y z a hy hz (by omega))
  simp only [tupV] at q
  simp only [mk_i64, mk_u64, p, q, bl_bi, n11, bi_tt, bi_ff]
  cases rsP 22 y z a <;> rfl
theorem en76_23 (n y z lp a : Nat) (hy : y < 2 ^ 64) (hz : z < 2 ^ 64) (ha : a ≤ 64) : jmpN Tryz.prog 133 lab76 (baseH Tryz.prog) RE (finY Tryz.prog [.tmp 8, .tmp 9] [3, 32]) (bodyC Tryz.f76) (n + 1) [0,0,1,0,1,1] [i64 23, i64 y, u64 z, slP lp 1 [i64 a], i64 1, i64 1] = ansY (wv (wdP 23 y z [a])) := by
  rw [wd_1 (show arT 23 = 1 from rfl) (by omega) ha, jmpN_succ, l76_23_1_1]
  have p := okN_one.2 (pure145 23)
  have e : leafR 23 = false := rfl
  rw [e] at p ⊢
  simp only [bV, mk1, bi_tt, bi_ff] at p
  have q := okN_one.2 (pure147 23 y z a hy hz (by omega))
  simp only [tupV] at q
  simp only [mk_i64, mk_u64, p, q, bl_bi, n11, bi_tt, bi_ff]
  cases rsP 23 y z a <;> rfl
theorem en76_24 (n y z lp : Nat) (hy : y < 2 ^ 64) (hz : z < 2 ^ 64) : jmpN Tryz.prog 133 lab76 (baseH Tryz.prog) RE (finY Tryz.prog [.tmp 8, .tmp 9] [3, 32]) (bodyC Tryz.f76) (n + 1) [0,0,1,0,1,1] [i64 24, i64 y, u64 z, slP lp 1 [], i64 0, i64 0] = ansY (wv (wdP 24 y z [])) := by
  rw [wd_0 (show arT 24 = 0 from rfl) (by omega) , jmpN_succ, l76_24_0_0]
  have p := okN_one.2 (pure145 24)
  have e : leafR 24 = true := rfl
  have q := okN_one.2 (pure146 24 y z hy hz)
  rw [e] at p ⊢
  simp only [bV, mk1, bi_tt, bi_ff] at p
  simp only [tupV] at q
  simp only [mk_i64, mk_u64, p, q, bl_bi, n11, bi_tt]
  cases lfP 24 y z <;> rfl
theorem en76_25 (n y z lp : Nat) (hy : y < 2 ^ 64) (hz : z < 2 ^ 64) : jmpN Tryz.prog 133 lab76 (baseH Tryz.prog) RE (finY Tryz.prog [.tmp 8, .tmp 9] [3, 32]) (bodyC Tryz.f76) (n + 1) [0,0,1,0,1,1] [i64 25, i64 y, u64 z, slP lp 1 [], i64 0, i64 0] = ansY (wv (wdP 25 y z [])) := by
  rw [wd_0 (show arT 25 = 0 from rfl) (by omega) , jmpN_succ, l76_25_0_0]
  have p := okN_one.2 (pure145 25)
  have e : leafR 25 = true := rfl
  have q := okN_one.2 (pure146 25 y z hy hz)
  rw [e] at p ⊢
  simp only [bV, mk1, bi_tt, bi_ff] at p
  simp only [tupV] at q
  simp only [mk_i64, mk_u64, p, q, bl_bi, n11, bi_tt]
  cases lfP 25 y z <;> rfl
theorem en76_26 (n y z lp a : Nat) (_hy : y < 2 ^ 64) (_hz : z < 2 ^ 64) (ha : a ≤ 64) : jmpN Tryz.prog 133 lab76 (baseH Tryz.prog) RE (finY Tryz.prog [.tmp 8, .tmp 9] [3, 32]) (bodyC Tryz.f76) (n + 1) [0,0,1,0,1,1] [i64 26, i64 y, u64 z, slP lp 1 [i64 a], i64 1, i64 1] = ansY (wv (wdP 26 y z [a])) := by
  rw [wd_1 (show arT 26 = 1 from rfl) (by omega) ha, jmpN_succ, l76_26_1_1]
  have p := okN_one.2 (pure145 26)
  have e : leafR 26 = false := rfl
  rw [e] at p ⊢
  simp only [bV, mk1, bi_tt, bi_ff] at p
  simp only [mk_i64, mk_u64, p, bl_bi, n11, bi_tt, bi_ff]
  rfl
end Go.Eng
namespace Go.Eng
open Go.RowKit Go.Proofs
theorem ar69_1 {op y z lp : Nat} (har : arT op = 1) (ho : ¬ (op = 0 ∨ 26 < op)) (E : ∀ n a, a ≤ 64 → jmpN Tryz.prog 144 lab69 (baseH Tryz.prog) RE (finY Tryz.prog [.tmp 8, .tmp 9] [3, 32]) (bodyC Tryz.f69) (n + 1) [0,0,1,0,1,1] [i64 op, i64 y, u64 z, slP lp 1 [i64 a], slP lp 1 [i64 a], i64 1, i64 1] = ansY (wv (wdP op y z [a]))) (n a : Nat) (ha : a < 2 ^ 64) :
    jmpN Tryz.prog 144 lab69 (baseH Tryz.prog) RE (finY Tryz.prog [.tmp 8, .tmp 9] [3, 32]) (bodyC Tryz.f69) (n + 4) [0,0,1,0,1,1] [i64 op, i64 y, u64 z, slP lp 1 [i64 a], slP lp 1 [i64 a], i64 1, i64 0] = ansY (wv (wdP op y z [a])) := by
  have hbad : ¬ (op = 0 ∨ 26 < op ∨ ([a] : List Nat).length ≠ arT op) := by rw [har]; simp; omega
  refine (st69_1_0 (n + 3) op y z lp a ha).trans ?_
  by_cases ka : a ≤ 64
  rotate_left
  · rw [decide_eq_false ka, bi_ff, wd_big hbad (show a ∈ [a] by simp) ka]
  rw [decide_eq_true ka, bi_tt]
  exact E (n + 2) a ka
theorem ar69_2 {op y z lp : Nat} (har : arT op = 2) (ho : ¬ (op = 0 ∨ 26 < op)) (E : ∀ n a b, a ≤ 64 → b ≤ 64 → jmpN Tryz.prog 144 lab69 (baseH Tryz.prog) RE (finY Tryz.prog [.tmp 8, .tmp 9] [3, 32]) (bodyC Tryz.f69) (n + 1) [0,0,1,0,1,1] [i64 op, i64 y, u64 z, slP lp 1 [i64 a, i64 b], slP lp 1 [i64 a, i64 b], i64 2, i64 2] = ansY (wv (wdP op y z [a, b]))) (n a b : Nat) (ha : a < 2 ^ 64) (hb : b < 2 ^ 64) :
    jmpN Tryz.prog 144 lab69 (baseH Tryz.prog) RE (finY Tryz.prog [.tmp 8, .tmp 9] [3, 32]) (bodyC Tryz.f69) (n + 4) [0,0,1,0,1,1] [i64 op, i64 y, u64 z, slP lp 1 [i64 a, i64 b], slP lp 1 [i64 a, i64 b], i64 2, i64 0] = ansY (wv (wdP op y z [a, b])) := by
  have hbad : ¬ (op = 0 ∨ 26 < op ∨ ([a, b] : List Nat).length ≠ arT op) := by rw [har]; simp; omega
  refine (st69_2_0 (n + 3) op y z lp a b ha).trans ?_
  by_cases ka : a ≤ 64
  rotate_left
  · rw [decide_eq_false ka, bi_ff, wd_big hbad (show a ∈ [a, b] by simp) ka]
  rw [decide_eq_true ka, bi_tt]
  refine (st69_2_1 (n + 2) op y z lp a b hb).trans ?_
  by_cases kb : b ≤ 64
  rotate_left
  · rw [decide_eq_false kb, bi_ff, wd_big hbad (show b ∈ [a, b] by simp) kb]
  rw [decide_eq_true kb, bi_tt]
  exact E (n + 1) a b ka kb
theorem ar69_3 {op y z lp : Nat} (har : arT op = 3) (ho : ¬ (op = 0 ∨ 26 < op)) (E : ∀ n a b c, a ≤ 64 → b ≤ 64 → c ≤ 64 → jmpN Tryz.prog 144 lab69 (baseH Tryz.prog) RE (finY Tryz.prog [.tmp 8, .tmp 9] [3, 32]) (bodyC Tryz.f69) (n + 1) [0,0,1,0,1,1] [i64 op, i64 y, u64 z, slP lp 1 [i64 a, i64 b, i64 c], slP lp 1 [i64 a, i64 b, i64 c], i64 3, i64 3] = ansY (wv (wdP op y z [a, b, c]))) (n a b c : Nat) (ha : a < 2 ^ 64) (hb : b < 2 ^ 64) (hc : c < 2 ^ 64) :
    jmpN Tryz.prog 144 lab69 (baseH Tryz.prog) RE (finY Tryz.prog [.tmp 8, .tmp 9] [3, 32]) (bodyC Tryz.f69) (n + 4) [0,0,1,0,1,1] [i64 op, i64 y, u64 z, slP lp 1 [i64 a, i64 b, i64 c], slP lp 1 [i64 a, i64 b, i64 c], i64 3, i64 0] = ansY (wv (wdP op y z [a, b, c])) := by
  have hbad : ¬ (op = 0 ∨ 26 < op ∨ ([a, b, c] : List Nat).length ≠ arT op) := by rw [har]; simp; omega
  refine (st69_3_0 (n + 3) op y z lp a b c ha).trans ?_
  by_cases ka : a ≤ 64
  rotate_left
  · rw [decide_eq_false ka, bi_ff, wd_big hbad (show a ∈ [a, b, c] by simp) ka]
  rw [decide_eq_true ka, bi_tt]
  refine (st69_3_1 (n + 2) op y z lp a b c hb).trans ?_
  by_cases kb : b ≤ 64
  rotate_left
  · rw [decide_eq_false kb, bi_ff, wd_big hbad (show b ∈ [a, b, c] by simp) kb]
  rw [decide_eq_true kb, bi_tt]
  refine (st69_3_2 (n + 1) op y z lp a b c hc).trans ?_
  by_cases kc : c ≤ 64
  rotate_left
  · rw [decide_eq_false kc, bi_ff, wd_big hbad (show c ∈ [a, b, c] by simp) kc]
  rw [decide_eq_true kc, bi_tt]
  exact E (n + 0) a b c ka kb kc
theorem run69 {op y z lp : Nat} {ws : List Nat} (hk : 1 ≤ op ∧ op ≤ 26) (hl : ws.length = arT op) (hy : y < 2 ^ 64) (hz : z < 2 ^ 64) (hws : ∀ a ∈ ws, a < 2 ^ 64) (n : Nat) :
    jmpN Tryz.prog 144 lab69 (baseH Tryz.prog) RE (finY Tryz.prog [.tmp 8, .tmp 9] [3, 32]) (bodyC Tryz.f69) (n + 4) [0,0,1,0,1,1] [i64 op, i64 y, u64 z, slP lp 1 (ws.map i64), slP lp 1 (ws.map i64), i64 ws.length, i64 0] = ansY (wv (wdP op y z ws)) := by
  have hb : ¬ (op = 0 ∨ 26 < op) := by omega
  have hc : op = 1 ∨ op = 2 ∨ op = 3 ∨ op = 4 ∨ op = 5 ∨ op = 6 ∨ op = 7 ∨ op = 8 ∨ op = 9 ∨ op = 10 ∨ op = 11 ∨ op = 12 ∨ op = 13 ∨ op = 14 ∨ op = 15 ∨ op = 16 ∨ op = 17 ∨ op = 18 ∨ op = 19 ∨ op = 20 ∨ op = 21 ∨ op = 22 ∨ op = 23 ∨ op = 24 ∨ op = 25 ∨ op = 26 := by omega
  match ws, hl, hws with
  | [], hl, hws =>
    have hk : op = 1 ∨ op = 2 ∨ op = 24 ∨ op = 25 := by
      rcases hc with rfl | rfl | rfl | rfl | rfl | rfl | rfl | rfl | rfl | rfl | rfl | rfl | rfl | rfl | rfl | rfl | rfl | rfl | rfl | rfl | rfl | rfl | rfl | rfl | rfl | rfl <;> first | omega | (simp only [List.length_cons, List.length_nil] at hl; exact absurd hl (by decide))
    rcases hk with rfl | rfl | rfl | rfl
    · exact en69_1 (n + 3) y z lp hy hz
    · exact en69_2 (n + 3) y z lp hy hz
    · exact en69_24 (n + 3) y z lp hy hz
    · exact en69_25 (n + 3) y z lp hy hz
  | [a], hl, hws =>
    have hk : op = 3 ∨ op = 4 ∨ op = 21 ∨ op = 22 ∨ op = 23 ∨ op = 26 := by
      rcases hc with rfl | rfl | rfl | rfl | rfl | rfl | rfl | rfl | rfl | rfl | rfl | rfl | rfl | rfl | rfl | rfl | rfl | rfl | rfl | rfl | rfl | rfl | rfl | rfl | rfl | rfl <;> first | omega | (simp only [List.length_cons, List.length_nil] at hl; exact absurd hl (by decide))
    rcases hk with rfl | rfl | rfl | rfl | rfl | rfl
    · exact ar69_1 rfl hb (fun n a ha => en69_3 n y z lp a hy hz ha) n a (hws _ (by simp))
    · exact ar69_1 rfl hb (fun n a ha => en69_4 n y z lp a hy hz ha) n a (hws _ (by simp))
    · exact ar69_1 rfl hb (fun n a ha => en69_21 n y z lp a hy hz ha) n a (hws _ (by simp))
    · exact ar69_1 rfl hb (fun n a ha => en69_22 n y z lp a hy hz ha) n a (hws _ (by simp))
    · exact ar69_1 rfl hb (fun n a ha => en69_23 n y z lp a hy hz ha) n a (hws _ (by simp))
    · exact ar69_1 rfl hb (fun n a ha => en69_26 n y z lp a hy hz ha) n a (hws _ (by simp))
  | [a, b], hl, hws =>
    have hk : op = 5 ∨ op = 6 ∨ op = 7 ∨ op = 8 ∨ op = 9 ∨ op = 10 ∨ op = 11 ∨ op = 12 ∨ op = 13 ∨ op = 14 ∨ op = 15 ∨ op = 16 ∨ op = 17 ∨ op = 18 ∨ op = 20 := by
      rcases hc with rfl | rfl | rfl | rfl | rfl | rfl | rfl | rfl | rfl | rfl | rfl | rfl | rfl | rfl | rfl | rfl | rfl | rfl | rfl | rfl | rfl | rfl | rfl | rfl | rfl | rfl <;> first | omega | (simp only [List.length_cons, List.length_nil] at hl; exact absurd hl (by decide))
    rcases hk with rfl | rfl | rfl | rfl | rfl | rfl | rfl | rfl | rfl | rfl | rfl | rfl | rfl | rfl | rfl
    · exact ar69_2 rfl hb (fun n a b ha hb => en69_5 n y z lp a b hy hz ha hb) n a b (hws _ (by simp)) (hws _ (by simp))
    · exact ar69_2 rfl hb (fun n a b ha hb => en69_6 n y z lp a b hy hz ha hb) n a b (hws _ (by simp)) (hws _ (by simp))
    · exact ar69_2 rfl hb (fun n a b ha hb => en69_7 n y z lp a b hy hz ha hb) n a b (hws _ (by simp)) (hws _ (by simp))
    · exact ar69_2 rfl hb (fun n a b ha hb => en69_8 n y z lp a b hy hz ha hb) n a b (hws _ (by simp)) (hws _ (by simp))
    · exact ar69_2 rfl hb (fun n a b ha hb => en69_9 n y z lp a b hy hz ha hb) n a b (hws _ (by simp)) (hws _ (by simp))
    · exact ar69_2 rfl hb (fun n a b ha hb => en69_10 n y z lp a b hy hz ha hb) n a b (hws _ (by simp)) (hws _ (by simp))
    · exact ar69_2 rfl hb (fun n a b ha hb => en69_11 n y z lp a b hy hz ha hb) n a b (hws _ (by simp)) (hws _ (by simp))
    · exact ar69_2 rfl hb (fun n a b ha hb => en69_12 n y z lp a b hy hz ha hb) n a b (hws _ (by simp)) (hws _ (by simp))
    · exact ar69_2 rfl hb (fun n a b ha hb => en69_13 n y z lp a b hy hz ha hb) n a b (hws _ (by simp)) (hws _ (by simp))
    · exact ar69_2 rfl hb (fun n a b ha hb => en69_14 n y z lp a b hy hz ha hb) n a b (hws _ (by simp)) (hws _ (by simp))
    · exact ar69_2 rfl hb (fun n a b ha hb => en69_15 n y z lp a b hy hz ha hb) n a b (hws _ (by simp)) (hws _ (by simp))
    · exact ar69_2 rfl hb (fun n a b ha hb => en69_16 n y z lp a b hy hz ha hb) n a b (hws _ (by simp)) (hws _ (by simp))
    · exact ar69_2 rfl hb (fun n a b ha hb => en69_17 n y z lp a b hy hz ha hb) n a b (hws _ (by simp)) (hws _ (by simp))
    · exact ar69_2 rfl hb (fun n a b ha hb => en69_18 n y z lp a b hy hz ha hb) n a b (hws _ (by simp)) (hws _ (by simp))
    · exact ar69_2 rfl hb (fun n a b ha hb => en69_20 n y z lp a b hy hz ha hb) n a b (hws _ (by simp)) (hws _ (by simp))
  | [a, b, c], hl, hws =>
    have hk : op = 19 := by
      rcases hc with rfl | rfl | rfl | rfl | rfl | rfl | rfl | rfl | rfl | rfl | rfl | rfl | rfl | rfl | rfl | rfl | rfl | rfl | rfl | rfl | rfl | rfl | rfl | rfl | rfl | rfl <;> first | omega | (simp only [List.length_cons, List.length_nil] at hl; exact absurd hl (by decide))
    rcases hk with rfl
    · exact ar69_3 rfl hb (fun n a b c ha hb hc => en69_19 n y z lp a b c hy hz ha hb hc) n a b c (hws _ (by simp)) (hws _ (by simp)) (hws _ (by simp))
  | _ :: _ :: _ :: _ :: _, hl, _ =>
    exfalso
    simp only [List.length_cons] at hl
    have : arT op ≤ 3 := by
      rcases hc with rfl | rfl | rfl | rfl | rfl | rfl | rfl | rfl | rfl | rfl | rfl | rfl | rfl | rfl | rfl | rfl | rfl | rfl | rfl | rfl | rfl | rfl | rfl | rfl | rfl | rfl <;> decide
    omega
theorem ar76_1 {op y z lp : Nat} (har : arT op = 1) (ho : ¬ (op = 0 ∨ 26 < op)) (E : ∀ n a, a ≤ 64 → jmpN Tryz.prog 133 lab76 (baseH Tryz.prog) RE (finY Tryz.prog [.tmp 8, .tmp 9] [3, 32]) (bodyC Tryz.f76) (n + 1) [0,0,1,0,1,1] [i64 op, i64 y, u64 z, slP lp 1 [i64 a], i64 1, i64 1] = ansY (wv (wdP op y z [a]))) (n a : Nat) (ha : a < 2 ^ 64) :
    jmpN Tryz.prog 133 lab76 (baseH Tryz.prog) RE (finY Tryz.prog [.tmp 8, .tmp 9] [3, 32]) (bodyC Tryz.f76) (n + 4) [0,0,1,0,1,1] [i64 op, i64 y, u64 z, slP lp 1 [i64 a], i64 1, i64 0] = ansY (wv (wdP op y z [a])) := by
  have hbad : ¬ (op = 0 ∨ 26 < op ∨ ([a] : List Nat).length ≠ arT op) := by rw [har]; simp; omega
  refine (st76_1_0 (n + 3) op y z lp a ha).trans ?_
  by_cases ka : a ≤ 64
  rotate_left
  · rw [decide_eq_false ka, bi_ff, wd_big hbad (show a ∈ [a] by simp) ka]
  rw [decide_eq_true ka, bi_tt]
  exact E (n + 2) a ka
theorem ar76_2 {op y z lp : Nat} (har : arT op = 2) (ho : ¬ (op = 0 ∨ 26 < op)) (E : ∀ n a b, a ≤ 64 → b ≤ 64 → jmpN Tryz.prog 133 lab76 (baseH Tryz.prog) RE (finY Tryz.prog [.tmp 8, .tmp 9] [3, 32]) (bodyC Tryz.f76) (n + 1) [0,0,1,0,1,1] [i64 op, i64 y, u64 z, slP lp 1 [i64 a, i64 b], i64 2, i64 2] = ansY (wv (wdP op y z [a, b]))) (n a b : Nat) (ha : a < 2 ^ 64) (hb : b < 2 ^ 64) :
    jmpN Tryz.prog 133 lab76 (baseH Tryz.prog) RE (finY Tryz.prog [.tmp 8, .tmp 9] [3, 32]) (bodyC Tryz.f76) (n + 4) [0,0,1,0,1,1] [i64 op, i64 y, u64 z, slP lp 1 [i64 a, i64 b], i64 2, i64 0] = ansY (wv (wdP op y z [a, b])) := by
  have hbad : ¬ (op = 0 ∨ 26 < op ∨ ([a, b] : List Nat).length ≠ arT op) := by rw [har]; simp; omega
  refine (st76_2_0 (n + 3) op y z lp a b ha).trans ?_
  by_cases ka : a ≤ 64
  rotate_left
  · rw [decide_eq_false ka, bi_ff, wd_big hbad (show a ∈ [a, b] by simp) ka]
  rw [decide_eq_true ka, bi_tt]
  refine (st76_2_1 (n + 2) op y z lp a b hb).trans ?_
  by_cases kb : b ≤ 64
  rotate_left
  · rw [decide_eq_false kb, bi_ff, wd_big hbad (show b ∈ [a, b] by simp) kb]
  rw [decide_eq_true kb, bi_tt]
  exact E (n + 1) a b ka kb
theorem ar76_3 {op y z lp : Nat} (har : arT op = 3) (ho : ¬ (op = 0 ∨ 26 < op)) (E : ∀ n a b c, a ≤ 64 → b ≤ 64 → c ≤ 64 → jmpN Tryz.prog 133 lab76 (baseH Tryz.prog) RE (finY Tryz.prog [.tmp 8, .tmp 9] [3, 32]) (bodyC Tryz.f76) (n + 1) [0,0,1,0,1,1] [i64 op, i64 y, u64 z, slP lp 1 [i64 a, i64 b, i64 c], i64 3, i64 3] = ansY (wv (wdP op y z [a, b, c]))) (n a b c : Nat) (ha : a < 2 ^ 64) (hb : b < 2 ^ 64) (hc : c < 2 ^ 64) :
    jmpN Tryz.prog 133 lab76 (baseH Tryz.prog) RE (finY Tryz.prog [.tmp 8, .tmp 9] [3, 32]) (bodyC Tryz.f76) (n + 4) [0,0,1,0,1,1] [i64 op, i64 y, u64 z, slP lp 1 [i64 a, i64 b, i64 c], i64 3, i64 0] = ansY (wv (wdP op y z [a, b, c])) := by
  have hbad : ¬ (op = 0 ∨ 26 < op ∨ ([a, b, c] : List Nat).length ≠ arT op) := by rw [har]; simp; omega
  refine (st76_3_0 (n + 3) op y z lp a b c ha).trans ?_
  by_cases ka : a ≤ 64
  rotate_left
  · rw [decide_eq_false ka, bi_ff, wd_big hbad (show a ∈ [a, b, c] by simp) ka]
  rw [decide_eq_true ka, bi_tt]
  refine (st76_3_1 (n + 2) op y z lp a b c hb).trans ?_
  by_cases kb : b ≤ 64
  rotate_left
  · rw [decide_eq_false kb, bi_ff, wd_big hbad (show b ∈ [a, b, c] by simp) kb]
  rw [decide_eq_true kb, bi_tt]
  refine (st76_3_2 (n + 1) op y z lp a b c hc).trans ?_
  by_cases kc : c ≤ 64
  rotate_left
  · rw [decide_eq_false kc, bi_ff, wd_big hbad (show c ∈ [a, b, c] by simp) kc]
  rw [decide_eq_true kc, bi_tt]
  exact E (n + 0) a b c ka kb kc
theorem run76 {op y z lp : Nat} {ws : List Nat} (hk : 1 ≤ op ∧ op ≤ 26) (hl : ws.length = arT op) (hy : y < 2 ^ 64) (hz : z < 2 ^ 64) (hws : ∀ a ∈ ws, a < 2 ^ 64) (n : Nat) :
    jmpN Tryz.prog 133 lab76 (baseH Tryz.prog) RE (finY Tryz.prog [.tmp 8, .tmp 9] [3, 32]) (bodyC Tryz.f76) (n + 4) [0,0,1,0,1,1] [i64 op, i64 y, u64 z, slP lp 1 (ws.map i64), i64 ws.length, i64 0] = ansY (wv (wdP op y z ws)) := by
  have hb : ¬ (op = 0 ∨ 26 < op) := by omega
  have hc : op = 1 ∨ op = 2 ∨ op = 3 ∨ op = 4 ∨ op = 5 ∨ op = 6 ∨ op = 7 ∨ op = 8 ∨ op = 9 ∨ op = 10 ∨ op = 11 ∨ op = 12 ∨ op = 13 ∨ op = 14 ∨ op = 15 ∨ op = 16 ∨ op = 17 ∨ op = 18 ∨ op = 19 ∨ op = 20 ∨ op = 21 ∨ op = 22 ∨ op = 23 ∨ op = 24 ∨ op = 25 ∨ op = 26 := by omega
  match ws, hl, hws with
  | [], hl, hws =>
    have hk : op = 1 ∨ op = 2 ∨ op = 24 ∨ op = 25 := by
      rcases hc with rfl | rfl | rfl | rfl | rfl | rfl | rfl | rfl | rfl | rfl | rfl | rfl | rfl | rfl | rfl | rfl | rfl | rfl | rfl | rfl | rfl | rfl | rfl | rfl | rfl | rfl <;> first | omega | (simp only [List.length_cons, List.length_nil] at hl; exact absurd hl (by decide))
    rcases hk with rfl | rfl | rfl | rfl
    · exact en76_1 (n + 3) y z lp hy hz
    · exact en76_2 (n + 3) y z lp hy hz
    · exact en76_24 (n + 3) y z lp hy hz
    · exact en76_25 (n + 3) y z lp hy hz
  | [a], hl, hws =>
    have hk : op = 3 ∨ op = 4 ∨ op = 21 ∨ op = 22 ∨ op = 23 ∨ op = 26 := by
      rcases hc with rfl | rfl | rfl | rfl | rfl | rfl | rfl | rfl | rfl | rfl | rfl | rfl | rfl | rfl | rfl | rfl | rfl | rfl | rfl | rfl | rfl | rfl | rfl | rfl | rfl | rfl <;> first | omega | (simp only [List.length_cons, List.length_nil] at hl; exact absurd hl (by decide))
    rcases hk with rfl | rfl | rfl | rfl | rfl | rfl
    · exact ar76_1 rfl hb (fun n a ha => en76_3 n y z lp a hy hz ha) n a (hws _ (by simp))
    · exact ar76_1 rfl hb (fun n a ha => en76_4 n y z lp a hy hz ha) n a (hws _ (by simp))
    · exact ar76_1 rfl hb (fun n a ha => en76_21 n y z lp a hy hz ha) n a (hws _ (by simp))
    · exact ar76_1 rfl hb (fun n a ha => en76_22 n y z lp a hy hz ha) n a (hws _ (by simp))
    · exact ar76_1 rfl hb (fun n a ha => en76_23 n y z lp a hy hz ha) n a (hws _ (by simp))
    · exact ar76_1 rfl hb (fun n a ha => en76_26 n y z lp a hy hz ha) n a (hws _ (by simp))
  | [a, b], hl, hws =>
    have hk : op = 5 ∨ op = 6 ∨ op = 7 ∨ op = 8 ∨ op = 9 ∨ op = 10 ∨ op = 11 ∨ op = 12 ∨ op = 13 ∨ op = 14 ∨ op = 15 ∨ op = 16 ∨ op = 17 ∨ op = 18 ∨ op = 20 := by
      rcases hc with rfl | rfl | rfl | rfl | rfl | rfl | rfl | rfl | rfl | rfl | rfl | rfl | rfl | rfl | rfl | rfl | rfl | rfl | rfl | rfl | rfl | rfl | rfl | rfl | rfl | rfl <;> first | omega | (simp only [List.length_cons, List.length_nil] at hl; exact absurd hl (by decide))
    rcases hk with rfl | rfl | rfl | rfl | rfl | rfl | rfl | rfl | rfl | rfl | rfl | rfl | rfl | rfl | rfl
    · exact ar76_2 rfl hb (fun n a b ha hb => en76_5 n y z lp a b hy hz ha hb) n a b (hws _ (by simp)) (hws _ (by simp))
    · exact ar76_2 rfl hb (fun n a b ha hb => en76_6 n y z lp a b hy hz ha hb) n a b (hws _ (by simp)) (hws _ (by simp))
    · exact ar76_2 rfl hb (fun n a b ha hb => en76_7 n y z lp a b hy hz ha hb) n a b (hws _ (by simp)) (hws _ (by simp))
    · exact ar76_2 rfl hb (fun n a b ha hb => en76_8 n y z lp a b hy hz ha hb) n a b (hws _ (by simp)) (hws _ (by simp))
    · exact ar76_2 rfl hb (fun n a b ha hb => en76_9 n y z lp a b hy hz ha hb) n a b (hws _ (by simp)) (hws _ (by simp))
    · exact ar76_2 rfl hb (fun n a b ha hb => en76_10 n y z lp a b hy hz ha hb) n a b (hws _ (by simp)) (hws _ (by simp))
    · exact ar76_2 rfl hb (fun n a b ha hb => en76_11 n y z lp a b hy hz ha hb) n a b (hws _ (by simp)) (hws _ (by simp))
    · exact ar76_2 rfl hb (fun n a b ha hb => en76_12 n y z lp a b hy hz ha hb) n a b (hws _ (by simp)) (hws _ (by simp))
    · exact ar76_2 rfl hb (fun n a b ha hb => en76_13 n y z lp a b hy hz ha hb) n a b (hws _ (by simp)) (hws _ (by simp))
    · exact ar76_2 rfl hb (fun n a b ha hb => en76_14 n y z lp a b hy hz ha hb) n a b (hws _ (by simp)) (hws _ (by simp))
    · exact ar76_2 rfl hb (fun n a b ha hb => en76_15 n y z lp a b hy hz ha hb) n a b (hws _ (by simp)) (hws _ (by simp))
    · exact ar76_2 rfl hb (fun n a b ha hb => en76_16 n y z lp a b hy hz ha hb) n a b (hws _ (by simp)) (hws _ (by simp))
    · exact ar76_2 rfl hb (fun n a b ha hb => en76_17 n y z lp a b hy hz ha hb) n a b (hws _ (by simp)) (hws _ (by simp))
    · exact ar76_2 rfl hb (fun n a b ha hb => en76_18 n y z lp a b hy hz ha hb) n a b (hws _ (by simp)) (hws _ (by simp))
    · exact ar76_2 rfl hb (fun n a b ha hb => en76_20 n y z lp a b hy hz ha hb) n a b (hws _ (by simp)) (hws _ (by simp))
  | [a, b, c], hl, hws =>
    have hk : op = 19 := by
      rcases hc with rfl | rfl | rfl | rfl | rfl | rfl | rfl | rfl | rfl | rfl | rfl | rfl | rfl | rfl | rfl | rfl | rfl | rfl | rfl | rfl | rfl | rfl | rfl | rfl | rfl | rfl <;> first | omega | (simp only [List.length_cons, List.length_nil] at hl; exact absurd hl (by decide))
    rcases hk with rfl
    · exact ar76_3 rfl hb (fun n a b c ha hb hc => en76_19 n y z lp a b c hy hz ha hb hc) n a b c (hws _ (by simp)) (hws _ (by simp)) (hws _ (by simp))
  | _ :: _ :: _ :: _ :: _, hl, _ =>
    exfalso
    simp only [List.length_cons] at hl
    have : arT op ≤ 3 := by
      rcases hc with rfl | rfl | rfl | rfl | rfl | rfl | rfl | rfl | rfl | rfl | rfl | rfl | rfl | rfl | rfl | rfl | rfl | rfl | rfl | rfl | rfl | rfl | rfl | rfl | rfl | rfl <;> decide
    omega
theorem pure69 {op y z lp : Nat} {ws : List Nat} (hop : op < 2 ^ 64) (hy : y < 2 ^ 64) (hz : z < 2 ^ 64) (hws : ∀ a ∈ ws, a < 2 ^ 64) : PureAt Tryz.prog 69 [i64 op, i64 y, u64 z, slP lp 1 (ws.map i64)] (wv (wdP op y z ws)) := by
  refine pure_fn mixed globs fn69 body69 nt69 rs69 RE_ok lab69 [3, 32] 4 ((s69 _ _ _ _ _ _).trans ?_)
  have p := okN_one.2 (pure131 op)
  have q := okN_one.2 (pure132 op)
  simp only [i64, bV, mk1] at p q
  rw [p, q]
  simp only [n11, bi_tt, bl_bi, lenL_map]
  rw [arN_eq op, kn_iff hop]
  by_cases hk : 1 ≤ op ∧ op ≤ 26
  · rw [decide_eq_true hk]
    show bi (nb (nbeq ws.length (arT op))) _ _ = _
    by_cases hl : ws.length = arT op
    · rw [beq_true.2 hl, show nb true = false from rfl, bi_ff]
      exact run69 hk hl hy hz hws 0
    · rw [beq_false.2 hl, show nb false = true from rfl, bi_tt, wd_bad (by omega)]
      rfl
  · rw [decide_eq_false hk, wd_bad (by omega)]
    rfl
theorem pure76 {op y z lp : Nat} {ws : List Nat} (hop : op < 2 ^ 64) (hy : y < 2 ^ 64) (hz : z < 2 ^ 64) (hws : ∀ a ∈ ws, a < 2 ^ 64) : PureAt Tryz.prog 76 [i64 op, i64 y, u64 z, slP lp 1 (ws.map i64)] (wv (wdP op y z ws)) := by
  refine pure_fn mixed globs fn76 body76 nt76 rs76 RE_ok lab76 [3, 32] 4 ((s76 _ _ _ _ _ _).trans ?_)
  have q := okN_one.2 (pure125 op)
  simp only [i64] at q
  rw [q]
  simp only [n11, bi_tt, bl_bi, bl_bi0, lenL_map]
  rw [arR_eq hop]
  by_cases hk : 1 ≤ op ∧ op ≤ 26
  · have h3 : arT op ≤ 3 := by
      unfold arT
      rw [if_neg (by omega)]
      split <;> first | omega | (split <;> first | omega | (split <;> omega))
    rw [biased3s (by omega), show nble 9223372036854775808 (arT op + 9223372036854775808) = true from ble_true.2 (by omega)]
    show bi (nb (nbeq ws.length (arT op))) _ _ = _
    by_cases hl : ws.length = arT op
    · rw [beq_true.2 hl, show nb true = false from rfl, bi_ff]
      exact run76 hk hl hy hz hws 0
    · rw [beq_false.2 hl, show nb false = true from rfl, bi_tt, wd_bad (by omega)]
      rfl
  · have h4 : arT op = 18446744073709551615 := by
      unfold arT
      rw [if_pos (by omega)]
    rw [h4, wd_bad (by omega)]
    rfl
end Go.Eng
