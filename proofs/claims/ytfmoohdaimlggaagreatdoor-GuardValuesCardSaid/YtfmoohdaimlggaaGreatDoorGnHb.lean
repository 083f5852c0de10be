
/- A part of the proof that the evaluator in GnC, and the driver in GnZ, answer as the model does; no conditions. -/
import Derived.Test.YtfmoohdaimlggaaGreatDoorGnHa
import Derived.Test.YtfmoohdaimlggaaGreatDoorGnAa
namespace Go.Eng
open Go.RowKit Go.Proofs
noncomputable section
def NtS : Nat → Option Native := ntL [(130, natP Tryz.prog 130 [3] fun l => i64 (clampN (nthL l 0).p))]
def RS : Rec := evN Tryz.prog NtS (fun _ => false) 2
/- what the functions on words compute; names that begin with sp_ are never unfolded in a run -/
def sp_sgn (w x : Nat) : Nat := sgN (clampN w) x
def sp_neg (w x : Nat) : Bool := decide (2 ^ 63 ≤ sp_sgn w x)
def sp_shl (w a b : Nat) : Nat := if clampN w ≤ cutN w b then 0 else cutN w (cutN w a * 2 ^ cutN w b)
def sp_shr (w a b : Nat) : Nat := if clampN w ≤ cutN w b then 0 else cutN w a / 2 ^ cutN w b
def sp_sar (w a b : Nat) : Nat := if sp_neg w a = true then (if clampN w ≤ cutN w b then maskN w else cutN w (sarN (sp_sgn w a) (cutN w b))) else sp_shr w a b
def sp_div (w a b : Nat) : Nat := if cutN w b = 0 then maskN w else cutN w a / cutN w b
def sp_rem (w a b : Nat) : Nat := if cutN w b = 0 then cutN w a else cutN w a % cutN w b
def sp_and (w a b : Nat) : Nat := cutN w (a &&& b)
def sp_or (w a b : Nat) : Nat := cutN w (a ||| b)
def sp_xor (w a b : Nat) : Nat := cutN w (a ^^^ b)
def sp_add (w a b : Nat) : Nat := cutN w (a + b)
def sp_sub (w a b : Nat) : Nat := cutN w (a + 2 ^ 64 - b)
def sp_mul (w a b : Nat) : Nat := cutN w (a * b)
def sp_not (w a : Nat) : Nat := cutN w (2 ^ 64 - 1 - a)
def sp_ngt (w a : Nat) : Nat := cutN w (2 ^ 64 - a)
def sp_eq (w a b : Nat) : Nat := if cutN w a = cutN w b then 1 else 0
def sp_ult (w a b : Nat) : Nat := if cutN w a < cutN w b then 1 else 0
def sp_slt (w a b : Nat) : Nat := if (sp_sgn w a + 2 ^ 63) % 2 ^ 64 < (sp_sgn w b + 2 ^ 63) % 2 ^ 64 then 1 else 0
def sp_cat (wa wb a b : Nat) : Nat := (cutN wa a * 2 ^ clampN wb % 2 ^ 64) ||| cutN wb b
def sp_ext (low w x : Nat) : Nat := if low < 64 then cutN w (x / 2 ^ low) else 0
def sp_sxt (w n x : Nat) : Nat := cutN n (sp_sgn w x)
def sp_bin (o w a b : Nat) : Nat := if o = 5 then sp_and w a b else if o = 6 then sp_or w a b else if o = 7 then sp_xor w a b else if o = 8 then sp_add w a b else if o = 9 then sp_sub w a b else if o = 10 then sp_mul w a b
  else if o = 11 then sp_div w a b else if o = 12 then sp_rem w a b else if o = 13 then sp_shl w a b else if o = 14 then sp_shr w a b else if o = 15 then sp_sar w a b else if o = 16 then sp_eq w a b else if o = 17 then sp_ult w a b else sp_slt w a b
def sp_bit (x i : Nat) : Nat := if i < 64 then btN x i else 0
def n2 (k : Nat) (f : Nat → Nat → Nat) : Nat × Native := (k, natP Tryz.prog k [3, 23] fun l => u64 (f (nthL l 0).p (nthL l 1).p))
def n3 (k : Nat) (f : Nat → Nat → Nat → Nat) : Nat × Native := (k, natP Tryz.prog k [3, 23, 23] fun l => u64 (f (nthL l 0).p (nthL l 1).p (nthL l 2).p))
def NtK : Nat → Option Native := ntL [(130, natP Tryz.prog 130 [3] fun l => i64 (clampN (nthL l 0).p)), (68, natP Tryz.prog 68 [3] fun l => u64 (maskN (nthL l 0).p)), (29, natP Tryz.prog 29 [3, 23] fun l => u64 (cutN (nthL l 0).p (nthL l 1).p)), (188, natP Tryz.prog 188 [3, 23] fun l => i64 (sp_sgn (nthL l 0).p (nthL l 1).p)), (251, natP Tryz.prog 251 [4] fun l => u64 (nthL l 0).p)]
def RK : Rec := evN Tryz.prog NtK (fun _ => false) 2
/- the reference's: bits 75, width 74, greatest value 222, Cut 32 -/
def NtR : Nat → Option Native := ntL [(74, natP Tryz.prog 74 [3] fun l => i64 (clampN (nthL l 0).p)), (75, natP Tryz.prog 75 [23, 3] fun l => u64 (sp_bit (nthL l 0).p (nthL l 1).p)), (32, natP Tryz.prog 32 [3, 23] fun l => u64 (cutN (nthL l 0).p (nthL l 1).p)), (222, natP Tryz.prog 222 [3] fun l => u64 (maskN (nthL l 0).p)), (209, natP Tryz.prog 209 [3, 23, 23] fun l => u64 (sp_add (nthL l 0).p (nthL l 1).p (nthL l 2).p)), (289, natP Tryz.prog 289 [3, 23] fun l => bV (sp_neg (nthL l 0).p (nthL l 1).p)), (255, natP Tryz.prog 255 [4] fun l => u64 (nthL l 0).p)]
def RR : Rec := evN Tryz.prog NtR (fun _ => false) 2
end
theorem RS_ok : RecOk Tryz.prog RS := evN_ok mixed (ntL_cons ntL_nil) noGor 2
theorem RK_ok : RecOk Tryz.prog RK := evN_ok mixed (ntL_cons (ntL_cons (ntL_cons (ntL_cons (ntL_cons ntL_nil))))) noGor 2
theorem RR_ok : RecOk Tryz.prog RR := evN_ok mixed (ntL_cons (ntL_cons (ntL_cons (ntL_cons (ntL_cons (ntL_cons (ntL_cons ntL_nil))))))) noGor 2
end Go.Eng
namespace Go.Eng
open Go.RowKit Go.Proofs
noncomputable section
def lab222 : Lab := labT [([0,0,1,0,1,1], [(3, 0), (5, 0), (6, 0)])]
def lab206 : Lab := labT [([0,0,1,0,1,1], [(1, 0), (2, 0), (7, 0), (10, 0), (11, 0)])]
def lab209 : Lab := labT [([0,0,1,0,1,1], [(1, 0), (2, 0), (7, 0), (8, 0), (12, 0), (13, 0)])]
def lab211 : Lab := labT [([0,0,1,0,1,1], [(0, 0), (1, 0), (2, 0), (7, 0), (8, 0)])]
def lab252 : Lab := labT [([0,0,1,0,1,1], [(0, 0), (1, 0), (6, 0), (7, 0), (8, 0)])]
def lab253 : Lab := labT [([0,0,1,0,1,1], [(0, 0), (1, 0), (2, 0), (3, 0), (9, 0), (13, 0), (14, 0)])]
def lab150 : Lab := labT [([0,0,1,0,1,1], [(1, 0), (2, 0), (9, 0), (15, 0), (16, 0)])]
def lab205 : Lab := labT [([0,0,1,0,1,1], [(0, 0), (2, 0), (7, 0), (10, 0), (11, 0)])]
def lab204 : Lab := labT [([0,0,1,0,1,1,1], [(0, 0), (2, 0), (7, 0), (16, 0), (17, 0)])]
end
end Go.Eng
namespace Go.Eng
open Go.RowKit Go.Proofs
theorem s188 (J : Jmp) (x y : Nat) : (compY Tryz.prog 15 (fun _ => none) (finY Tryz.prog [.tmp 4] [2]) J [] (bodyC Tryz.f188) (finY Tryz.prog [.tmp 4] [2]) []).run RS (setArgs 0 [i64 x, u64 y] noFr) (baseH Tryz.prog) =
  (bi (nbeq (okN (PureAt Tryz.prog 130 [(i64 x)] (i64 (clampN x)))) 1)
 (bi (nble 9223372036854775808 (g_subi 64 (clampN x)))
 (failR 9)
 (bi (nble 9223372036854775808 (g_subi 64 (clampN x)))
 (failR 9)
 (ansY (i64 (shrN 3 (cnvN 7 3 (shlN 7 y (g_subi 64 (clampN x)))) (g_subi 64 (clampN x)))))))
 (failR 301)) := by kernel_rfl
theorem s138 (J : Jmp) (x y : Nat) : (compY Tryz.prog 9 (fun _ => none) (finY Tryz.prog [.tmp 4] [23]) J [] (bodyC Tryz.f138) (finY Tryz.prog [.tmp 4] [23]) []).run RK (setArgs 0 [i64 x, u64 y] noFr) (baseH Tryz.prog) =
  (bi (nbeq (okN (PureAt Tryz.prog 29 [(i64 x), (u64 (Nat.sub 18446744073709551615 y))] (u64 (cutN x (Nat.sub 18446744073709551615 y))))) 1)
 (ansY (u64 (cutN x (Nat.sub 18446744073709551615 y))))
 (failR 301)) := by kernel_rfl
theorem s139 (J : Jmp) (x y : Nat) : (compY Tryz.prog 9 (fun _ => none) (finY Tryz.prog [.tmp 4] [23]) J [] (bodyC Tryz.f139) (finY Tryz.prog [.tmp 4] [23]) []).run RK (setArgs 0 [i64 x, u64 y] noFr) (baseH Tryz.prog) =
  (bi (nbeq (okN (PureAt Tryz.prog 29 [(i64 x), (u64 (negN 7 y))] (u64 (cutN x (negN 7 y))))) 1)
 (ansY (u64 (cutN x (negN 7 y))))
 (failR 301)) := by kernel_rfl
theorem s72 (J : Jmp) (x y : Nat) : (compY Tryz.prog 10 (fun _ => none) (finY Tryz.prog [.cell 4 81] [81]) J [] (bodyC Tryz.f72) (finY Tryz.prog [.cell 4 81] [81]) []).run RK (setArgs 0 [i64 x, u64 y] noFr) (baseH Tryz.prog) =
  (bi (nbeq (okN (PureAt Tryz.prog 29 [(i64 x), (u64 y)] (u64 (cutN x y)))) 1)
 (ansY (aggV [(i64 x), (u64 (cutN x y))]))
 (failR 301)) := by kernel_rfl
theorem s189 (J : Jmp) (x y z : Nat) : (compY Tryz.prog 12 (fun _ => none) (finY Tryz.prog [.tmp 6] [23]) J [] (bodyC Tryz.f189) (finY Tryz.prog [.tmp 6] [23]) []).run RK (setArgs 0 [i64 x, u64 y, u64 z] noFr) (baseH Tryz.prog) =
  (bi (nbeq (okN (PureAt Tryz.prog 29 [(i64 x), (u64 (g_and y z))] (u64 (cutN x (g_and y z))))) 1)
 (ansY (u64 (cutN x (g_and y z))))
 (failR 301)) := by kernel_rfl
theorem s190 (J : Jmp) (x y z : Nat) : (compY Tryz.prog 12 (fun _ => none) (finY Tryz.prog [.tmp 6] [23]) J [] (bodyC Tryz.f190) (finY Tryz.prog [.tmp 6] [23]) []).run RK (setArgs 0 [i64 x, u64 y, u64 z] noFr) (baseH Tryz.prog) =
  (bi (nbeq (okN (PureAt Tryz.prog 29 [(i64 x), (u64 (g_or y z))] (u64 (cutN x (g_or y z))))) 1)
 (ansY (u64 (cutN x (g_or y z))))
 (failR 301)) := by kernel_rfl
theorem s191 (J : Jmp) (x y z : Nat) : (compY Tryz.prog 12 (fun _ => none) (finY Tryz.prog [.tmp 6] [23]) J [] (bodyC Tryz.f191) (finY Tryz.prog [.tmp 6] [23]) []).run RK (setArgs 0 [i64 x, u64 y, u64 z] noFr) (baseH Tryz.prog) =
  (bi (nbeq (okN (PureAt Tryz.prog 29 [(i64 x), (u64 (g_xor y z))] (u64 (cutN x (g_xor y z))))) 1)
 (ansY (u64 (cutN x (g_xor y z))))
 (failR 301)) := by kernel_rfl
theorem s192 (J : Jmp) (x y z : Nat) : (compY Tryz.prog 12 (fun _ => none) (finY Tryz.prog [.tmp 6] [23]) J [] (bodyC Tryz.f192) (finY Tryz.prog [.tmp 6] [23]) []).run RK (setArgs 0 [i64 x, u64 y, u64 z] noFr) (baseH Tryz.prog) =
  (bi (nbeq (okN (PureAt Tryz.prog 29 [(i64 x), (u64 (g_addu y z))] (u64 (cutN x (g_addu y z))))) 1)
 (ansY (u64 (cutN x (g_addu y z))))
 (failR 301)) := by kernel_rfl
theorem s193 (J : Jmp) (x y z : Nat) : (compY Tryz.prog 12 (fun _ => none) (finY Tryz.prog [.tmp 6] [23]) J [] (bodyC Tryz.f193) (finY Tryz.prog [.tmp 6] [23]) []).run RK (setArgs 0 [i64 x, u64 y, u64 z] noFr) (baseH Tryz.prog) =
  (bi (nbeq (okN (PureAt Tryz.prog 29 [(i64 x), (u64 (g_subu y z))] (u64 (cutN x (g_subu y z))))) 1)
 (ansY (u64 (cutN x (g_subu y z))))
 (failR 301)) := by kernel_rfl
theorem s194 (J : Jmp) (x y z : Nat) : (compY Tryz.prog 12 (fun _ => none) (finY Tryz.prog [.tmp 6] [23]) J [] (bodyC Tryz.f194) (finY Tryz.prog [.tmp 6] [23]) []).run RK (setArgs 0 [i64 x, u64 y, u64 z] noFr) (baseH Tryz.prog) =
  (bi (nbeq (okN (PureAt Tryz.prog 29 [(i64 x), (u64 (g_mulu y z))] (u64 (cutN x (g_mulu y z))))) 1)
 (ansY (u64 (cutN x (g_mulu y z))))
 (failR 301)) := by kernel_rfl
theorem s195 (J : Jmp) (x y z : Nat) : (compY Tryz.prog 22 (fun _ => none) (finY Tryz.prog [.tmp 6] [23]) J [] (bodyC Tryz.f195) (finY Tryz.prog [.tmp 6] [23]) []).run RK (setArgs 0 [i64 x, u64 y, u64 z] noFr) (baseH Tryz.prog) =
  (bi (nbeq (okN (PureAt Tryz.prog 29 [(i64 x), (u64 y)] (u64 (cutN x y)))) 1)
 (bi (nbeq (okN (PureAt Tryz.prog 29 [(i64 x), (u64 z)] (u64 (cutN x z)))) 1)
 (bi (nbeq (bi (nbeq (cutN x z) 0) 1 0) 1)
 (bi (nbeq (okN (PureAt Tryz.prog 68 [(i64 x)] (u64 (maskN x)))) 1)
 (ansY (u64 (maskN x)))
 (failR 301))
 (bi (nbeq (cutN x z) 0)
 (failR 9)
 (ansY (u64 (g_quo (cutN x y) (cutN x z))))))
 (failR 301))
 (failR 301)) := by kernel_rfl
theorem s196 (J : Jmp) (x y z : Nat) : (compY Tryz.prog 21 (fun _ => none) (finY Tryz.prog [.tmp 6] [23]) J [] (bodyC Tryz.f196) (finY Tryz.prog [.tmp 6] [23]) []).run RK (setArgs 0 [i64 x, u64 y, u64 z] noFr) (baseH Tryz.prog) =
  (bi (nbeq (okN (PureAt Tryz.prog 29 [(i64 x), (u64 y)] (u64 (cutN x y)))) 1)
 (bi (nbeq (okN (PureAt Tryz.prog 29 [(i64 x), (u64 z)] (u64 (cutN x z)))) 1)
 (bi (nbeq (bi (nbeq (cutN x z) 0) 1 0) 1)
 (ansY (u64 (cutN x y)))
 (bi (nbeq (cutN x z) 0)
 (failR 9)
 (ansY (u64 (g_rem (cutN x y) (cutN x z))))))
 (failR 301))
 (failR 301)) := by kernel_rfl
theorem s200 (J : Jmp) (x y z : Nat) : (compY Tryz.prog 15 (fun _ => none) (finY Tryz.prog [.tmp 6] [23]) J [] (bodyC Tryz.f200) (finY Tryz.prog [.tmp 6] [23]) []).run RK (setArgs 0 [i64 x, u64 y, u64 z] noFr) (baseH Tryz.prog) =
  (bi (nbeq (okN (PureAt Tryz.prog 29 [(i64 x), (u64 y)] (u64 (cutN x y)))) 1)
 (bi (nbeq (okN (PureAt Tryz.prog 29 [(i64 x), (u64 z)] (u64 (cutN x z)))) 1)
 (bi (nbeq (okN (PureAt Tryz.prog 251 [(mk1 8 (bi (nb (nble (biased 7 (cutN x z)) (biased 7 (cutN x y)))) 1 0))] (u64 (bi (nb (nble (biased 7 (cutN x z)) (biased 7 (cutN x y)))) 1 0)))) 1)
 (ansY (u64 (bi (nb (nble (biased 7 (cutN x z)) (biased 7 (cutN x y)))) 1 0)))
 (failR 301))
 (failR 301))
 (failR 301)) := by kernel_rfl
theorem s201 (J : Jmp) (x y z : Nat) : (compY Tryz.prog 15 (fun _ => none) (finY Tryz.prog [.tmp 6] [23]) J [] (bodyC Tryz.f201) (finY Tryz.prog [.tmp 6] [23]) []).run RK (setArgs 0 [i64 x, u64 y, u64 z] noFr) (baseH Tryz.prog) =
  (bi (nbeq (okN (PureAt Tryz.prog 188 [(i64 x), (u64 y)] (i64 (sp_sgn x y)))) 1)
 (bi (nbeq (okN (PureAt Tryz.prog 188 [(i64 x), (u64 z)] (i64 (sp_sgn x z)))) 1)
 (bi (nbeq (okN (PureAt Tryz.prog 251 [(mk1 8 (bi (nb (nble (biased 3 (sp_sgn x z)) (biased 3 (sp_sgn x y)))) 1 0))] (u64 (bi (nb (nble (biased 3 (sp_sgn x z)) (biased 3 (sp_sgn x y)))) 1 0)))) 1)
 (ansY (u64 (bi (nb (nble (biased 3 (sp_sgn x z)) (biased 3 (sp_sgn x y)))) 1 0)))
 (failR 301))
 (failR 301))
 (failR 301)) := by kernel_rfl
theorem s251 (J : Jmp) (b : Bool) : (compY Tryz.prog 4 (fun _ => none) (finY Tryz.prog [.tmp 2] [23]) J [] (bodyC Tryz.f251) (finY Tryz.prog [.tmp 2] [23]) []).run RK (setArgs 0 [bV b] noFr) (baseH Tryz.prog) =
  (bi (nbeq (bi b 1 0) 1)
 (ansY (u64 1))
 (ansY (u64 0))) := by kernel_rfl
theorem s140 (J : Jmp) (x y z u : Nat) : (compY Tryz.prog 19 (fun _ => none) (finY Tryz.prog [.tmp 8] [23]) J [] (bodyC Tryz.f140) (finY Tryz.prog [.tmp 8] [23]) []).run RK (setArgs 0 [i64 x, i64 y, u64 z, u64 u] noFr) (baseH Tryz.prog) =
  (bi (nbeq (okN (PureAt Tryz.prog 29 [(i64 x), (u64 z)] (u64 (cutN x z)))) 1)
 (bi (eqA 1000 (u64 u) (u64 u))
 (bi (eqA 1000 (i64 y) (i64 y))
 (bi (eqA 1000 (i64 y) (i64 y))
 (bi (nbeq (okN (PureAt Tryz.prog 130 [(i64 y)] (i64 (clampN y)))) 1)
 (bi (eqA 1000 (u64 u) (u64 u))
 (bi (eqA 1000 (i64 y) (i64 y))
 (bi (nble 9223372036854775808 (clampN y))
 (failR 9)
 (bi (nbeq (okN (PureAt Tryz.prog 29 [(i64 y), (u64 u)] (u64 (cutN y u)))) 1)
 (bi (nble 9223372036854775808 (clampN y))
 (failR 9)
 (bi (eqA 1000 (u64 (shlN 7 (cutN x z) (clampN y))) (u64 (shlN 7 (cutN x z) (clampN y))))
 (ansY (u64 (g_or (shlN 7 (cutN x z) (clampN y)) (cutN y u))))
 (failR 90)))
 (failR 301)))
 (failR 90))
 (failR 90))
 (failR 301))
 (failR 90))
 (failR 90))
 (failR 90))
 (failR 301)) := by kernel_rfl
theorem s141 (J : Jmp) (x y z : Nat) : (compY Tryz.prog 14 (fun _ => none) (finY Tryz.prog [.tmp 6] [23]) J [] (bodyC Tryz.f141) (finY Tryz.prog [.tmp 6] [23]) []).run RK (setArgs 0 [i64 x, i64 y, u64 z] noFr) (baseH Tryz.prog) =
  (bi (nbeq (bi (nb (nble 9223372036854775808 (biased 3 x))) 1 0) 1)
 (ansY (u64 0))
 (bi (nble 9223372036854775808 x)
 (failR 9)
 (bi (nbeq (okN (PureAt Tryz.prog 29 [(i64 y), (u64 (shrN 7 z x))] (u64 (cutN y (shrN 7 z x))))) 1)
 (ansY (u64 (cutN y (shrN 7 z x))))
 (failR 301)))) := by kernel_rfl
theorem s142 (J : Jmp) (x y z : Nat) : (compY Tryz.prog 13 (fun _ => none) (finY Tryz.prog [.tmp 6] [23]) J [] (bodyC Tryz.f142) (finY Tryz.prog [.tmp 6] [23]) []).run RK (setArgs 0 [i64 x, i64 y, u64 z] noFr) (baseH Tryz.prog) =
  (bi (nbeq (okN (PureAt Tryz.prog 188 [(i64 x), (u64 z)] (i64 (sp_sgn x z)))) 1)
 (bi (nbeq (okN (PureAt Tryz.prog 29 [(i64 y), (u64 (cnvN 3 7 (sp_sgn x z)))] (u64 (cutN y (cnvN 3 7 (sp_sgn x z)))))) 1)
 (ansY (u64 (cutN y (cnvN 3 7 (sp_sgn x z)))))
 (failR 301))
 (failR 301)) := by kernel_rfl
theorem s250 (J : Jmp) (k x y z : Nat) : (compY Tryz.prog 53 (fun _ => none) (finY Tryz.prog [.tmp 8] [23]) J [] (bodyC Tryz.f250) (finY Tryz.prog [.tmp 8] [23]) []).run RK (setArgs 0 [i64 k, i64 x, u64 y, u64 z] noFr) (baseH Tryz.prog) =
  (bi (nbeq (okN (PureAt Tryz.prog 29 [(i64 x), (u64 y)] (u64 (cutN x y)))) 1)
 (bi (nbeq (okN (PureAt Tryz.prog 29 [(i64 x), (u64 z)] (u64 (cutN x z)))) 1)
 (bi (nbeq (okN (PureAt Tryz.prog 130 [(i64 x)] (i64 (clampN x)))) 1)
 (bi (nbeq (bi (nbeq k 2) 1 0) 1)
 (bi (nbeq (okN (PureAt Tryz.prog 188 [(i64 x), (u64 (cutN x y))] (i64 (sp_sgn x (cutN x y))))) 1)
 (bi (nbeq (bi (nb (nble 9223372036854775808 (biased 3 (sp_sgn x (cutN x y))))) 1 0) 1)
 (bi (nbeq (bi (nble (biased 7 (cnvN 3 7 (clampN x))) (biased 7 (cutN x z))) 1 0) 1)
 (bi (nbeq (okN (PureAt Tryz.prog 68 [(i64 x)] (u64 (maskN x)))) 1)
 (ansY (u64 (maskN x)))
 (failR 301))
 (bi (nbeq (okN (PureAt Tryz.prog 188 [(i64 x), (u64 (cutN x y))] (i64 (sp_sgn x (cutN x y))))) 1)
 (bi (nble 18446744073709551616 (cutN x z))
 (failR 9)
 (bi (nbeq (okN (PureAt Tryz.prog 29 [(i64 x), (u64 (cnvN 3 7 (shrN 3 (sp_sgn x (cutN x y)) (cutN x z))))] (u64 (cutN x (cnvN 3 7 (shrN 3 (sp_sgn x (cutN x y)) (cutN x z))))))) 1)
 (ansY (u64 (cutN x (cnvN 3 7 (shrN 3 (sp_sgn x (cutN x y)) (cutN x z))))))
 (failR 301)))
 (failR 301)))
 (bi (nbeq (bi (nble (biased 7 (cnvN 3 7 (clampN x))) (biased 7 (cutN x z))) 1 0) 1)
 (ansY (u64 0))
 (bi (nble 18446744073709551616 (cutN x z))
 (failR 9)
 (ansY (u64 (shrN 7 (cutN x y) (cutN x z)))))))
 (failR 301))
 (bi (nbeq (bi (nbeq k 1) 1 0) 1)
 (bi (nbeq (bi (nble (biased 7 (cnvN 3 7 (clampN x))) (biased 7 (cutN x z))) 1 0) 1)
 (ansY (u64 0))
 (bi (nble 18446744073709551616 (cutN x z))
 (failR 9)
 (ansY (u64 (shrN 7 (cutN x y) (cutN x z))))))
 (bi (nbeq (bi (nble (biased 7 (cnvN 3 7 (clampN x))) (biased 7 (cutN x z))) 1 0) 1)
 (ansY (u64 0))
 (bi (nble 18446744073709551616 (cutN x z))
 (failR 9)
 (bi (nbeq (okN (PureAt Tryz.prog 29 [(i64 x), (u64 (shlN 7 (cutN x y) (cutN x z)))] (u64 (cutN x (shlN 7 (cutN x y) (cutN x z)))))) 1)
 (ansY (u64 (cutN x (shlN 7 (cutN x y) (cutN x z)))))
 (failR 301))))))
 (failR 301))
 (failR 301))
 (failR 301)) := by kernel_rfl
theorem body188 : Tryz.f188.body = some (bodyC Tryz.f188) := by kernel_rfl
theorem fn188 : Tryz.prog.funcs[188]? = some Tryz.f188 := by kernel_rfl
theorem nt188 : Tryz.f188.ntmps = 15 := by kernel_rfl
theorem rs188 : Tryz.f188.results.toList = [.tmp 4] := by kernel_rfl
theorem body138 : Tryz.f138.body = some (bodyC Tryz.f138) := by kernel_rfl
theorem fn138 : Tryz.prog.funcs[138]? = some Tryz.f138 := by kernel_rfl
theorem nt138 : Tryz.f138.ntmps = 9 := by kernel_rfl
theorem rs138 : Tryz.f138.results.toList = [.tmp 4] := by kernel_rfl
theorem body139 : Tryz.f139.body = some (bodyC Tryz.f139) := by kernel_rfl
theorem fn139 : Tryz.prog.funcs[139]? = some Tryz.f139 := by kernel_rfl
theorem nt139 : Tryz.f139.ntmps = 9 := by kernel_rfl
theorem rs139 : Tryz.f139.results.toList = [.tmp 4] := by kernel_rfl
theorem body72 : Tryz.f72.body = some (bodyC Tryz.f72) := by kernel_rfl
theorem fn72 : Tryz.prog.funcs[72]? = some Tryz.f72 := by kernel_rfl
theorem nt72 : Tryz.f72.ntmps = 10 := by kernel_rfl
theorem rs72 : Tryz.f72.results.toList = [.cell 4 81] := by kernel_rfl
theorem body189 : Tryz.f189.body = some (bodyC Tryz.f189) := by kernel_rfl
theorem fn189 : Tryz.prog.funcs[189]? = some Tryz.f189 := by kernel_rfl
theorem nt189 : Tryz.f189.ntmps = 12 := by kernel_rfl
theorem rs189 : Tryz.f189.results.toList = [.tmp 6] := by kernel_rfl
theorem body190 : Tryz.f190.body = some (bodyC Tryz.f190) := by kernel_rfl
theorem fn190 : Tryz.prog.funcs[190]? = some Tryz.f190 := by kernel_rfl
theorem nt190 : Tryz.f190.ntmps = 12 := by kernel_rfl
theorem rs190 : Tryz.f190.results.toList = [.tmp 6] := by kernel_rfl
theorem body191 : Tryz.f191.body = some (bodyC Tryz.f191) := by kernel_rfl
theorem fn191 : Tryz.prog.funcs[191]? = some Tryz.f191 := by kernel_rfl
theorem nt191 : Tryz.f191.ntmps = 12 := by kernel_rfl
theorem rs191 : Tryz.f191.results.toList = [.tmp 6] := by kernel_rfl
theorem body192 : Tryz.f192.body = some (bodyC Tryz.f192) := by kernel_rfl
theorem fn192 : Tryz.prog.funcs[192]? = some Tryz.f192 := by kernel_rfl
theorem nt192 : Tryz.f192.ntmps = 12 := by kernel_rfl
theorem rs192 : Tryz.f192.results.toList = [.tmp 6] := by kernel_rfl
theorem body193 : Tryz.f193.body = some (bodyC Tryz.f193) := by kernel_rfl
theorem fn193 : Tryz.prog.funcs[193]? = some Tryz.f193 := by kernel_rfl
theorem nt193 : Tryz.f193.ntmps = 12 := by kernel_rfl
theorem rs193 : Tryz.f193.results.toList = [.tmp 6] := by kernel_rfl
theorem body194 : Tryz.f194.body = some (bodyC Tryz.f194) := by kernel_rfl
theorem fn194 : Tryz.prog.funcs[194]? = some Tryz.f194 := by kernel_rfl
theorem nt194 : Tryz.f194.ntmps = 12 := by kernel_rfl
theorem rs194 : Tryz.f194.results.toList = [.tmp 6] := by kernel_rfl
theorem body195 : Tryz.f195.body = some (bodyC Tryz.f195) := by kernel_rfl
theorem fn195 : Tryz.prog.funcs[195]? = some Tryz.f195 := by kernel_rfl
theorem nt195 : Tryz.f195.ntmps = 22 := by kernel_rfl
theorem rs195 : Tryz.f195.results.toList = [.tmp 6] := by kernel_rfl
theorem body196 : Tryz.f196.body = some (bodyC Tryz.f196) := by kernel_rfl
theorem fn196 : Tryz.prog.funcs[196]? = some Tryz.f196 := by kernel_rfl
theorem nt196 : Tryz.f196.ntmps = 21 := by kernel_rfl
theorem rs196 : Tryz.f196.results.toList = [.tmp 6] := by kernel_rfl
theorem body200 : Tryz.f200.body = some (bodyC Tryz.f200) := by kernel_rfl
theorem fn200 : Tryz.prog.funcs[200]? = some Tryz.f200 := by kernel_rfl
theorem nt200 : Tryz.f200.ntmps = 15 := by kernel_rfl
theorem rs200 : Tryz.f200.results.toList = [.tmp 6] := by kernel_rfl
theorem body201 : Tryz.f201.body = some (bodyC Tryz.f201) := by kernel_rfl
theorem fn201 : Tryz.prog.funcs[201]? = some Tryz.f201 := by kernel_rfl
theorem nt201 : Tryz.f201.ntmps = 15 := by kernel_rfl
theorem rs201 : Tryz.f201.results.toList = [.tmp 6] := by kernel_rfl
theorem body251 : Tryz.f251.body = some (bodyC Tryz.f251) := by kernel_rfl
theorem fn251 : Tryz.prog.funcs[251]? = some Tryz.f251 := by kernel_rfl
theorem nt251 : Tryz.f251.ntmps = 4 := by kernel_rfl
theorem rs251 : Tryz.f251.results.toList = [.tmp 2] := by kernel_rfl
theorem body140 : Tryz.f140.body = some (bodyC Tryz.f140) := by kernel_rfl
theorem fn140 : Tryz.prog.funcs[140]? = some Tryz.f140 := by kernel_rfl
theorem nt140 : Tryz.f140.ntmps = 19 := by kernel_rfl
theorem rs140 : Tryz.f140.results.toList = [.tmp 8] := by kernel_rfl
theorem body141 : Tryz.f141.body = some (bodyC Tryz.f141) := by kernel_rfl
theorem fn141 : Tryz.prog.funcs[141]? = some Tryz.f141 := by kernel_rfl
theorem nt141 : Tryz.f141.ntmps = 14 := by kernel_rfl
theorem rs141 : Tryz.f141.results.toList = [.tmp 6] := by kernel_rfl
theorem body142 : Tryz.f142.body = some (bodyC Tryz.f142) := by kernel_rfl
theorem fn142 : Tryz.prog.funcs[142]? = some Tryz.f142 := by kernel_rfl
theorem nt142 : Tryz.f142.ntmps = 13 := by kernel_rfl
theorem rs142 : Tryz.f142.results.toList = [.tmp 6] := by kernel_rfl
theorem body250 : Tryz.f250.body = some (bodyC Tryz.f250) := by kernel_rfl
theorem fn250 : Tryz.prog.funcs[250]? = some Tryz.f250 := by kernel_rfl
theorem nt250 : Tryz.f250.ntmps = 53 := by kernel_rfl
theorem rs250 : Tryz.f250.results.toList = [.tmp 8] := by kernel_rfl
theorem cut_lt (w x : Nat) {n : Nat} (h : clampN w ≤ n) : cutN w x < 2 ^ n := Nat.lt_of_lt_of_le (Nat.mod_lt _ (Nat.two_pow_pos _)) (Nat.pow_le_pow_right (by decide) h)
theorem cut64 {w : Nat} (x : Nat) (hw : w < 2 ^ 64) : cutN w x < 2 ^ 64 := cut_lt w x (clamp_range hw).2
theorem cut_mod {w : Nat} (x : Nat) (hw : w < 2 ^ 64) : cutN w (x % 2 ^ 64) = cutN w x := mod64 (clamp_range hw).2 x
theorem sgn_cut (w x : Nat) : sp_sgn w (cutN w x) = sp_sgn w x := by unfold sp_sgn sgN cutN; rw [Nat.mod_mod]
theorem sgn_lt {w : Nat} (x : Nat) (hw : w < 2 ^ 64) : sp_sgn w x < 2 ^ 64 := sgN_lt (clamp_range hw).2
theorem bi_dec {α : Type} (p : Prop) [Decidable p] (x y : α) : bi (decide p) x y = if p then x else y := by by_cases h : p <;> simp [h]
theorem sar_sgn {w x : Nat} (h1 : 1 ≤ w) (hw : w ≤ 64) (hx : x < 2 ^ 64) : sarN (x * 2 ^ (64 - w) % 2 ^ 64) (64 - w) = sgN w x := by
  refine eq_of_test (n := 64) ?_ (sgN_lt hw) fun i hi => ?_
  · unfold sarN
    split
    · exact Nat.lt_of_le_of_lt (Nat.sub_le _ _) (by decide)
    · exact Nat.lt_of_le_of_lt (Nat.div_le_self _ _) (Nat.mod_lt _ (by decide))
  · have hb : btN (sarN (x * 2 ^ (64 - w) % 2 ^ 64) (64 - w)) i = btN (sgN w x) i := by
      have key : ∀ j, j < 64 → btN (x * 2 ^ (64 - w) % 2 ^ 64) j = if 64 - w ≤ j then btN x (j - (64 - w)) else 0 := by
        intro j hj
        have h := shl_bld (a := x) (n := 64 - w) (w := 64)
        rw [← h]
        have ht : ∀ i, (if 64 - w ≤ i then btN x (i - (64 - w)) else 0) < 2 := fun i => by split; exact bt_lt _ _; decide
        have := bld_test _ ht 64 j
        rw [bt_test, decide_eq_true hj, Bool.true_and, decide_eq_decide] at this
        have a1 := bt_lt (bld (fun i => if 64 - w ≤ i then btN x (i - (64 - w)) else 0) 64) j
        have a2 := ht j
        omega
      rw [bt_sar (Nat.mod_lt _ (by decide)) hi, bt_sg h1 hw hi]
      split
      · next h => rw [key _ h, if_pos (by omega), if_pos (by omega)]; congr 1; omega
      · next h =>
        rw [key 63 (by decide), if_pos (by omega)]
        split
        · congr 1; omega
        · congr 1; omega
    rw [bt_test, bt_test, hb]
theorem pure188 (x y : Nat) (hx : x < 2 ^ 64) (hy : y < 2 ^ 64) : PureAt Tryz.prog 188 [i64 x, u64 y] (i64 (sp_sgn x y)) := by
  refine pure_fn mixed globs fn188 body188 nt188 rs188 RS_ok (fun _ => none) [2] 0 ((s188 _ x y).trans ?_)
  obtain ⟨h1, h2⟩ := clamp_range hx
  show bi _ (bi (nble 9223372036854775808 (g_subi 64 (clampN x))) _ (bi (nble 9223372036854775808 (g_subi 64 (clampN x))) _ (ansY (i64 (shrN 3 (cnvN 7 3 (shlN 7 y (g_subi 64 (clampN x)))) (g_subi 64 (clampN x))))))) _ = _
  rw [okN_bi (pure130 x), subi_le h2 (by decide), nble_f (show ¬ 9223372036854775808 ≤ 64 - clampN x by omega), bi_ff, bi_ff, shl7_eq (by omega), cnv73 (Nat.mod_lt _ (by decide)), shr3_eq (by omega), sar_sgn h1 h2 hy]
  rfl
theorem pure251 (b : Bool) : PureAt Tryz.prog 251 [bV b] (u64 (bi b 1 0)) := by
  refine pure_fn mixed globs fn251 body251 nt251 rs251 RK_ok (fun _ => none) [23] 0 ((s251 _ b).trans ?_)
  cases b <;> rfl
theorem pure251m (b : Bool) : PureAt Tryz.prog 251 [mk1 8 (bi b 1 0)] (u64 (bi b 1 0)) := pure251 b
theorem pure189 (x y z : Nat) (hx : x < 2 ^ 64) : PureAt Tryz.prog 189 [i64 x, u64 y, u64 z] (u64 (sp_and x y z)) := by
  refine pure_fn mixed globs fn189 body189 nt189 rs189 RK_ok (fun _ => none) [23] 0 ((s189 _ x y z).trans ?_)
  refine (okN_bi (pure29 x _ hx) _ _).trans ?_
  show ansY (u64 (cutN x (g_and y z))) = _
  rw [g_and_eq]; rfl
theorem pure190 (x y z : Nat) (hx : x < 2 ^ 64) : PureAt Tryz.prog 190 [i64 x, u64 y, u64 z] (u64 (sp_or x y z)) := by
  refine pure_fn mixed globs fn190 body190 nt190 rs190 RK_ok (fun _ => none) [23] 0 ((s190 _ x y z).trans ?_)
  refine (okN_bi (pure29 x _ hx) _ _).trans ?_
  show ansY (u64 (cutN x (g_or y z))) = _
  rw [g_or_eq]; rfl
theorem pure191 (x y z : Nat) (hx : x < 2 ^ 64) : PureAt Tryz.prog 191 [i64 x, u64 y, u64 z] (u64 (sp_xor x y z)) := by
  refine pure_fn mixed globs fn191 body191 nt191 rs191 RK_ok (fun _ => none) [23] 0 ((s191 _ x y z).trans ?_)
  refine (okN_bi (pure29 x _ hx) _ _).trans ?_
  show ansY (u64 (cutN x (g_xor y z))) = _
  rw [g_xor_eq]; rfl
theorem pure192 (x y z : Nat) (hx : x < 2 ^ 64) : PureAt Tryz.prog 192 [i64 x, u64 y, u64 z] (u64 (sp_add x y z)) := by
  refine pure_fn mixed globs fn192 body192 nt192 rs192 RK_ok (fun _ => none) [23] 0 ((s192 _ x y z).trans ?_)
  refine (okN_bi (pure29 x _ hx) _ _).trans ?_
  show ansY (u64 (cutN x (g_addu y z))) = _
  rw [g_addu_eq, cut_mod _ hx]; rfl
theorem pure193 (x y z : Nat) (hx : x < 2 ^ 64) : PureAt Tryz.prog 193 [i64 x, u64 y, u64 z] (u64 (sp_sub x y z)) := by
  refine pure_fn mixed globs fn193 body193 nt193 rs193 RK_ok (fun _ => none) [23] 0 ((s193 _ x y z).trans ?_)
  refine (okN_bi (pure29 x _ hx) _ _).trans ?_
  show ansY (u64 (cutN x (g_subu y z))) = _
  rw [g_subu_eq, cut_mod _ hx]; rfl
theorem pure194 (x y z : Nat) (hx : x < 2 ^ 64) : PureAt Tryz.prog 194 [i64 x, u64 y, u64 z] (u64 (sp_mul x y z)) := by
  refine pure_fn mixed globs fn194 body194 nt194 rs194 RK_ok (fun _ => none) [23] 0 ((s194 _ x y z).trans ?_)
  refine (okN_bi (pure29 x _ hx) _ _).trans ?_
  show ansY (u64 (cutN x (g_mulu y z))) = _
  rw [g_mulu_eq, cut_mod _ hx]; rfl
theorem pure138 (x y : Nat) (hx : x < 2 ^ 64) : PureAt Tryz.prog 138 [i64 x, u64 y] (u64 (sp_not x y)) := by
  refine pure_fn mixed globs fn138 body138 nt138 rs138 RK_ok (fun _ => none) [23] 0 ((s138 _ x y).trans ?_)
  exact okN_bi (pure29 x _ hx) _ _
theorem pure139 (x y : Nat) (hx : x < 2 ^ 64) : PureAt Tryz.prog 139 [i64 x, u64 y] (u64 (sp_ngt x y)) := by
  refine pure_fn mixed globs fn139 body139 nt139 rs139 RK_ok (fun _ => none) [23] 0 ((s139 _ x y).trans ?_)
  refine (okN_bi (pure29 x _ hx) _ _).trans ?_
  rw [negN_eq, cut_mod _ hx]; rfl
theorem pure72 (x y : Nat) (hx : x < 2 ^ 64) : PureAt Tryz.prog 72 [i64 x, u64 y] (aggV [i64 x, u64 (cutN x y)]) := by
  refine pure_fn mixed globs fn72 body72 nt72 rs72 RK_ok (fun _ => none) [81] 0 ((s72 _ x y).trans ?_)
  exact okN_bi (pure29 x _ hx) _ _
theorem pure195 (x y z : Nat) (hx : x < 2 ^ 64) : PureAt Tryz.prog 195 [i64 x, u64 y, u64 z] (u64 (sp_div x y z)) := by
  refine pure_fn mixed globs fn195 body195 nt195 rs195 RK_ok (fun _ => none) [23] 0 ((s195 _ x y z).trans ?_)
  rw [okN_bi (pure29 x _ hx), okN_bi (pure29 x _ hx), bl_bi, nbeq_dec, bi_dec]
  unfold sp_div
  by_cases h : cutN x z = 0
  · rw [if_pos h, if_pos h, okN_bi (pure68 x hx)]
  · rw [if_neg h, if_neg h, decide_eq_false h, bi_ff, g_quo_eq (cut64 _ hx) (cut64 _ hx)]
theorem pure196 (x y z : Nat) (hx : x < 2 ^ 64) : PureAt Tryz.prog 196 [i64 x, u64 y, u64 z] (u64 (sp_rem x y z)) := by
  refine pure_fn mixed globs fn196 body196 nt196 rs196 RK_ok (fun _ => none) [23] 0 ((s196 _ x y z).trans ?_)
  rw [okN_bi (pure29 x _ hx), okN_bi (pure29 x _ hx), bl_bi, nbeq_dec, bi_dec]
  unfold sp_rem
  by_cases h : cutN x z = 0
  · rw [if_pos h, if_pos h]
  · rw [if_neg h, if_neg h, decide_eq_false h, bi_ff, g_rem_eq (cut64 _ hx) (cut64 _ hx)]
theorem lt_bi (a b : Nat) : bi (nb (nble b a)) 1 0 = if a < b then 1 else 0 := by
  rw [nble_dec]
  by_cases h : b ≤ a
  · rw [decide_eq_true h, if_neg (by omega)]; rfl
  · rw [decide_eq_false h, if_pos (by omega)]; rfl
theorem pure200 (x y z : Nat) (hx : x < 2 ^ 64) : PureAt Tryz.prog 200 [i64 x, u64 y, u64 z] (u64 (sp_ult x y z)) := by
  refine pure_fn mixed globs fn200 body200 nt200 rs200 RK_ok (fun _ => none) [23] 0 ((s200 _ x y z).trans ?_)
  rw [okN_bi (pure29 x _ hx), okN_bi (pure29 x _ hx), biased7 (cut64 _ hx), biased7 (cut64 _ hx)]
  rw [okN_bi (pure251m (nb (nble (cutN x z) (cutN x y)))), lt_bi]
  rfl
theorem pure201 (x y z : Nat) (hx : x < 2 ^ 64) (hy : y < 2 ^ 64) (hz : z < 2 ^ 64) : PureAt Tryz.prog 201 [i64 x, u64 y, u64 z] (u64 (sp_slt x y z)) := by
  refine pure_fn mixed globs fn201 body201 nt201 rs201 RK_ok (fun _ => none) [23] 0 ((s201 _ x y z).trans ?_)
  rw [okN_bi (pure188 x _ hx hy), okN_bi (pure188 x _ hx hz)]
  rw [okN_bi (pure251m (nb (nble (biased 3 (sp_sgn x z)) (biased 3 (sp_sgn x y))))), lt_bi, biased3, biased3]
  rfl
theorem eqa_i (n : Nat) : eqA 1000 (i64 n) (i64 n) = true := eqA_agg 999 _ _ _ _ _ _ fun c hc => by cases hc
theorem eqa_u (n : Nat) : eqA 1000 (u64 n) (u64 n) = true := eqA_agg 999 _ _ _ _ _ _ fun c hc => by cases hc
theorem pure140 (x y z u : Nat) (hx : x < 2 ^ 64) (hy : y < 2 ^ 64) : PureAt Tryz.prog 140 [i64 x, i64 y, u64 z, u64 u] (u64 (sp_cat x y z u)) := by
  refine pure_fn mixed globs fn140 body140 nt140 rs140 RK_ok (fun _ => none) [23] 0 ((s140 _ x y z u).trans ?_)
  obtain ⟨h1, h2⟩ := clamp_range hy
  rw [okN_bi (pure29 x _ hx)]
  simp only [eqa_i, eqa_u, bi_tt]
  rw [okN_bi (pure130 y), nble_f (show ¬ 9223372036854775808 ≤ clampN y by omega), bi_ff, okN_bi (pure29 y _ hy), bi_ff, g_or_eq]
  unfold sp_cat
  by_cases h : clampN y < 64
  · rw [shl7_eq h]
  · have e : clampN y = 64 := by omega
    have e1 : shlN 7 (cutN x z) (clampN y) = 0 := by
      unfold shlN
      rw [gt2_eq, kb7', nble_t (show 64 ≤ clampN y by omega)]; rfl
    rw [e1, e, Nat.mul_mod_left]
theorem pure141 (x y z : Nat) (hx : x < 2 ^ 64) (hy : y < 2 ^ 64) (hz : z < 2 ^ 64) : PureAt Tryz.prog 141 [i64 x, i64 y, u64 z] (u64 (sp_ext x y z)) := by
  refine pure_fn mixed globs fn141 body141 nt141 rs141 RK_ok (fun _ => none) [23] 0 ((s141 _ x y z).trans ?_)
  rw [bl_bi, biased3]
  unfold sp_ext
  by_cases h : x < 2 ^ 63
  · rw [nble_t (show 9223372036854775808 ≤ (x + 2 ^ 63) % 2 ^ 64 by omega), nb_t, bi_ff, nble_f (show ¬ 9223372036854775808 ≤ x by omega), bi_ff, okN_bi (pure29 y _ hy), shr7_eq hz]
    by_cases h2 : x < 64
    · rw [if_pos h2]
    · rw [if_neg h2, Nat.div_eq_of_lt (Nat.lt_of_lt_of_le hz (Nat.pow_le_pow_right (by decide) (by omega)))]
      have : cutN y 0 = 0 := Nat.zero_mod _
      rw [this]
  · rw [nble_f (show ¬ 9223372036854775808 ≤ (x + 2 ^ 63) % 2 ^ 64 by omega), nb_f, bi_tt, if_neg (show ¬ x < 64 by omega)]
theorem pure142 (x y z : Nat) (hx : x < 2 ^ 64) (hy : y < 2 ^ 64) (hz : z < 2 ^ 64) : PureAt Tryz.prog 142 [i64 x, i64 y, u64 z] (u64 (sp_sxt x y z)) := by
  refine pure_fn mixed globs fn142 body142 nt142 rs142 RK_ok (fun _ => none) [23] 0 ((s142 _ x y z).trans ?_)
  rw [okN_bi (pure188 x _ hx hz), cnv_mod _ (sgn_lt _ hx), okN_bi (pure29 y _ hy)]
  rfl
theorem pure250 (k x y z : Nat) (hk : k < 3) (hx : x < 2 ^ 64) : PureAt Tryz.prog 250 [i64 k, i64 x, u64 y, u64 z] (u64 (if k = 2 then sp_sar x y z else if k = 1 then sp_shr x y z else sp_shl x y z)) := by
  refine pure_fn mixed globs fn250 body250 nt250 rs250 RK_ok (fun _ => none) [23] 0 ((s250 _ k x y z).trans ?_)
  obtain ⟨h1, h2⟩ := clamp_range hx
  have hc := cut64 y hx
  have hcz := cut64 z hx
  have nz := nble_f (show ¬ 18446744073709551616 ≤ cutN x z by omega)
  rw [okN_bi (pure29 x _ hx), okN_bi (pure29 x _ hx), okN_bi (pure130 x)]
  simp only [bl_bi, nz, bi_ff]
  rw [okN_bi (pure188 x _ hx hc), okN_bi (pure188 x _ hx hc), okN_bi (pure68 x hx), okN_bi (pure29 x _ hx), okN_bi (pure29 x _ hx), cnv_mod _ (show clampN x < 2 ^ 64 by omega), biased7 (show clampN x < 2 ^ 64 by omega), biased7 hcz, shr7_eq hc, biased3, sgn_cut, nbeq_dec k 2, nbeq_dec k 1, nble_dec (clampN x), bi_dec, bi_dec]
  simp only [bi_dec (clampN x ≤ cutN x z)]
  unfold sp_sar sp_shr sp_shl sp_neg
  have hs := sgn_lt y hx
  have e63 : nb (nble 9223372036854775808 ((sp_sgn x y + 2 ^ 63) % 2 ^ 64)) = decide (2 ^ 63 ≤ sp_sgn x y) := by
    rw [nble_dec]
    by_cases h : 2 ^ 63 ≤ sp_sgn x y
    · rw [decide_eq_true h, decide_eq_false (by omega)]; rfl
    · rw [decide_eq_false h, decide_eq_true (by omega)]; rfl
  rw [e63]
  simp only [bi_dec, decide_eq_true_eq]
  by_cases hz : clampN x ≤ cutN x z
  · simp only [if_pos hz]
    by_cases k2 : k = 2 <;> by_cases k1 : k = 1 <;> by_cases hn : 2 ^ 63 ≤ sp_sgn x y <;> simp only [k2, k1, hn, if_true, if_false] <;> rfl
  · simp only [if_neg hz]
    have hz64 : cutN x z < 64 := by omega
    rw [shr3_eq hz64, shl7_eq hz64, cut_mod _ hx]
    have hsar : sarN (sp_sgn x y) (cutN x z) < 2 ^ 64 := by
      unfold sarN
      split
      · exact Nat.lt_of_le_of_lt (Nat.sub_le _ _) (by decide)
      · exact Nat.lt_of_le_of_lt (Nat.div_le_self _ _) hs
    rw [cnv_mod _ hsar]
    by_cases k2 : k = 2 <;> by_cases k1 : k = 1 <;> by_cases hn : 2 ^ 63 ≤ sp_sgn x y <;> simp only [k2, k1, hn, if_true, if_false] <;> rfl
end Go.Eng
namespace Go.Eng
open Go.RowKit Go.Proofs
theorem s222 (J : Jmp) (x : Nat) : (compY Tryz.prog 13 lab222 (finY Tryz.prog [.tmp 2] [23]) J [] (bodyC Tryz.f222) (finY Tryz.prog [.tmp 2] [23]) []).run RR (setArgs 0 [i64 x] noFr) (baseH Tryz.prog) =
  (bi (nbeq (okN (PureAt Tryz.prog 74 [(i64 x)] (i64 (clampN x)))) 1)
 (J [0, 0, 1, 0, 1, 1] [(u64 0), (i64 (clampN x)), (i64 0)])
 (failR 301)) := by kernel_rfl
theorem l222 (J : Jmp) (u n i : Nat) : lblY Tryz.prog 13 lab222 (baseH Tryz.prog) RR (finY Tryz.prog [.tmp 2] [23]) (bodyC Tryz.f222) J [0,0,1,0,1,1] [u64 u, i64 n, i64 i] =
  (bi (nbeq (bi (nb (nble (biased 3 n) (biased 3 i))) 1 0) 1)
 (J [0, 0, 1, 0, 1, 1] [(u64 (g_addu (g_mulu u 2) 1)), (i64 n), (i64 (g_addi i 1))])
 (ansY (u64 u))) := by kernel_rfl
theorem s209 (J : Jmp) (x y z : Nat) : (compY Tryz.prog 36 lab209 (finY Tryz.prog [.tmp 6] [23]) J [] (bodyC Tryz.f209) (finY Tryz.prog [.tmp 6] [23]) []).run RR (setArgs 0 [i64 x, u64 y, u64 z] noFr) (baseH Tryz.prog) =
  (bi (nbeq (okN (PureAt Tryz.prog 74 [(i64 x)] (i64 (clampN x)))) 1)
 (J [0, 0, 1, 0, 1, 1] [(u64 y), (u64 z), (u64 0), (u64 0), (i64 (clampN x)), (i64 0)])
 (failR 301)) := by kernel_rfl
theorem l209 (J : Jmp) (y z u c n i : Nat) : lblY Tryz.prog 36 lab209 (baseH Tryz.prog) RR (finY Tryz.prog [.tmp 6] [23]) (bodyC Tryz.f209) J [0,0,1,0,1,1] [u64 y, u64 z, u64 u, u64 c, i64 n, i64 i] =
  (bi (nbeq (bi (nb (nble (biased 3 n) (biased 3 i))) 1 0) 1)
 (bi (nbeq (okN (PureAt Tryz.prog 75 [(u64 y), (i64 i)] (u64 (sp_bit y i)))) 1)
 (bi (nbeq (okN (PureAt Tryz.prog 75 [(u64 z), (i64 i)] (u64 (sp_bit z i)))) 1)
 (bi (nble 18446744073709551616 (cnvN 3 7 i))
 (failR 9)
 (J [0, 0, 1, 0, 1, 1] [(u64 y), (u64 z), (u64 (g_or u (shlN 7 (g_rem (g_addu (g_addu (sp_bit y i) (sp_bit z i)) c) 2) (cnvN 3 7 i)))), (u64 (g_quo (g_addu (g_addu (sp_bit y i) (sp_bit z i)) c) 2)), (i64 n), (i64 (g_addi i 1))]))
 (failR 301))
 (failR 301))
 (ansY (u64 u))) := by kernel_rfl
theorem s252 (J : Jmp) (y z : Nat) : (compY Tryz.prog 39 lab252 (finY Tryz.prog [.tmp 4, .tmp 5] [23, 23]) J [] (bodyC Tryz.f252) (finY Tryz.prog [.tmp 4, .tmp 5] [23, 23]) []).run RR (setArgs 0 [u64 y, u64 z] noFr) (baseH Tryz.prog) =
  (J [0, 0, 1, 0, 1, 1] [(u64 y), (u64 z), (u64 0), (u64 0), (i64 63)]) := by kernel_rfl
theorem l252 (J : Jmp) (y z u c i : Nat) : lblY Tryz.prog 39 lab252 (baseH Tryz.prog) RR (finY Tryz.prog [.tmp 4, .tmp 5] [23, 23]) (bodyC Tryz.f252) J [0,0,1,0,1,1] [u64 y, u64 z, u64 u, u64 c, i64 i] =
  (bi (nbeq (bi (nble 9223372036854775808 (biased 3 i)) 1 0) 1)
 (bi (nbeq (okN (PureAt Tryz.prog 75 [(u64 c), (i64 63)] (u64 (sp_bit c 63)))) 1)
 (bi (nbeq (okN (PureAt Tryz.prog 75 [(u64 y), (i64 i)] (u64 (sp_bit y i)))) 1)
 (bi (nbeq (bi (nbeq (sp_bit c 63) 1) 1 0) 0)
 (bi (nbeq (bi (nble (biased 7 z) (biased 7 (g_addu (g_mulu c 2) (sp_bit y i)))) 1 0) 1)
 (bi (nble 18446744073709551616 (cnvN 3 7 i))
 (failR 9)
 (J [0, 0, 1, 0, 1, 1] [(u64 y), (u64 z), (u64 (g_or u (shlN 7 1 (cnvN 3 7 i)))), (u64 (g_subu (g_addu (g_mulu c 2) (sp_bit y i)) z)), (i64 (g_subi i 1))]))
 (J [0, 0, 1, 0, 1, 1] [(u64 y), (u64 z), (u64 u), (u64 (g_addu (g_mulu c 2) (sp_bit y i))), (i64 (g_subi i 1))]))
 (bi (nble 18446744073709551616 (cnvN 3 7 i))
 (failR 9)
 (J [0, 0, 1, 0, 1, 1] [(u64 y), (u64 z), (u64 (g_or u (shlN 7 1 (cnvN 3 7 i)))), (u64 (g_subu (g_addu (g_mulu c 2) (sp_bit y i)) z)), (i64 (g_subi i 1))])))
 (failR 301))
 (failR 301))
 (ansY (tupV [(u64 u), (u64 c)]))) := by kernel_rfl
theorem s150 (J : Jmp) (x v y z : Nat) : (compY Tryz.prog 37 lab150 (finY Tryz.prog [.tmp 8] [23]) J [] (bodyC Tryz.f150) (finY Tryz.prog [.tmp 8] [23]) []).run RR (setArgs 0 [i64 x, i64 v, u64 y, u64 z] noFr) (baseH Tryz.prog) =
  (bi (nbeq (okN (PureAt Tryz.prog 32 [(i64 v), (u64 z)] (u64 (cutN v z)))) 1)
 (bi (nbeq (okN (PureAt Tryz.prog 74 [(i64 x)] (i64 (clampN x)))) 1)
 (J [0, 0, 1, 0, 1, 1] [(i64 v), (u64 y), (u64 (cutN v z)), (i64 (clampN x)), (i64 0)])
 (failR 301))
 (failR 301)) := by kernel_rfl
theorem l150 (J : Jmp) (v y u n i : Nat) : lblY Tryz.prog 37 lab150 (baseH Tryz.prog) RR (finY Tryz.prog [.tmp 8] [23]) (bodyC Tryz.f150) J [0,0,1,0,1,1] [i64 v, u64 y, u64 u, i64 n, i64 i] =
  (bi (nbeq (bi (nb (nble (biased 3 n) (biased 3 i))) 1 0) 1)
 (bi (nbeq (okN (PureAt Tryz.prog 74 [(i64 v)] (i64 (clampN v)))) 1)
 (bi (nbeq (bi (nb (nble 9223372036854775872 (biased 3 (g_addi i (clampN v))))) 1 0) 1)
 (bi (nbeq (okN (PureAt Tryz.prog 75 [(u64 y), (i64 i)] (u64 (sp_bit y i)))) 1)
 (bi (nbeq (okN (PureAt Tryz.prog 74 [(i64 v)] (i64 (clampN v)))) 1)
 (bi (nble 18446744073709551616 (cnvN 3 7 (g_addi i (clampN v))))
 (failR 9)
 (J [0, 0, 1, 0, 1, 1] [(i64 v), (u64 y), (u64 (g_or u (shlN 7 (sp_bit y i) (cnvN 3 7 (g_addi i (clampN v)))))), (i64 n), (i64 (g_addi i 1))]))
 (failR 301))
 (failR 301))
 (J [0, 0, 1, 0, 1, 1] [(i64 v), (u64 y), (u64 u), (i64 n), (i64 (g_addi i 1))]))
 (failR 301))
 (ansY (u64 u))) := by kernel_rfl
theorem s206 (J : Jmp) (x y z : Nat) : (compY Tryz.prog 31 lab206 (finY Tryz.prog [.tmp 6] [23]) J [] (bodyC Tryz.f206) (finY Tryz.prog [.tmp 6] [23]) []).run RR (setArgs 0 [i64 x, u64 y, u64 z] noFr) (baseH Tryz.prog) =
  (bi (nbeq (okN (PureAt Tryz.prog 74 [(i64 x)] (i64 (clampN x)))) 1)
 (J [0, 0, 1, 0, 1, 1] [(u64 y), (u64 z), (u64 0), (i64 (clampN x)), (i64 0)])
 (failR 301)) := by kernel_rfl
theorem l206 (J : Jmp) (y z u n i : Nat) : lblY Tryz.prog 31 lab206 (baseH Tryz.prog) RR (finY Tryz.prog [.tmp 6] [23]) (bodyC Tryz.f206) J [0,0,1,0,1,1] [u64 y, u64 z, u64 u, i64 n, i64 i] =
  (bi (nbeq (bi (nb (nble (biased 3 n) (biased 3 i))) 1 0) 1)
 (bi (nbeq (okN (PureAt Tryz.prog 75 [(u64 y), (i64 i)] (u64 (sp_bit y i)))) 1)
 (bi (nbeq (bi (nbeq (sp_bit y i) 1) 1 0) 1)
 (bi (nbeq (okN (PureAt Tryz.prog 75 [(u64 z), (i64 i)] (u64 (sp_bit z i)))) 1)
 (bi (nbeq (bi (nbeq (sp_bit z i) 1) 1 0) 1)
 (bi (nble 18446744073709551616 (cnvN 3 7 i))
 (failR 9)
 (J [0, 0, 1, 0, 1, 1] [(u64 y), (u64 z), (u64 (g_or u (shlN 7 1 (cnvN 3 7 i)))), (i64 n), (i64 (g_addi i 1))]))
 (J [0, 0, 1, 0, 1, 1] [(u64 y), (u64 z), (u64 u), (i64 n), (i64 (g_addi i 1))]))
 (failR 301))
 (J [0, 0, 1, 0, 1, 1] [(u64 y), (u64 z), (u64 u), (i64 n), (i64 (g_addi i 1))]))
 (failR 301))
 (ansY (u64 u))) := by kernel_rfl
theorem s211 (J : Jmp) (x y z : Nat) : (compY Tryz.prog 29 lab211 (finY Tryz.prog [.tmp 6] [23]) J [] (bodyC Tryz.f211) (finY Tryz.prog [.tmp 6] [23]) []).run RR (setArgs 0 [i64 x, u64 y, u64 z] noFr) (baseH Tryz.prog) =
  (bi (nbeq (okN (PureAt Tryz.prog 74 [(i64 x)] (i64 (clampN x)))) 1)
 (J [0, 0, 1, 0, 1, 1] [(i64 x), (u64 y), (u64 z), (u64 0), (i64 (g_subi (clampN x) 1))])
 (failR 301)) := by kernel_rfl
theorem l211 (J : Jmp) (x y z u i : Nat) : lblY Tryz.prog 29 lab211 (baseH Tryz.prog) RR (finY Tryz.prog [.tmp 6] [23]) (bodyC Tryz.f211) J [0,0,1,0,1,1] [i64 x, u64 y, u64 z, u64 u, i64 i] =
  (bi (nbeq (bi (nble 9223372036854775808 (biased 3 i)) 1 0) 1)
 (bi (nbeq (okN (PureAt Tryz.prog 209 [(i64 x), (u64 u), (u64 u)] (u64 (sp_add x u u)))) 1)
 (bi (nbeq (okN (PureAt Tryz.prog 75 [(u64 z), (i64 i)] (u64 (sp_bit z i)))) 1)
 (bi (nbeq (bi (nbeq (sp_bit z i) 1) 1 0) 1)
 (bi (nbeq (okN (PureAt Tryz.prog 209 [(i64 x), (u64 (sp_add x u u)), (u64 y)] (u64 (sp_add x (sp_add x u u) y)))) 1)
 (J [0, 0, 1, 0, 1, 1] [(i64 x), (u64 y), (u64 z), (u64 (sp_add x (sp_add x u u) y)), (i64 (g_subi i 1))])
 (failR 301))
 (J [0, 0, 1, 0, 1, 1] [(i64 x), (u64 y), (u64 z), (u64 (sp_add x u u)), (i64 (g_subi i 1))]))
 (failR 301))
 (failR 301))
 (ansY (u64 u))) := by kernel_rfl
theorem s253 (J : Jmp) (x y b z : Nat) : (compY Tryz.prog 37 lab253 (finY Tryz.prog [.tmp 8] [23]) J [] (bodyC Tryz.f253) (finY Tryz.prog [.tmp 8] [23]) []).run RR (setArgs 0 [i64 x, u64 y, i64 b, u64 z] noFr) (baseH Tryz.prog) =
  (bi (nbeq (okN (PureAt Tryz.prog 74 [(i64 x)] (i64 (clampN x)))) 1)
 (J [0, 0, 1, 0, 1, 1] [(i64 x), (u64 y), (i64 b), (u64 z), (u64 0), (i64 (clampN x)), (i64 0)])
 (failR 301)) := by kernel_rfl
theorem l253 (J : Jmp) (x y b z u n i : Nat) : lblY Tryz.prog 37 lab253 (baseH Tryz.prog) RR (finY Tryz.prog [.tmp 8] [23]) (bodyC Tryz.f253) J [0,0,1,0,1,1] [i64 x, u64 y, i64 b, u64 z, u64 u, i64 n, i64 i] =
  (bi (nbeq (bi (nb (nble (biased 3 n) (biased 3 i))) 1 0) 1)
 (bi (nbeq (okN (PureAt Tryz.prog 74 [(i64 x)] (i64 (clampN x)))) 1)
 (bi (nbeq (bi (nb (nble (biased 3 (clampN x)) (biased 3 (g_addi i b)))) 1 0) 1)
 (bi (nbeq (okN (PureAt Tryz.prog 75 [(u64 y), (i64 (g_addi i b))] (u64 (sp_bit y (g_addi i b))))) 1)
 (bi (nble 18446744073709551616 (cnvN 3 7 i))
 (failR 9)
 (J [0, 0, 1, 0, 1, 1] [(i64 x), (u64 y), (i64 b), (u64 z), (u64 (g_or u (shlN 7 (sp_bit y (g_addi i b)) (cnvN 3 7 i)))), (i64 n), (i64 (g_addi i 1))]))
 (failR 301))
 (bi (nble 18446744073709551616 (cnvN 3 7 i))
 (failR 9)
 (J [0, 0, 1, 0, 1, 1] [(i64 x), (u64 y), (i64 b), (u64 z), (u64 (g_or u (shlN 7 z (cnvN 3 7 i)))), (i64 n), (i64 (g_addi i 1))])))
 (failR 301))
 (ansY (u64 u))) := by kernel_rfl
theorem s205 (J : Jmp) (x v y : Nat) : (compY Tryz.prog 28 lab205 (finY Tryz.prog [.tmp 6] [23]) J [] (bodyC Tryz.f205) (finY Tryz.prog [.tmp 6] [23]) []).run RR (setArgs 0 [i64 x, i64 v, u64 y] noFr) (baseH Tryz.prog) =
  (bi (nbeq (okN (PureAt Tryz.prog 74 [(i64 v)] (i64 (clampN v)))) 1)
 (J [0, 0, 1, 0, 1, 1] [(i64 x), (u64 y), (u64 0), (i64 (clampN v)), (i64 0)])
 (failR 301)) := by kernel_rfl
theorem l205 (J : Jmp) (x y u n i : Nat) : lblY Tryz.prog 28 lab205 (baseH Tryz.prog) RR (finY Tryz.prog [.tmp 6] [23]) (bodyC Tryz.f205) J [0,0,1,0,1,1] [i64 x, u64 y, u64 u, i64 n, i64 i] =
  (bi (nbeq (bi (nb (nble (biased 3 n) (biased 3 i))) 1 0) 1)
 (bi (nbeq (okN (PureAt Tryz.prog 74 [(i64 x)] (i64 (clampN x)))) 1)
 (bi (nbeq (okN (PureAt Tryz.prog 75 [(u64 y), (i64 (bi (nble (biased 3 i) (biased 3 (g_subi (clampN x) 1))) i (g_subi (clampN x) 1)))] (u64 (sp_bit y (bi (nble (biased 3 i) (biased 3 (g_subi (clampN x) 1))) i (g_subi (clampN x) 1)))))) 1)
 (bi (nble 18446744073709551616 (cnvN 3 7 i))
 (failR 9)
 (J [0, 0, 1, 0, 1, 1] [(i64 x), (u64 y), (u64 (g_or u (shlN 7 (sp_bit y (bi (nble (biased 3 i) (biased 3 (g_subi (clampN x) 1))) i (g_subi (clampN x) 1))) (cnvN 3 7 i)))), (i64 n), (i64 (g_addi i 1))]))
 (failR 301))
 (failR 301))
 (ansY (u64 u))) := by kernel_rfl
theorem s204 (J : Jmp) (x v y : Nat) : (compY Tryz.prog 32 lab204 (finY Tryz.prog [.tmp 6] [23]) J [] (bodyC Tryz.f204) (finY Tryz.prog [.tmp 6] [23]) []).run RR (setArgs 0 [i64 x, i64 v, u64 y] noFr) (baseH Tryz.prog) =
  (bi (nbeq (bi (nb (nble 9223372036854775808 (biased 3 x))) 1 0) 0)
 (bi (nbeq (bi (nb (nble (biased 3 x) 9223372036854775871)) 1 0) 1)
 (ansY (u64 0))
 (bi (nbeq (okN (PureAt Tryz.prog 74 [(i64 v)] (i64 (clampN v)))) 1)
 (J [0, 0, 1, 0, 1, 1, 1] [(i64 x), (u64 y), (u64 0), (i64 (clampN v)), (i64 0)])
 (failR 301)))
 (ansY (u64 0))) := by kernel_rfl
theorem l204 (J : Jmp) (x y u n i : Nat) : lblY Tryz.prog 32 lab204 (baseH Tryz.prog) RR (finY Tryz.prog [.tmp 6] [23]) (bodyC Tryz.f204) J [0,0,1,0,1,1,1] [i64 x, u64 y, u64 u, i64 n, i64 i] =
  (bi (nbeq (bi (nb (nble (biased 3 n) (biased 3 i))) 1 0) 1)
 (bi (nbeq (okN (PureAt Tryz.prog 75 [(u64 y), (i64 (g_addi x i))] (u64 (sp_bit y (g_addi x i))))) 1)
 (bi (nble 18446744073709551616 (cnvN 3 7 i))
 (failR 9)
 (J [0, 0, 1, 0, 1, 1, 1] [(i64 x), (u64 y), (u64 (g_or u (shlN 7 (sp_bit y (g_addi x i)) (cnvN 3 7 i)))), (i64 n), (i64 (g_addi i 1))]))
 (failR 301))
 (ansY (u64 u))) := by kernel_rfl
theorem s289 (J : Jmp) (x y : Nat) : (compY Tryz.prog 11 (fun _ => none) (finY Tryz.prog [.tmp 4] [4]) J [] (bodyC Tryz.f289) (finY Tryz.prog [.tmp 4] [4]) []).run RR (setArgs 0 [i64 x, u64 y] noFr) (baseH Tryz.prog) =
  (bi (nbeq (okN (PureAt Tryz.prog 74 [(i64 x)] (i64 (clampN x)))) 1)
 (bi (nbeq (okN (PureAt Tryz.prog 75 [(u64 y), (i64 (g_subi (clampN x) 1))] (u64 (sp_bit y (g_subi (clampN x) 1))))) 1)
 (ansY (mk1 8 (bi (nbeq (sp_bit y (g_subi (clampN x) 1)) 1) 1 0)))
 (failR 301))
 (failR 301)) := by kernel_rfl
theorem s256 (J : Jmp) (x y : Nat) : (compY Tryz.prog 21 (fun _ => none) (finY Tryz.prog [.tmp 4] [2]) J [] (bodyC Tryz.f256) (finY Tryz.prog [.tmp 4] [2]) []).run RR (setArgs 0 [i64 x, u64 y] noFr) (baseH Tryz.prog) =
  (bi (nbeq (okN (PureAt Tryz.prog 32 [(i64 x), (u64 y)] (u64 (cutN x y)))) 1)
 (bi (nbeq (okN (PureAt Tryz.prog 289 [(i64 x), (u64 y)] (mk1 8 (bi (sp_neg x y) 1 0)))) 1)
 (bi (nbeq (bi (sp_neg x y) 1 0) 1)
 (bi (nbeq (okN (PureAt Tryz.prog 222 [(i64 x)] (u64 (maskN x)))) 1)
 (ansY (i64 (g_subi (negN 3 (cnvN 7 3 (g_subu (maskN x) (cutN x y)))) 1)))
 (failR 301))
 (ansY (i64 (cnvN 7 3 (cutN x y)))))
 (failR 301))
 (failR 301)) := by kernel_rfl
theorem s202 (J : Jmp) (x y : Nat) : (compY Tryz.prog 11 (fun _ => none) (finY Tryz.prog [.tmp 4] [23]) J [] (bodyC Tryz.f202) (finY Tryz.prog [.tmp 4] [23]) []).run RR (setArgs 0 [i64 x, u64 y] noFr) (baseH Tryz.prog) =
  (bi (nbeq (okN (PureAt Tryz.prog 222 [(i64 x)] (u64 (maskN x)))) 1)
 (bi (nbeq (okN (PureAt Tryz.prog 32 [(i64 x), (u64 y)] (u64 (cutN x y)))) 1)
 (ansY (u64 (g_subu (maskN x) (cutN x y))))
 (failR 301))
 (failR 301)) := by kernel_rfl
theorem s254 (J : Jmp) (x y : Nat) : (compY Tryz.prog 10 (fun _ => none) (finY Tryz.prog [.tmp 4] [3]) J [] (bodyC Tryz.f254) (finY Tryz.prog [.tmp 4] [3]) []).run RR (setArgs 0 [i64 x, u64 y] noFr) (baseH Tryz.prog) =
  (bi (nbeq (okN (PureAt Tryz.prog 32 [(i64 x), (u64 y)] (u64 (cutN x y)))) 1)
 (ansY (i64 (cnvN 7 3 (bi (nble (biased 7 (cutN x y)) 64) (cutN x y) 64))))
 (failR 301)) := by kernel_rfl
theorem s255 (J : Jmp) (b : Bool) : (compY Tryz.prog 4 (fun _ => none) (finY Tryz.prog [.tmp 2] [23]) J [] (bodyC Tryz.f255) (finY Tryz.prog [.tmp 2] [23]) []).run RR (setArgs 0 [bV b] noFr) (baseH Tryz.prog) =
  (bi (nbeq (bi b 1 0) 1)
 (ansY (u64 1))
 (ansY (u64 0))) := by kernel_rfl
theorem s217 (J : Jmp) (x y z : Nat) : (compY Tryz.prog 15 (fun _ => none) (finY Tryz.prog [.tmp 6] [23]) J [] (bodyC Tryz.f217) (finY Tryz.prog [.tmp 6] [23]) []).run RR (setArgs 0 [i64 x, u64 y, u64 z] noFr) (baseH Tryz.prog) =
  (bi (nbeq (okN (PureAt Tryz.prog 32 [(i64 x), (u64 y)] (u64 (cutN x y)))) 1)
 (bi (nbeq (okN (PureAt Tryz.prog 32 [(i64 x), (u64 z)] (u64 (cutN x z)))) 1)
 (bi (nbeq (okN (PureAt Tryz.prog 255 [(mk1 8 (bi (nbeq (cutN x y) (cutN x z)) 1 0))] (u64 (bi (nbeq (cutN x y) (cutN x z)) 1 0)))) 1)
 (ansY (u64 (bi (nbeq (cutN x y) (cutN x z)) 1 0)))
 (failR 301))
 (failR 301))
 (failR 301)) := by kernel_rfl
theorem s218 (J : Jmp) (x y z : Nat) : (compY Tryz.prog 15 (fun _ => none) (finY Tryz.prog [.tmp 6] [23]) J [] (bodyC Tryz.f218) (finY Tryz.prog [.tmp 6] [23]) []).run RR (setArgs 0 [i64 x, u64 y, u64 z] noFr) (baseH Tryz.prog) =
  (bi (nbeq (okN (PureAt Tryz.prog 32 [(i64 x), (u64 y)] (u64 (cutN x y)))) 1)
 (bi (nbeq (okN (PureAt Tryz.prog 32 [(i64 x), (u64 z)] (u64 (cutN x z)))) 1)
 (bi (nbeq (okN (PureAt Tryz.prog 255 [(mk1 8 (bi (nb (nble (biased 7 (cutN x z)) (biased 7 (cutN x y)))) 1 0))] (u64 (bi (nb (nble (biased 7 (cutN x z)) (biased 7 (cutN x y)))) 1 0)))) 1)
 (ansY (u64 (bi (nb (nble (biased 7 (cutN x z)) (biased 7 (cutN x y)))) 1 0)))
 (failR 301))
 (failR 301))
 (failR 301)) := by kernel_rfl
theorem body222 : Tryz.f222.body = some (bodyC Tryz.f222) := by kernel_rfl
theorem fn222 : Tryz.prog.funcs[222]? = some Tryz.f222 := by kernel_rfl
theorem nt222 : Tryz.f222.ntmps = 13 := by kernel_rfl
theorem rs222 : Tryz.f222.results.toList = [.tmp 2] := by kernel_rfl
theorem body206 : Tryz.f206.body = some (bodyC Tryz.f206) := by kernel_rfl
theorem fn206 : Tryz.prog.funcs[206]? = some Tryz.f206 := by kernel_rfl
theorem nt206 : Tryz.f206.ntmps = 31 := by kernel_rfl
theorem rs206 : Tryz.f206.results.toList = [.tmp 6] := by kernel_rfl
theorem body209 : Tryz.f209.body = some (bodyC Tryz.f209) := by kernel_rfl
theorem fn209 : Tryz.prog.funcs[209]? = some Tryz.f209 := by kernel_rfl
theorem nt209 : Tryz.f209.ntmps = 36 := by kernel_rfl
theorem rs209 : Tryz.f209.results.toList = [.tmp 6] := by kernel_rfl
theorem body211 : Tryz.f211.body = some (bodyC Tryz.f211) := by kernel_rfl
theorem fn211 : Tryz.prog.funcs[211]? = some Tryz.f211 := by kernel_rfl
theorem nt211 : Tryz.f211.ntmps = 29 := by kernel_rfl
theorem rs211 : Tryz.f211.results.toList = [.tmp 6] := by kernel_rfl
theorem body252 : Tryz.f252.body = some (bodyC Tryz.f252) := by kernel_rfl
theorem fn252 : Tryz.prog.funcs[252]? = some Tryz.f252 := by kernel_rfl
theorem nt252 : Tryz.f252.ntmps = 39 := by kernel_rfl
theorem rs252 : Tryz.f252.results.toList = [.tmp 4, .tmp 5] := by kernel_rfl
theorem body253 : Tryz.f253.body = some (bodyC Tryz.f253) := by kernel_rfl
theorem fn253 : Tryz.prog.funcs[253]? = some Tryz.f253 := by kernel_rfl
theorem nt253 : Tryz.f253.ntmps = 37 := by kernel_rfl
theorem rs253 : Tryz.f253.results.toList = [.tmp 8] := by kernel_rfl
theorem body150 : Tryz.f150.body = some (bodyC Tryz.f150) := by kernel_rfl
theorem fn150 : Tryz.prog.funcs[150]? = some Tryz.f150 := by kernel_rfl
theorem nt150 : Tryz.f150.ntmps = 37 := by kernel_rfl
theorem rs150 : Tryz.f150.results.toList = [.tmp 8] := by kernel_rfl
theorem body205 : Tryz.f205.body = some (bodyC Tryz.f205) := by kernel_rfl
theorem fn205 : Tryz.prog.funcs[205]? = some Tryz.f205 := by kernel_rfl
theorem nt205 : Tryz.f205.ntmps = 28 := by kernel_rfl
theorem rs205 : Tryz.f205.results.toList = [.tmp 6] := by kernel_rfl
theorem body204 : Tryz.f204.body = some (bodyC Tryz.f204) := by kernel_rfl
theorem fn204 : Tryz.prog.funcs[204]? = some Tryz.f204 := by kernel_rfl
theorem nt204 : Tryz.f204.ntmps = 32 := by kernel_rfl
theorem rs204 : Tryz.f204.results.toList = [.tmp 6] := by kernel_rfl
theorem body289 : Tryz.f289.body = some (bodyC Tryz.f289) := by kernel_rfl
theorem fn289 : Tryz.prog.funcs[289]? = some Tryz.f289 := by kernel_rfl
theorem nt289 : Tryz.f289.ntmps = 11 := by kernel_rfl
theorem rs289 : Tryz.f289.results.toList = [.tmp 4] := by kernel_rfl
theorem body256 : Tryz.f256.body = some (bodyC Tryz.f256) := by kernel_rfl
theorem fn256 : Tryz.prog.funcs[256]? = some Tryz.f256 := by kernel_rfl
theorem nt256 : Tryz.f256.ntmps = 21 := by kernel_rfl
theorem rs256 : Tryz.f256.results.toList = [.tmp 4] := by kernel_rfl
theorem body202 : Tryz.f202.body = some (bodyC Tryz.f202) := by kernel_rfl
theorem fn202 : Tryz.prog.funcs[202]? = some Tryz.f202 := by kernel_rfl
theorem nt202 : Tryz.f202.ntmps = 11 := by kernel_rfl
theorem rs202 : Tryz.f202.results.toList = [.tmp 4] := by kernel_rfl
theorem body254 : Tryz.f254.body = some (bodyC Tryz.f254) := by kernel_rfl
theorem fn254 : Tryz.prog.funcs[254]? = some Tryz.f254 := by kernel_rfl
theorem nt254 : Tryz.f254.ntmps = 10 := by kernel_rfl
theorem rs254 : Tryz.f254.results.toList = [.tmp 4] := by kernel_rfl
theorem body255 : Tryz.f255.body = some (bodyC Tryz.f255) := by kernel_rfl
theorem fn255 : Tryz.prog.funcs[255]? = some Tryz.f255 := by kernel_rfl
theorem nt255 : Tryz.f255.ntmps = 4 := by kernel_rfl
theorem rs255 : Tryz.f255.results.toList = [.tmp 2] := by kernel_rfl
theorem body217 : Tryz.f217.body = some (bodyC Tryz.f217) := by kernel_rfl
theorem fn217 : Tryz.prog.funcs[217]? = some Tryz.f217 := by kernel_rfl
theorem nt217 : Tryz.f217.ntmps = 15 := by kernel_rfl
theorem rs217 : Tryz.f217.results.toList = [.tmp 6] := by kernel_rfl
theorem body218 : Tryz.f218.body = some (bodyC Tryz.f218) := by kernel_rfl
theorem fn218 : Tryz.prog.funcs[218]? = some Tryz.f218 := by kernel_rfl
theorem nt218 : Tryz.f218.ntmps = 15 := by kernel_rfl
theorem rs218 : Tryz.f218.results.toList = [.tmp 6] := by kernel_rfl
theorem ctr {α : Type} {n i : Nat} (hn : n < 2 ^ 63) (hi : i < 2 ^ 63) (X Y : α) : bi (nbeq (bi (nb (nble (biased 3 n) (biased 3 i))) 1 0) 1) X Y = if i < n then X else Y := by
  rw [bl_bi, biased_le hn hi]
  by_cases h : n ≤ i
  · rw [decide_eq_true h, if_neg (by omega)]; rfl
  · rw [decide_eq_false h, if_pos (by omega)]; rfl
theorem sbit {x i : Nat} (hx : x < 2 ^ 64) (hi : i < 2 ^ 64) : sp_bit x i = btN x i := by
  unfold sp_bit
  by_cases h : i < 64
  · rw [if_pos h]
  · rw [if_neg h, bt_big hx (by omega)]
theorem sbit_lt (x i : Nat) : sp_bit x i < 2 := by unfold sp_bit; split; exact bt_lt _ _; decide
theorem pure75b (x y : Nat) (hx : x < 2 ^ 64) (hy : y < 2 ^ 64) : PureAt Tryz.prog 75 [u64 x, i64 y] (u64 (sp_bit x y)) := by
  unfold sp_bit
  by_cases h : y < 64
  · rw [if_pos h]; exact pure75 x y hx h
  · rw [if_neg h]
    refine pure_fn mixed globs fn75 body75 nt75 rs75 R0_ok (fun _ => none) [23] 0 ((s75 _ x y).trans ?_)
    rw [biased3]
    by_cases h2 : y < 2 ^ 63
    · rw [nble_t (show 9223372036854775808 ≤ (y + 2 ^ 63) % 2 ^ 64 by omega), nble_f (show ¬ (y + 2 ^ 63) % 2 ^ 64 ≤ 9223372036854775871 by omega)]; rfl
    · rw [nble_f (show ¬ 9223372036854775808 ≤ (y + 2 ^ 63) % 2 ^ 64 by omega)]; rfl
theorem noshift {i : Nat} (h : i < 64) : nble 18446744073709551616 i = false := nble_f (by omega)
theorem pure222 (x : Nat) (hx : x < 2 ^ 64) : PureAt Tryz.prog 222 [i64 x] (u64 (maskN x)) := by
  obtain ⟨h1, h2⟩ := clamp_range hx
  have h := walkN (n := clampN x) (A := ansY (u64 (maskN x))) (L := (fun k i => jmpN Tryz.prog 13 lab222 (baseH Tryz.prog) RR (finY Tryz.prog [.tmp 2] [23]) (bodyC Tryz.f222) k [0,0,1,0,1,1] [u64 (2 ^ i - 1), i64 (clampN x), i64 i])) (fun k => ?_) (fun k i hi => ?_) (clampN x) 0 (by omega)
  · refine pure_fn mixed globs fn222 body222 nt222 rs222 RR_ok lab222 [23] (clampN x + 1) ((s222 _ x).trans ?_)
    rw [okN_bi (pure74 x)]
    exact h
  · show jmpN _ _ _ _ _ _ _ (k + 1) _ _ = _
    rw [jmpN_succ, l222, ctr (by omega) (by omega), if_neg (by omega)]; rfl
  · show jmpN _ _ _ _ _ _ _ (k + 1) _ _ = _
    have hp : 2 ^ i * 2 ≤ 2 ^ 64 := by rw [← Nat.pow_succ]; exact Nat.pow_le_pow_right (by decide) (by omega)
    have hp0 := Nat.two_pow_pos i
    rw [jmpN_succ, l222, ctr (by omega) (by omega), if_pos hi, addi1 (by omega), g_addu_eq, g_mulu_eq]
    have e : ((2 ^ i - 1) * 2 % 2 ^ 64 + 1) % 2 ^ 64 = 2 ^ (i + 1) - 1 := by rw [Nat.pow_succ]; omega
    rw [e]
theorem pure206 (x y z : Nat) (hx : x < 2 ^ 64) (hy : y < 2 ^ 64) (hz : z < 2 ^ 64) : PureAt Tryz.prog 206 [i64 x, u64 y, u64 z] (u64 (sp_and x y z)) := by
  obtain ⟨h1, h2⟩ := clamp_range hx
  have hf : ∀ i, btN y i * btN z i < 2 := fun i => by
    have a := bt_lt y i; have b := bt_lt z i
    have : btN y i = 0 ∨ btN y i = 1 := by omega
    rcases this with h | h <;> rw [h] <;> omega
  have h := walkN (n := clampN x) (A := ansY (u64 (sp_and x y z))) (L := (fun k i => jmpN Tryz.prog 31 lab206 (baseH Tryz.prog) RR (finY Tryz.prog [.tmp 6] [23]) (bodyC Tryz.f206) k [0,0,1,0,1,1] [u64 y, u64 z, u64 (bld (fun i => btN y i * btN z i) i), i64 (clampN x), i64 i])) (fun k => ?_) (fun k i hi => ?_) (clampN x) 0 (by omega)
  · refine pure_fn mixed globs fn206 body206 nt206 rs206 RR_ok lab206 [23] (clampN x + 1) ((s206 _ x y z).trans ?_)
    rw [okN_bi (pure74 x)]
    exact h
  · show jmpN _ _ _ _ _ _ _ (k + 1) _ _ = _
    rw [jmpN_succ, l206, ctr (by omega) (by omega), if_neg (by omega), and_bld]; rfl
  · show jmpN _ _ _ _ _ _ _ (k + 1) _ _ = _
    rw [jmpN_succ, l206, ctr (by omega) (by omega), if_pos hi, okN_bi (pure75b y i hy (by omega)), okN_bi (pure75b z i hz (by omega)), addi1 (by omega), cnv_mod i (by omega), noshift (by omega), sbit hy (by omega), sbit hz (by omega)]
    simp only [bl_bi, bi_ff]
    have a := bt_lt y i; have b := bt_lt z i
    by_cases ha : btN y i = 1
    · by_cases hb : btN z i = 1
      · have e := put_bit hf (show i < 64 by omega)
        simp only [ha, hb, Nat.mul_one] at e
        simp only [ha, hb, n11, bi_tt, e]
      · have hb0 : btN z i = 0 := by omega
        simp only [ha, hb0, n11, n01, bi_tt, bi_ff, keep_bit (f := fun i => btN y i * btN z i) (i := i) (by simp only [hb0, Nat.mul_zero])]
    · have ha0 : btN y i = 0 := by omega
      simp only [ha0, n01, bi_ff, keep_bit (f := fun i => btN y i * btN z i) (i := i) (by simp only [ha0, Nat.zero_mul])]
def carry (y z i : Nat) : Nat := (y % 2 ^ i + z % 2 ^ i) / 2 ^ i
theorem carry_lt (y z i : Nat) : carry y z i < 2 := by
  unfold carry
  have hp := Nat.two_pow_pos i
  have a := Nat.mod_lt y hp; have b := Nat.mod_lt z hp
  exact Nat.div_lt_of_lt_mul (by omega)
theorem pure209 (x y z : Nat) (hx : x < 2 ^ 64) (hy : y < 2 ^ 64) (hz : z < 2 ^ 64) : PureAt Tryz.prog 209 [i64 x, u64 y, u64 z] (u64 (sp_add x y z)) := by
  obtain ⟨h1, h2⟩ := clamp_range hx
  have h := walkN (n := clampN x) (A := ansY (u64 (sp_add x y z))) (L := (fun k i => jmpN Tryz.prog 36 lab209 (baseH Tryz.prog) RR (finY Tryz.prog [.tmp 6] [23]) (bodyC Tryz.f209) k [0,0,1,0,1,1] [u64 y, u64 z, u64 (bld (btN (y + z)) i), u64 (carry y z i), i64 (clampN x), i64 i])) (fun k => ?_) (fun k i hi => ?_) (clampN x) 0 (by omega)
  · refine pure_fn mixed globs fn209 body209 nt209 rs209 RR_ok lab209 [23] (clampN x + 1) ((s209 _ x y z).trans ?_)
    rw [okN_bi (pure74 x)]
    have e : carry y z 0 = 0 := by unfold carry; simp [Nat.mod_one]
    rw [e] at h
    exact h
  · show jmpN _ _ _ _ _ _ _ (k + 1) _ _ = _
    rw [jmpN_succ, l209, ctr (by omega) (by omega), if_neg (by omega), bld_self]; rfl
  · show jmpN _ _ _ _ _ _ _ (k + 1) _ _ = _
    have hs := add_step y z i
    have a := bt_lt y i; have b := bt_lt z i; have c := carry_lt y z i; have d := carry_lt y z (i + 1); have e := bt_lt (y + z) i
    have hs' : btN y i + btN z i + carry y z i = btN (y + z) i + 2 * carry y z (i + 1) := hs
    rw [jmpN_succ, l209, ctr (by omega) (by omega), if_pos hi, okN_bi (pure75b y i hy (by omega)), okN_bi (pure75b z i hz (by omega)), addi1 (by omega), cnv_mod i (by omega), noshift (by omega), bi_ff, sbit hy (by omega), sbit hz (by omega)]
    have es : g_addu (g_addu (btN y i) (btN z i)) (carry y z i) = btN (y + z) i + 2 * carry y z (i + 1) := by rw [g_addu_eq, g_addu_eq]; omega
    rw [es, g_rem_eq (by omega) (by decide), g_quo_eq (by omega) (by decide)]
    have e1 : (btN (y + z) i + 2 * carry y z (i + 1)) % 2 = btN (y + z) i := by omega
    have e2 : (btN (y + z) i + 2 * carry y z (i + 1)) / 2 = carry y z (i + 1) := by omega
    rw [e1, e2, put_bit (fun i => bt_lt (y + z) i) (by omega)]
/-- the number before, as a word -/
def prW (t : Nat) : Nat := if t = 0 then 2 ^ 64 - 1 else t - 1
theorem subi_pr {t : Nat} (h : t < 2 ^ 64) : g_subi t 1 = prW t := by
  rw [g_subi_eq]
  unfold prW
  split <;> omega
theorem down {α : Type} {t : Nat} (h : t < 2 ^ 62) (X Y : α) : bi (nbeq (bi (nble 9223372036854775808 (biased 3 (prW t))) 1 0) 1) X Y = if t = 0 then Y else X := by
  rw [bl_bi, biased3]
  unfold prW
  by_cases h0 : t = 0
  · rw [if_pos h0, if_pos h0, nble_f (by omega)]; rfl
  · rw [if_neg h0, if_neg h0, nble_t (by omega)]; rfl
theorem pure211 (x y z : Nat) (hx : x < 2 ^ 64) (hy : y < 2 ^ 64) (hz : z < 2 ^ 64) : PureAt Tryz.prog 211 [i64 x, u64 y, u64 z] (u64 (sp_mul x y z)) := by
  obtain ⟨h1, h2⟩ := clamp_range hx
  have hml : ∀ t, mulS y z (clampN x) t < 2 ^ 64 := fun t => Nat.lt_of_lt_of_le (Nat.mod_lt _ (Nat.two_pow_pos _)) (Nat.pow_le_pow_right (by decide) h2)
  have h := walkN (n := clampN x) (A := ansY (u64 (sp_mul x y z))) (L := (fun k i => jmpN Tryz.prog 29 lab211 (baseH Tryz.prog) RR (finY Tryz.prog [.tmp 6] [23]) (bodyC Tryz.f211) k [0,0,1,0,1,1] [i64 x, u64 y, u64 z, u64 (mulS y z (clampN x) (clampN x - i)), i64 (prW (clampN x - i))])) (fun k => ?_) (fun k i hi => ?_) (clampN x) 0 (by omega)
  · refine pure_fn mixed globs fn211 body211 nt211 rs211 RR_ok lab211 [23] (clampN x + 1) ((s211 _ x y z).trans ?_)
    rw [okN_bi (pure74 x), subi_pr (by omega)]
    rw [Nat.sub_zero, mulS_top] at h
    exact h
  · show jmpN _ _ _ _ _ _ _ (k + 1) _ _ = _
    rw [jmpN_succ, l211, Nat.sub_self, down (by decide), if_pos rfl, mulS_zero]; rfl
  · show jmpN _ _ _ _ _ _ _ (k + 1) _ _ = _
    obtain ⟨t, ht⟩ : ∃ t, clampN x - i = t + 1 := ⟨clampN x - i - 1, by omega⟩
    rw [jmpN_succ, l211, ht, down (by omega), if_neg (by omega), show prW (t + 1) = t from rfl, show clampN x - (i + 1) = t by omega]
    have e := mulS_step (a := y) (b := z) (show t < clampN x by omega)
    have ha : sp_add x (mulS y z (clampN x) (t + 1)) (mulS y z (clampN x) (t + 1)) = (mulS y z (clampN x) (t + 1) + mulS y z (clampN x) (t + 1)) % 2 ^ clampN x := rfl
    have hal : sp_add x (mulS y z (clampN x) (t + 1)) (mulS y z (clampN x) (t + 1)) < 2 ^ 64 := cut64 _ hx
    rw [okN_bi (pure209 x _ _ hx (hml _) (hml _)), okN_bi (pure75b z t hz (by omega)), okN_bi (pure209 x _ _ hx hal hy), sbit hz (by omega), subi_pr (by omega), bl_bi, nbeq_dec, bi_dec]
    rw [e]
    split
    · rw [← ha]; rfl
    · rw [← ha]
theorem pure252 (y z : Nat) (hy : y < 2 ^ 64) (hz : z < 2 ^ 64) (h0 : 0 < z) : PureAt Tryz.prog 252 [u64 y, u64 z] (tupV [u64 (y / z), u64 (y % z)]) := by
  have h := walkN (n := 64) (A := ansY (tupV [u64 (y / z), u64 (y % z)])) (L := (fun k i => jmpN Tryz.prog 39 lab252 (baseH Tryz.prog) RR (finY Tryz.prog [.tmp 4, .tmp 5] [23, 23]) (bodyC Tryz.f252) k [0,0,1,0,1,1] [u64 y, u64 z, u64 (divQ y z (64 - i)), u64 (divR y z (64 - i)), i64 (prW (64 - i))])) (fun k => ?_) (fun k i hi => ?_) 64 0 (by omega)
  · refine pure_fn mixed globs fn252 body252 nt252 rs252 RR_ok lab252 [23, 23] 65 ((s252 _ y z).trans ?_)
    rw [Nat.sub_zero, divQ_top hy, divR_top hy] at h
    exact h
  · show jmpN _ _ _ _ _ _ _ (k + 1) _ _ = _
    rw [jmpN_succ, l252, Nat.sub_self, down (by decide), if_pos rfl, divQ_zero, divR_zero]
  · show jmpN _ _ _ _ _ _ _ (k + 1) _ _ = _
    obtain ⟨t, ht⟩ : ∃ t, 64 - i = t + 1 := ⟨64 - i - 1, by omega⟩
    have hr : divR y z (t + 1) < z := Nat.mod_lt _ h0
    have hbt := bt_lt y t
    rw [jmpN_succ, l252, ht, down (by omega), if_neg (by omega), show prW (t + 1) = t from rfl, show 64 - (i + 1) = t by omega]
    have h63 : btN (divR y z (t + 1)) 63 = divR y z (t + 1) / 2 ^ 63 := by unfold btN; omega
    rw [okN_bi (pure75b _ 63 (by omega) (by decide)), okN_bi (pure75b y t hy (by omega)), sbit (by omega) (by decide), sbit hy (by omega), subi_pr (by omega), cnv_mod t (by omega), noshift (by omega), bi_ff, biased7 hz]
    have hq : g_or (divQ y z (t + 1)) (shlN 7 1 t) = divQ y z (t + 1) ||| 2 ^ t := by
      rw [g_or_eq, shl7_eq (by omega), Nat.one_mul, Nat.mod_eq_of_lt (Nat.pow_lt_pow_right (by decide) (by omega))]
    obtain ⟨d1, d2⟩ := div_step (a := y) (b := z) (i := t) h0
    have hm : g_addu (g_mulu (divR y z (t + 1)) 2) (btN y t) = (2 * divR y z (t + 1) + btN y t) % 2 ^ 64 := by rw [g_addu_eq, g_mulu_eq]; omega
    rw [hq, hm, biased7 (Nat.mod_lt _ (by decide)), h63]
    have hs : z ≤ 2 * divR y z (t + 1) + btN y t → g_subu ((2 * divR y z (t + 1) + btN y t) % 2 ^ 64) z = 2 * divR y z (t + 1) + btN y t - z := fun h => by rw [g_subu_eq]; omega
    by_cases hov : 2 ^ 63 ≤ divR y z (t + 1)
    · have e1 : divR y z (t + 1) / 2 ^ 63 = 1 := by omega
      rw [e1]
      have hc : z ≤ 2 * divR y z (t + 1) + btN y t := by omega
      simp only [n11, n10, bi_tt, bi_ff]
      rw [hs hc, (d1 hc).1, (d1 hc).2]
    · have e1 : divR y z (t + 1) / 2 ^ 63 = 0 := by omega
      rw [e1]
      simp only [n01, n00, bi_tt, bi_ff, bl_bi]
      rw [nble_dec, bi_dec, Nat.mod_eq_of_lt (show 2 * divR y z (t + 1) + btN y t < 2 ^ 64 by omega)]
      split
      · next hc =>
        have hs' := hs hc
        rw [Nat.mod_eq_of_lt (show 2 * divR y z (t + 1) + btN y t < 2 ^ 64 by omega)] at hs'
        rw [hs', (d1 hc).1, (d1 hc).2]
      · next hc => rw [(d2 hc).1, (d2 hc).2]
end Go.Eng
