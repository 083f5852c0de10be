
/- A part of the proof that the evaluator in GnC, and the driver in GnZ, answer as the model does; no conditions. -/
import Derived.Test.YtfmoohdaimlggaaGreatDoorGnHd
namespace Go.Eng
open Go.RowKit Go.Proofs
noncomputable section
/-! facts: zeros and ones, a range -/
def sp_kv (w z o : Nat) : Bool := decide (z &&& o = 0 ∧ z ≤ maskN w ∧ o ≤ maskN w)
def sp_rv (w l h : Nat) : Bool := decide (l ≤ h ∧ h ≤ maskN w)
def sp_kz (w z o : Nat) : Nat := bi (sp_kv w z o) z 0
def sp_ko (w z o : Nat) : Nat := bi (sp_kv w z o) o 0
def sp_rl (w l h : Nat) : Nat := bi (sp_rv w l h) l 0
def sp_rh (w l h : Nat) : Nat := bi (sp_rv w l h) h (maskN w)
def mlo (w a b c d : Nat) : Nat := max (sp_rl w a b) (sp_rl w c d)
def mhi (w a b c d : Nat) : Nat := min (sp_rh w a b) (sp_rh w c d)
def sp_mb (w a b c d : Nat) : Bool := decide (mlo w a b c d ≤ mhi w a b c d)
def sp_ml (w a b c d : Nat) : Nat := bi (sp_mb w a b c d) (mlo w a b c d) 0
def sp_mh (w a b c d : Nat) : Nat := bi (sp_mb w a b c d) (mhi w a b c d) (maskN w)
def nz (w a b c d : Nat) : Nat := sp_kz w a b ||| sp_kz w c d
def no (w a b c d : Nat) : Nat := sp_ko w a b ||| sp_ko w c d
def sp_nb (w a b c d : Nat) : Bool := decide (nz w a b c d &&& no w a b c d = 0)
def sp_nz (w a b c d : Nat) : Nat := bi (sp_nb w a b c d) (nz w a b c d) 0
def sp_no (w a b c d : Nat) : Nat := bi (sp_nb w a b c d) (no w a b c d) 0
/-- bits in which both ends agree, from the highest one down -/
def preA (l h : Nat) : Nat → Nat × Nat → Nat × Nat
  | 0, x => x
  | t + 1, x => if btN l t = btN h t then preA l h t (if btN l t = 1 then (x.1, x.2 ||| 2 ^ t) else (x.1 ||| 2 ^ t, x.2)) else x
def sp_pz (w l h : Nat) : Nat := (preA l h w (0, 0)).1
def sp_po (w l h : Nat) : Nat := (preA l h w (0, 0)).2
/-- one step of a reduction: the range, then the bits -/
def sp_sl (w z o l h : Nat) : Nat := sp_ml w l h o (maskN w - z)
def sp_sh (w z o l h : Nat) : Nat := sp_mh w l h o (maskN w - z)
def sp_sr (w z o l h : Nat) : Bool := sp_mb w l h o (maskN w - z)
def sz (w z o l h : Nat) : Nat := sp_nz w z o (sp_pz w (sp_sl w z o l h) (sp_sh w z o l h)) (sp_po w (sp_sl w z o l h) (sp_sh w z o l h))
def so (w z o l h : Nat) : Nat := sp_no w z o (sp_pz w (sp_sl w z o l h) (sp_sh w z o l h)) (sp_po w (sp_sl w z o l h) (sp_sh w z o l h))
def sb (w z o l h : Nat) : Bool := sp_nb w z o (sp_pz w (sp_sl w z o l h) (sp_sh w z o l h)) (sp_po w (sp_sl w z o l h) (sp_sh w z o l h))
def sp_t1 (w z o l h : Nat) : Nat := bi (sp_sr w z o l h) (sz w z o l h) z
def sp_t2 (w z o l h : Nat) : Nat := bi (sp_sr w z o l h) (so w z o l h) o
def sp_t3 (w z o l h : Nat) : Nat := bi (sp_sr w z o l h) (sp_sl w z o l h) l
def sp_t4 (w z o l h : Nat) : Nat := bi (sp_sr w z o l h) (sp_sh w z o l h) h
def sp_tb (w z o l h : Nat) : Bool := bi (sp_sr w z o l h) (sb w z o l h) false
def sp_vd (w z o l h : Nat) : Bool := decide (1 ≤ w ∧ w ≤ 64) && sp_kv w z o && sp_rv w l h && sp_tb w z o l h && decide (sp_t1 w z o l h = z ∧ sp_t2 w z o l h = o ∧ sp_t3 w z o l h = l ∧ sp_t4 w z o l h = h)
def pr2 (a b : Nat) : AV := aggV [u64 a, u64 b]
def fcA (w z o l h : Nat) : AV := aggV [i64 w, u64 z, u64 o, u64 l, u64 h]
def c0 (l : List AV) (i j : Nat) : Nat := (nthL (nthL l i).cs j).p
def kN (k : Nat) (f : Nat → Nat → Nat → AV) : Nat × Native := (k, natP Tryz.prog k [3, 36] fun l => f (nthL l 0).p (c0 l 1 0) (c0 l 1 1))
def rN (k : Nat) (f : Nat → Nat → Nat → AV) : Nat × Native := (k, natP Tryz.prog k [3, 38] fun l => f (nthL l 0).p (c0 l 1 0) (c0 l 1 1))
def kN2 (k : Nat) (f : Nat → Nat → Nat → Nat → Nat → AV) : Nat × Native := (k, natP Tryz.prog k [3, 36, 36] fun l => f (nthL l 0).p (c0 l 1 0) (c0 l 1 1) (c0 l 2 0) (c0 l 2 1))
def rN2 (k : Nat) (f : Nat → Nat → Nat → Nat → Nat → AV) : Nat × Native := (k, natP Tryz.prog k [3, 38, 38] fun l => f (nthL l 0).p (c0 l 1 0) (c0 l 1 1) (c0 l 2 0) (c0 l 2 1))
def fN (k : Nat) (f : Nat → Nat → Nat → Nat → Nat → AV) : Nat × Native := (k, natP Tryz.prog k [40] fun l => f (c0 l 0 0) (c0 l 0 1) (c0 l 0 2) (c0 l 0 3) (c0 l 0 4))
def NtY : Nat → Option Native := ntL [(68, natP Tryz.prog 68 [3] fun l => u64 (maskN (nthL l 0).p)), (222, natP Tryz.prog 222 [3] fun l => u64 (maskN (nthL l 0).p)), (130, natP Tryz.prog 130 [3] fun l => i64 (clampN (nthL l 0).p)), (74, natP Tryz.prog 74 [3] fun l => i64 (clampN (nthL l 0).p)), (79, natP Tryz.prog 79 [3] fun l => i64 (clampN (nthL l 0).p)),
  kN 80 (fun w z o => bV (sp_kv w z o)), kN 155 (fun w z o => bV (sp_kv w z o)), rN 81 (fun w l h => bV (sp_rv w l h)), rN 156 (fun w l h => bV (sp_rv w l h)), kN 221 (fun w z o => pr2 (sp_kz w z o) (sp_ko w z o)), kN 258 (fun w z o => pr2 (sp_kz w z o) (sp_ko w z o)), rN 220 (fun w l h => pr2 (sp_rl w l h) (sp_rh w l h)), rN 257 (fun w l h => pr2 (sp_rl w l h) (sp_rh w l h)),
  (84, natP Tryz.prog 84 [3] fun l => pr2 0 (maskN (nthL l 0).p)), (159, natP Tryz.prog 159 [3] fun l => pr2 0 (maskN (nthL l 0).p)), (83, natP Tryz.prog 83 [3] fun _ => pr2 0 0), (158, natP Tryz.prog 158 [] fun _ => pr2 0 0), (75, natP Tryz.prog 75 [23, 3] fun l => u64 (sp_bit (nthL l 0).p (nthL l 1).p))]
def RY : Rec := evN Tryz.prog NtY (fun _ => false) 2
def NtZ : Nat → Option Native := ntL [(84, natP Tryz.prog 84 [3] fun l => pr2 0 (maskN (nthL l 0).p)), (83, natP Tryz.prog 83 [3] fun _ => pr2 0 0), (222, natP Tryz.prog 222 [3] fun l => u64 (maskN (nthL l 0).p)), rN2 152 (fun w a b c d => tupV [pr2 (sp_ml w a b c d) (sp_mh w a b c d), bV (sp_mb w a b c d)]), rN2 223 (fun w a b c d => tupV [pr2 (sp_ml w a b c d) (sp_mh w a b c d), bV (sp_mb w a b c d)]),
  kN2 153 (fun w a b c d => tupV [pr2 (sp_nz w a b c d) (sp_no w a b c d), bV (sp_nb w a b c d)]), kN2 224 (fun w a b c d => tupV [pr2 (sp_nz w a b c d) (sp_no w a b c d), bV (sp_nb w a b c d)]), rN 154 (fun w l h => pr2 (sp_pz w l h) (sp_po w l h)), rN 225 (fun w l h => pr2 (sp_pz w l h) (sp_po w l h)),
  (79, natP Tryz.prog 79 [3] fun l => i64 (clampN (nthL l 0).p)), kN 80 (fun w z o => bV (sp_kv w z o)), kN 155 (fun w z o => bV (sp_kv w z o)), rN 81 (fun w l h => bV (sp_rv w l h)), rN 156 (fun w l h => bV (sp_rv w l h)),
  fN 82 (fun w z o l h => tupV [fcA w (sp_t1 w z o l h) (sp_t2 w z o l h) (sp_t3 w z o l h) (sp_t4 w z o l h), bV (sp_tb w z o l h)]), fN 157 (fun w z o l h => tupV [fcA w (sp_t1 w z o l h) (sp_t2 w z o l h) (sp_t3 w z o l h) (sp_t4 w z o l h), bV (sp_tb w z o l h)]), fN 85 (fun w z o l h => bV (sp_vd w z o l h)), (86, natP Tryz.prog 86 [3] fun l => fcA (clampN (nthL l 0).p) 0 0 0 (maskN (nthL l 0).p))]
def RZ : Rec := evN Tryz.prog NtZ (fun _ => false) 2
def lab154 : Lab := labT [([0,0,1,0,1,1], [(3,100),(4,100),(5,100),(6,0)])]
def lab225 : Lab := labT [([0,0,1,0,1,1], [(3,100),(4,100),(5,100),(6,0)])]
end
theorem RY_ok : RecOk Tryz.prog RY := evN_ok mixed (by repeat (first | exact ntL_nil | refine ntL_cons ?_)) noGor 2
theorem RZ_ok : RecOk Tryz.prog RZ := evN_ok mixed (by repeat (first | exact ntL_nil | refine ntL_cons ?_)) noGor 2
end Go.Eng
namespace Go.Eng
open Go.RowKit Go.Proofs
set_option maxRecDepth 4000
theorem s83 (J : Jmp) (w : Nat) : (compY Tryz.prog 4 (fun _ => none) (finY Tryz.prog [.cell 2 36] [36]) J [] (bodyC Tryz.f83) (finY Tryz.prog [.cell 2 36] [36]) []).run RY (setArgs 0 [i64 w] noFr) (baseH Tryz.prog) =
  (ansY (aggV [(u64 0), (u64 0)])) := by kernel_rfl
theorem s84 (J : Jmp) (w : Nat) : (compY Tryz.prog 6 (fun _ => none) (finY Tryz.prog [.cell 2 38] [38]) J [] (bodyC Tryz.f84) (finY Tryz.prog [.cell 2 38] [38]) []).run RY (setArgs 0 [i64 w] noFr) (baseH Tryz.prog) =
  (bi (nbeq (okN (PureAt Tryz.prog 68 [(i64 w)] (u64 (maskN w)))) 1)
 (ansY (aggV [(u64 0), (u64 (maskN w))]))
 (failR 301)) := by kernel_rfl
theorem s158 (J : Jmp) : (compY Tryz.prog 2 (fun _ => none) (finY Tryz.prog [.cell 0 36] [36]) J [] (bodyC Tryz.f158) (finY Tryz.prog [.cell 0 36] [36]) []).run RY (setArgs 0 [] noFr) (baseH Tryz.prog) =
  (ansY (aggV [(u64 0), (u64 0)])) := by kernel_rfl
theorem s159 (J : Jmp) (w : Nat) : (compY Tryz.prog 6 (fun _ => none) (finY Tryz.prog [.cell 2 38] [38]) J [] (bodyC Tryz.f159) (finY Tryz.prog [.cell 2 38] [38]) []).run RY (setArgs 0 [i64 w] noFr) (baseH Tryz.prog) =
  (bi (nbeq (okN (PureAt Tryz.prog 222 [(i64 w)] (u64 (maskN w)))) 1)
 (ansY (aggV [(u64 0), (u64 (maskN w))]))
 (failR 301)) := by kernel_rfl
theorem s79 (J : Jmp) (w : Nat) : (compY Tryz.prog 6 (fun _ => none) (finY Tryz.prog [.tmp 2] [3]) J [] (bodyC Tryz.f79) (finY Tryz.prog [.tmp 2] [3]) []).run RY (setArgs 0 [i64 w] noFr) (baseH Tryz.prog) =
  (ansY (i64 (bi (nble 9223372036854775809 (biased 3 (bi (nble (biased 3 w) 9223372036854775872) w 64))) (bi (nble (biased 3 w) 9223372036854775872) w 64) 1))) := by kernel_rfl
theorem s35 (J : Jmp) (w : Nat) : (compY Tryz.prog 11 (fun _ => none) (finY Tryz.prog [.cell 2 40] [40]) J [] (bodyC Tryz.f35) (finY Tryz.prog [.cell 2 40] [40]) []).run RZ (setArgs 0 [i64 w] noFr) (baseH Tryz.prog) =
  (bi (nbeq (okN (PureAt Tryz.prog 79 [(i64 w)] (i64 (clampN w)))) 1)
 (bi (nbeq (okN (PureAt Tryz.prog 83 [(i64 (clampN w))] (aggV [(u64 0), (u64 0)]))) 1)
 (bi (nbeq (okN (PureAt Tryz.prog 84 [(i64 (clampN w))] (aggV [(u64 0), (u64 (maskN (clampN w)))]))) 1)
 (ansY (aggV [(i64 (clampN w)), (u64 0), (u64 0), (u64 0), (u64 (maskN (clampN w)))]))
 (failR 301))
 (failR 301))
 (failR 301)) := by kernel_rfl
theorem s86 (J : Jmp) (w : Nat) : (compY Tryz.prog 9 (fun _ => none) (finY Tryz.prog [.cell 2 40] [40]) J [] (bodyC Tryz.f86) (finY Tryz.prog [.cell 2 40] [40]) []).run RY (setArgs 0 [i64 w] noFr) (baseH Tryz.prog) =
  (bi (nbeq (okN (PureAt Tryz.prog 74 [(i64 w)] (i64 (clampN w)))) 1)
 (bi (nbeq (okN (PureAt Tryz.prog 158 [] (aggV [(u64 0), (u64 0)]))) 1)
 (bi (nbeq (okN (PureAt Tryz.prog 159 [(i64 w)] (aggV [(u64 0), (u64 (maskN w))]))) 1)
 (ansY (aggV [(i64 (clampN w)), (u64 0), (u64 0), (u64 0), (u64 (maskN w))]))
 (failR 301))
 (failR 301))
 (failR 301)) := by kernel_rfl
theorem s152 (J : Jmp) (w a b c d : Nat) : (compY Tryz.prog 36 (fun _ => none) (finY Tryz.prog [.cell 6 38, .tmp 7] [38, 4]) J [] (bodyC Tryz.f152) (finY Tryz.prog [.cell 6 38, .tmp 7] [38, 4]) []).run RY (setArgs 0 [i64 w, aggV [u64 a, u64 b], aggV [u64 c, u64 d]] noFr) (baseH Tryz.prog) =
  (bi (nbeq (okN (PureAt Tryz.prog 220 [(i64 w), (aggV [(u64 a), (u64 b)])] (aggV [(u64 (sp_rl w a b)), (u64 (sp_rh w a b))]))) 1)
 (bi (eqA 1000 (aggV [(u64 c), (u64 d)]) (aggV [(u64 c), (u64 d)]))
 (bi (eqA 1000 (i64 w) (i64 w))
 (bi (nbeq (okN (PureAt Tryz.prog 220 [(i64 w), (aggV [(u64 c), (u64 d)])] (aggV [(u64 (sp_rl w c d)), (u64 (sp_rh w c d))]))) 1)
 (bi (nbeq (bi (nb (nble (biased 7 (bi (nble (biased 7 (sp_rl w a b)) (biased 7 (sp_rl w c d))) (sp_rl w c d) (sp_rl w a b))) (biased 7 (bi (nble (biased 7 (sp_rh w a b)) (biased 7 (sp_rh w c d))) (sp_rh w a b) (sp_rh w c d))))) 1 0) 1)
 (bi (nbeq (okN (PureAt Tryz.prog 84 [(i64 w)] (aggV [(u64 0), (u64 (maskN w))]))) 1)
 (ansY (tupV [(aggV [(u64 0), (u64 (maskN w))]), (mk1 8 0)]))
 (failR 301))
 (ansY (tupV [(aggV [(u64 (bi (nble (biased 7 (sp_rl w a b)) (biased 7 (sp_rl w c d))) (sp_rl w c d) (sp_rl w a b))), (u64 (bi (nble (biased 7 (sp_rh w a b)) (biased 7 (sp_rh w c d))) (sp_rh w a b) (sp_rh w c d)))]), (mk1 8 1)])))
 (failR 301))
 (failR 90))
 (failR 90))
 (failR 301)) := by kernel_rfl
theorem s223 (J : Jmp) (w a b c d : Nat) : (compY Tryz.prog 34 (fun _ => none) (finY Tryz.prog [.cell 6 38, .tmp 7] [38, 4]) J [] (bodyC Tryz.f223) (finY Tryz.prog [.cell 6 38, .tmp 7] [38, 4]) []).run RY (setArgs 0 [i64 w, aggV [u64 a, u64 b], aggV [u64 c, u64 d]] noFr) (baseH Tryz.prog) =
  (bi (nbeq (okN (PureAt Tryz.prog 257 [(i64 w), (aggV [(u64 a), (u64 b)])] (aggV [(u64 (sp_rl w a b)), (u64 (sp_rh w a b))]))) 1)
 (bi (eqA 1000 (aggV [(u64 c), (u64 d)]) (aggV [(u64 c), (u64 d)]))
 (bi (eqA 1000 (i64 w) (i64 w))
 (bi (nbeq (okN (PureAt Tryz.prog 257 [(i64 w), (aggV [(u64 c), (u64 d)])] (aggV [(u64 (sp_rl w c d)), (u64 (sp_rh w c d))]))) 1)
 (bi (nbeq (bi (nb (nble (biased 7 (bi (nble (biased 7 (sp_rl w a b)) (biased 7 (sp_rl w c d))) (sp_rl w c d) (sp_rl w a b))) (biased 7 (bi (nble (biased 7 (sp_rh w a b)) (biased 7 (sp_rh w c d))) (sp_rh w a b) (sp_rh w c d))))) 1 0) 1)
 (bi (nbeq (okN (PureAt Tryz.prog 159 [(i64 w)] (aggV [(u64 0), (u64 (maskN w))]))) 1)
 (ansY (tupV [(aggV [(u64 0), (u64 (maskN w))]), (mk1 8 0)]))
 (failR 301))
 (ansY (tupV [(aggV [(u64 (bi (nble (biased 7 (sp_rl w a b)) (biased 7 (sp_rl w c d))) (sp_rl w c d) (sp_rl w a b))), (u64 (bi (nble (biased 7 (sp_rh w a b)) (biased 7 (sp_rh w c d))) (sp_rh w a b) (sp_rh w c d)))]), (mk1 8 1)])))
 (failR 301))
 (failR 90))
 (failR 90))
 (failR 301)) := by kernel_rfl
theorem s153 (J : Jmp) (w a b c d : Nat) : (compY Tryz.prog 34 (fun _ => none) (finY Tryz.prog [.cell 6 36, .tmp 7] [36, 4]) J [] (bodyC Tryz.f153) (finY Tryz.prog [.cell 6 36, .tmp 7] [36, 4]) []).run RY (setArgs 0 [i64 w, aggV [u64 a, u64 b], aggV [u64 c, u64 d]] noFr) (baseH Tryz.prog) =
  (bi (nbeq (okN (PureAt Tryz.prog 221 [(i64 w), (aggV [(u64 a), (u64 b)])] (aggV [(u64 (sp_kz w a b)), (u64 (sp_ko w a b))]))) 1)
 (bi (eqA 1000 (aggV [(u64 c), (u64 d)]) (aggV [(u64 c), (u64 d)]))
 (bi (eqA 1000 (i64 w) (i64 w))
 (bi (nbeq (okN (PureAt Tryz.prog 221 [(i64 w), (aggV [(u64 c), (u64 d)])] (aggV [(u64 (sp_kz w c d)), (u64 (sp_ko w c d))]))) 1)
 (bi (nbeq (bi (nb (nbeq (g_and (g_or (sp_kz w a b) (sp_kz w c d)) (g_or (sp_ko w a b) (sp_ko w c d))) 0)) 1 0) 1)
 (ansY (tupV [(aggV [(u64 0), (u64 0)]), (mk1 8 0)]))
 (ansY (tupV [(aggV [(u64 (g_or (sp_kz w a b) (sp_kz w c d))), (u64 (g_or (sp_ko w a b) (sp_ko w c d)))]), (mk1 8 1)])))
 (failR 301))
 (failR 90))
 (failR 90))
 (failR 301)) := by kernel_rfl
theorem s224 (J : Jmp) (w a b c d : Nat) : (compY Tryz.prog 34 (fun _ => none) (finY Tryz.prog [.cell 6 36, .tmp 7] [36, 4]) J [] (bodyC Tryz.f224) (finY Tryz.prog [.cell 6 36, .tmp 7] [36, 4]) []).run RY (setArgs 0 [i64 w, aggV [u64 a, u64 b], aggV [u64 c, u64 d]] noFr) (baseH Tryz.prog) =
  (bi (nbeq (okN (PureAt Tryz.prog 258 [(i64 w), (aggV [(u64 a), (u64 b)])] (aggV [(u64 (sp_kz w a b)), (u64 (sp_ko w a b))]))) 1)
 (bi (nbeq (okN (PureAt Tryz.prog 258 [(i64 w), (aggV [(u64 c), (u64 d)])] (aggV [(u64 (sp_kz w c d)), (u64 (sp_ko w c d))]))) 1)
 (bi (nbeq (bi (nb (nbeq (g_and (g_or (sp_kz w a b) (sp_kz w c d)) (g_or (sp_ko w a b) (sp_ko w c d))) 0)) 1 0) 1)
 (bi (nbeq (okN (PureAt Tryz.prog 158 [] (aggV [(u64 0), (u64 0)]))) 1)
 (ansY (tupV [(aggV [(u64 0), (u64 0)]), (mk1 8 0)]))
 (failR 301))
 (ansY (tupV [(aggV [(u64 (g_or (sp_kz w a b) (sp_kz w c d))), (u64 (g_or (sp_ko w a b) (sp_ko w c d)))]), (mk1 8 1)])))
 (failR 301))
 (failR 301)) := by kernel_rfl
theorem s154 (J : Jmp) (w l h : Nat) : (compY Tryz.prog 40 lab154 (finY Tryz.prog [.cell 4 36] [36]) J [] (bodyC Tryz.f154) (finY Tryz.prog [.cell 4 36] [36]) []).run RY (setArgs 0 [i64 w, aggV [u64 l, u64 h]] noFr) (baseH Tryz.prog) =
  (J [0, 0, 1, 0, 1, 1] [(AV.mk 16 0 0 1 0 [(u64 l), (u64 h)]), (AV.mk 16 0 0 1 0 [(u64 0), (u64 0)]), (AV.mk 16 0 0 1 0 [(u64 0), (u64 0)]), (i64 (g_subi w 1))]) := by kernel_rfl
theorem l154 (J : Jmp) (l h p q z o i : Nat) : lblY Tryz.prog 40 lab154 (baseH Tryz.prog) RY (finY Tryz.prog [.cell 4 36] [36]) (bodyC Tryz.f154) J [0,0,1,0,1,1] [bxD [u64 l, u64 h], bxD [u64 p, u64 q], bxD [u64 z, u64 o], i64 i] =
  (bi (nbeq (bi (nble 9223372036854775808 (biased 3 i)) 1 0) 1)
 (bi (nble 9223372036854775808 i)
 (failR 9)
 (bi (nbeq (bi (nb (nbeq (g_and (g_xor l h) (shlN 7 1 i)) 0)) 1 0) 1)
 (ansY (aggV [(u64 z), (u64 o)]))
 (bi (nbeq (bi (nb (nbeq (g_and l (shlN 7 1 i)) 0)) 1 0) 1)
 (J [0, 0, 1, 0, 1, 1] [(AV.mk 16 0 0 1 0 [(u64 l), (u64 h)]), (AV.mk 16 0 0 1 0 [(u64 p), (u64 q)]), (AV.mk 16 0 0 1 0 [(u64 z), (u64 (g_or o (shlN 7 1 i)))]), (i64 (g_subi i 1))])
 (J [0, 0, 1, 0, 1, 1] [(AV.mk 16 0 0 1 0 [(u64 l), (u64 h)]), (AV.mk 16 0 0 1 0 [(u64 p), (u64 q)]), (AV.mk 16 0 0 1 0 [(u64 (g_or z (shlN 7 1 i))), (u64 o)]), (i64 (g_subi i 1))]))))
 (ansY (aggV [(u64 z), (u64 o)]))) := by kernel_rfl
theorem s225 (J : Jmp) (w l h : Nat) : (compY Tryz.prog 45 lab225 (finY Tryz.prog [.cell 4 36] [36]) J [] (bodyC Tryz.f225) (finY Tryz.prog [.cell 4 36] [36]) []).run RY (setArgs 0 [i64 w, aggV [u64 l, u64 h]] noFr) (baseH Tryz.prog) =
  (bi (nbeq (okN (PureAt Tryz.prog 158 [] (aggV [(u64 0), (u64 0)]))) 1)
 (J [0, 0, 1, 0, 1, 1] [(AV.mk 16 0 0 1 0 [(u64 l), (u64 h)]), (AV.mk 16 0 0 1 0 [(u64 0), (u64 0)]), (AV.mk 16 0 0 1 0 [(u64 0), (u64 0)]), (i64 (g_subi w 1))])
 (failR 301)) := by kernel_rfl
theorem l225 (J : Jmp) (l h p q z o i : Nat) : lblY Tryz.prog 45 lab225 (baseH Tryz.prog) RY (finY Tryz.prog [.cell 4 36] [36]) (bodyC Tryz.f225) J [0,0,1,0,1,1] [bxD [u64 l, u64 h], bxD [u64 p, u64 q], bxD [u64 z, u64 o], i64 i] =
  (bi (nbeq (bi (nble 9223372036854775808 (biased 3 i)) 1 0) 1)
 (bi (nbeq (okN (PureAt Tryz.prog 75 [(u64 l), (i64 i)] (u64 (sp_bit l i)))) 1)
 (bi (eqA 1000 (i64 i) (i64 i))
 (bi (eqA 1000 (u64 h) (u64 h))
 (bi (nbeq (okN (PureAt Tryz.prog 75 [(u64 h), (i64 i)] (u64 (sp_bit h i)))) 1)
 (bi (nbeq (bi (nbeq (sp_bit l i) (sp_bit h i)) 1 0) 1)
 (bi (nbeq (okN (PureAt Tryz.prog 75 [(u64 l), (i64 i)] (u64 (sp_bit l i)))) 1)
 (bi (nbeq (bi (nbeq (sp_bit l i) 1) 1 0) 1)
 (bi (nble 18446744073709551616 (cnvN 3 7 i))
 (failR 9)
 (J [0, 0, 1, 0, 1, 1] [(AV.mk 16 0 0 1 0 [(u64 l), (u64 h)]), (AV.mk 16 0 0 1 0 [(u64 p), (u64 q)]), (AV.mk 16 0 0 1 0 [(u64 z), (u64 (g_or o (shlN 7 1 (cnvN 3 7 i))))]), (i64 (g_subi i 1))]))
 (bi (nble 18446744073709551616 (cnvN 3 7 i))
 (failR 9)
 (J [0, 0, 1, 0, 1, 1] [(AV.mk 16 0 0 1 0 [(u64 l), (u64 h)]), (AV.mk 16 0 0 1 0 [(u64 p), (u64 q)]), (AV.mk 16 0 0 1 0 [(u64 (g_or z (shlN 7 1 (cnvN 3 7 i)))), (u64 o)]), (i64 (g_subi i 1))])))
 (failR 301))
 (ansY (aggV [(u64 z), (u64 o)])))
 (failR 301))
 (failR 90))
 (failR 90))
 (failR 301))
 (bi (nbeq (bi (nble 9223372036854775808 (biased 3 i)) 1 0) 0)
 (ansY (aggV [(u64 z), (u64 o)]))
 (failR 40))) := by kernel_rfl
theorem s220 (J : Jmp) (w l h : Nat) : (compY Tryz.prog 12 (fun _ => none) (finY Tryz.prog [.cell 4 38] [38]) J [] (bodyC Tryz.f220) (finY Tryz.prog [.cell 4 38] [38]) []).run RY (setArgs 0 [i64 w, aggV [u64 l, u64 h]] noFr) (baseH Tryz.prog) =
  (bi (nbeq (okN (PureAt Tryz.prog 81 [(i64 w), (aggV [(u64 l), (u64 h)])] (mk1 8 (bi (sp_rv w l h) 1 0)))) 1)
 (bi (nbeq (Nat.sub 1 (bi (sp_rv w l h) 1 0)) 1)
 (bi (nbeq (okN (PureAt Tryz.prog 84 [(i64 w)] (aggV [(u64 0), (u64 (maskN w))]))) 1)
 (ansY (aggV [(u64 0), (u64 (maskN w))]))
 (failR 301))
 (ansY (aggV [(u64 l), (u64 h)])))
 (failR 301)) := by kernel_rfl
theorem s257 (J : Jmp) (w l h : Nat) : (compY Tryz.prog 11 (fun _ => none) (finY Tryz.prog [.cell 4 38] [38]) J [] (bodyC Tryz.f257) (finY Tryz.prog [.cell 4 38] [38]) []).run RY (setArgs 0 [i64 w, aggV [u64 l, u64 h]] noFr) (baseH Tryz.prog) =
  (bi (nbeq (okN (PureAt Tryz.prog 156 [(i64 w), (aggV [(u64 l), (u64 h)])] (mk1 8 (bi (sp_rv w l h) 1 0)))) 1)
 (bi (nbeq (bi (sp_rv w l h) 1 0) 1)
 (ansY (aggV [(u64 l), (u64 h)]))
 (bi (nbeq (okN (PureAt Tryz.prog 159 [(i64 w)] (aggV [(u64 0), (u64 (maskN w))]))) 1)
 (ansY (aggV [(u64 0), (u64 (maskN w))]))
 (failR 301)))
 (failR 301)) := by kernel_rfl
theorem s221 (J : Jmp) (w z o : Nat) : (compY Tryz.prog 10 (fun _ => none) (finY Tryz.prog [.cell 4 36] [36]) J [] (bodyC Tryz.f221) (finY Tryz.prog [.cell 4 36] [36]) []).run RY (setArgs 0 [i64 w, aggV [u64 z, u64 o]] noFr) (baseH Tryz.prog) =
  (bi (nbeq (okN (PureAt Tryz.prog 80 [(i64 w), (aggV [(u64 z), (u64 o)])] (mk1 8 (bi (sp_kv w z o) 1 0)))) 1)
 (bi (nbeq (bi (sp_kv w z o) 1 0) 1)
 (ansY (aggV [(u64 z), (u64 o)]))
 (ansY (aggV [(u64 0), (u64 0)])))
 (failR 301)) := by kernel_rfl
theorem s258 (J : Jmp) (w z o : Nat) : (compY Tryz.prog 10 (fun _ => none) (finY Tryz.prog [.cell 4 36] [36]) J [] (bodyC Tryz.f258) (finY Tryz.prog [.cell 4 36] [36]) []).run RY (setArgs 0 [i64 w, aggV [u64 z, u64 o]] noFr) (baseH Tryz.prog) =
  (bi (nbeq (okN (PureAt Tryz.prog 155 [(i64 w), (aggV [(u64 z), (u64 o)])] (mk1 8 (bi (sp_kv w z o) 1 0)))) 1)
 (bi (nbeq (bi (sp_kv w z o) 1 0) 1)
 (ansY (aggV [(u64 z), (u64 o)]))
 (bi (nbeq (okN (PureAt Tryz.prog 158 [] (aggV [(u64 0), (u64 0)]))) 1)
 (ansY (aggV [(u64 0), (u64 0)]))
 (failR 301)))
 (failR 301)) := by kernel_rfl
theorem body83 : Tryz.f83.body = some (bodyC Tryz.f83) := by kernel_rfl
theorem fn83 : Tryz.prog.funcs[83]? = some Tryz.f83 := by kernel_rfl
theorem nt83 : Tryz.f83.ntmps = 4 := by kernel_rfl
theorem rs83 : Tryz.f83.results.toList = [.cell 2 36] := by kernel_rfl
theorem body84 : Tryz.f84.body = some (bodyC Tryz.f84) := by kernel_rfl
theorem fn84 : Tryz.prog.funcs[84]? = some Tryz.f84 := by kernel_rfl
theorem nt84 : Tryz.f84.ntmps = 6 := by kernel_rfl
theorem rs84 : Tryz.f84.results.toList = [.cell 2 38] := by kernel_rfl
theorem body158 : Tryz.f158.body = some (bodyC Tryz.f158) := by kernel_rfl
theorem fn158 : Tryz.prog.funcs[158]? = some Tryz.f158 := by kernel_rfl
theorem nt158 : Tryz.f158.ntmps = 2 := by kernel_rfl
theorem rs158 : Tryz.f158.results.toList = [.cell 0 36] := by kernel_rfl
theorem body159 : Tryz.f159.body = some (bodyC Tryz.f159) := by kernel_rfl
theorem fn159 : Tryz.prog.funcs[159]? = some Tryz.f159 := by kernel_rfl
theorem nt159 : Tryz.f159.ntmps = 6 := by kernel_rfl
theorem rs159 : Tryz.f159.results.toList = [.cell 2 38] := by kernel_rfl
theorem body79 : Tryz.f79.body = some (bodyC Tryz.f79) := by kernel_rfl
theorem fn79 : Tryz.prog.funcs[79]? = some Tryz.f79 := by kernel_rfl
theorem nt79 : Tryz.f79.ntmps = 6 := by kernel_rfl
theorem rs79 : Tryz.f79.results.toList = [.tmp 2] := by kernel_rfl
theorem body35 : Tryz.f35.body = some (bodyC Tryz.f35) := by kernel_rfl
theorem fn35 : Tryz.prog.funcs[35]? = some Tryz.f35 := by kernel_rfl
theorem nt35 : Tryz.f35.ntmps = 11 := by kernel_rfl
theorem rs35 : Tryz.f35.results.toList = [.cell 2 40] := by kernel_rfl
theorem body86 : Tryz.f86.body = some (bodyC Tryz.f86) := by kernel_rfl
theorem fn86 : Tryz.prog.funcs[86]? = some Tryz.f86 := by kernel_rfl
theorem nt86 : Tryz.f86.ntmps = 9 := by kernel_rfl
theorem rs86 : Tryz.f86.results.toList = [.cell 2 40] := by kernel_rfl
theorem body152 : Tryz.f152.body = some (bodyC Tryz.f152) := by kernel_rfl
theorem fn152 : Tryz.prog.funcs[152]? = some Tryz.f152 := by kernel_rfl
theorem nt152 : Tryz.f152.ntmps = 36 := by kernel_rfl
theorem rs152 : Tryz.f152.results.toList = [.cell 6 38, .tmp 7] := by kernel_rfl
theorem body223 : Tryz.f223.body = some (bodyC Tryz.f223) := by kernel_rfl
theorem fn223 : Tryz.prog.funcs[223]? = some Tryz.f223 := by kernel_rfl
theorem nt223 : Tryz.f223.ntmps = 34 := by kernel_rfl
theorem rs223 : Tryz.f223.results.toList = [.cell 6 38, .tmp 7] := by kernel_rfl
theorem body153 : Tryz.f153.body = some (bodyC Tryz.f153) := by kernel_rfl
theorem fn153 : Tryz.prog.funcs[153]? = some Tryz.f153 := by kernel_rfl
theorem nt153 : Tryz.f153.ntmps = 34 := by kernel_rfl
theorem rs153 : Tryz.f153.results.toList = [.cell 6 36, .tmp 7] := by kernel_rfl
theorem body224 : Tryz.f224.body = some (bodyC Tryz.f224) := by kernel_rfl
theorem fn224 : Tryz.prog.funcs[224]? = some Tryz.f224 := by kernel_rfl
theorem nt224 : Tryz.f224.ntmps = 34 := by kernel_rfl
theorem rs224 : Tryz.f224.results.toList = [.cell 6 36, .tmp 7] := by kernel_rfl
theorem body154 : Tryz.f154.body = some (bodyC Tryz.f154) := by kernel_rfl
theorem fn154 : Tryz.prog.funcs[154]? = some Tryz.f154 := by kernel_rfl
theorem nt154 : Tryz.f154.ntmps = 40 := by kernel_rfl
theorem rs154 : Tryz.f154.results.toList = [.cell 4 36] := by kernel_rfl
theorem body225 : Tryz.f225.body = some (bodyC Tryz.f225) := by kernel_rfl
theorem fn225 : Tryz.prog.funcs[225]? = some Tryz.f225 := by kernel_rfl
theorem nt225 : Tryz.f225.ntmps = 45 := by kernel_rfl
theorem rs225 : Tryz.f225.results.toList = [.cell 4 36] := by kernel_rfl
theorem body220 : Tryz.f220.body = some (bodyC Tryz.f220) := by kernel_rfl
theorem fn220 : Tryz.prog.funcs[220]? = some Tryz.f220 := by kernel_rfl
theorem nt220 : Tryz.f220.ntmps = 12 := by kernel_rfl
theorem rs220 : Tryz.f220.results.toList = [.cell 4 38] := by kernel_rfl
theorem body257 : Tryz.f257.body = some (bodyC Tryz.f257) := by kernel_rfl
theorem fn257 : Tryz.prog.funcs[257]? = some Tryz.f257 := by kernel_rfl
theorem nt257 : Tryz.f257.ntmps = 11 := by kernel_rfl
theorem rs257 : Tryz.f257.results.toList = [.cell 4 38] := by kernel_rfl
theorem body221 : Tryz.f221.body = some (bodyC Tryz.f221) := by kernel_rfl
theorem fn221 : Tryz.prog.funcs[221]? = some Tryz.f221 := by kernel_rfl
theorem nt221 : Tryz.f221.ntmps = 10 := by kernel_rfl
theorem rs221 : Tryz.f221.results.toList = [.cell 4 36] := by kernel_rfl
theorem body258 : Tryz.f258.body = some (bodyC Tryz.f258) := by kernel_rfl
theorem fn258 : Tryz.prog.funcs[258]? = some Tryz.f258 := by kernel_rfl
theorem nt258 : Tryz.f258.ntmps = 10 := by kernel_rfl
theorem rs258 : Tryz.f258.results.toList = [.cell 4 36] := by kernel_rfl
theorem clamp_val {w : Nat} (hw : w < 2 ^ 64) : clampN w = if 2 ^ 63 ≤ w ∨ w = 0 then 1 else if w ≤ 64 then w else 64 := by
  unfold clampN
  have e : nble (biased 3 w) 9223372036854775809 = decide ((w + 2 ^ 63) % 2 ^ 64 ≤ 9223372036854775809) := by rw [nble_dec, biased3]
  rw [e, bi_dec]
  by_cases h : 2 ^ 63 ≤ w ∨ w = 0
  · rw [if_pos h, if_pos (by omega)]; rfl
  · rw [if_neg h]
    by_cases h1 : w = 1
    · subst h1
      rw [if_pos (by omega), if_pos (by omega)]; rfl
    · have e2 : nble (biased 3 w) 9223372036854775872 = decide ((w + 2 ^ 63) % 2 ^ 64 ≤ 9223372036854775872) := by rw [nble_dec, biased3]
      rw [if_neg (by omega), e2, bi_dec]
      by_cases h2 : w ≤ 64
      · rw [if_pos h2, if_pos (by omega)]
      · rw [if_neg h2, if_neg (by omega)]
theorem clamp_in {w : Nat} (h1 : 1 ≤ w) (h2 : w ≤ 64) : clampN w = w := by rw [clamp_val (by omega), if_neg (by omega), if_pos h2]
theorem clamp_clamp {w : Nat} (hw : w < 2 ^ 64) : clampN (clampN w) = clampN w := clamp_in (clamp_range hw).1 (clamp_range hw).2
theorem mask_clamp {w : Nat} (hw : w < 2 ^ 64) : maskN (clampN w) = maskN w := by unfold maskN; rw [clamp_clamp hw]
theorem mask_lt {w : Nat} (hw : w < 2 ^ 64) : maskN w < 2 ^ 64 := by
  have := (clamp_range hw).2
  have hp : (2 : Nat) ^ clampN w ≤ 2 ^ 64 := Nat.pow_le_pow_right (by decide) this
  unfold maskN
  omega
theorem pure79 (w : Nat) (hw : w < 2 ^ 64) : PureAt Tryz.prog 79 [i64 w] (i64 (clampN w)) := by
  refine pure_fn mixed globs fn79 body79 nt79 rs79 RY_ok (fun _ => none) [3] 0 ((s79 _ w).trans ?_)
  rw [clamp_val hw]
  refine congrArg (fun n => ansY (i64 n)) ?_
  have e : nble (biased 3 w) 9223372036854775872 = decide ((w + 2 ^ 63) % 2 ^ 64 ≤ 9223372036854775872) := by rw [nble_dec, biased3]
  rw [e, bi_dec]
  by_cases h : 2 ^ 63 ≤ w ∨ w = 0
  · rw [if_pos h, if_pos (by omega), biased3, nble_f (by omega), bi_ff]
  · rw [if_neg h]
    by_cases h2 : w ≤ 64
    · rw [if_pos (show (w + 2 ^ 63) % 2 ^ 64 ≤ 9223372036854775872 by omega), if_pos h2, biased3, nble_t (by omega), bi_tt]
    · rw [if_neg (show ¬ (w + 2 ^ 63) % 2 ^ 64 ≤ 9223372036854775872 by omega), if_neg h2]; rfl
theorem pure83 (w : Nat) : PureAt Tryz.prog 83 [i64 w] (pr2 0 0) := by
  refine pure_fn mixed globs fn83 body83 nt83 rs83 RY_ok (fun _ => none) [36] 0 ((s83 _ w).trans ?_)
  rfl
theorem pure158 : PureAt Tryz.prog 158 [] (pr2 0 0) := by
  refine pure_fn mixed globs fn158 body158 nt158 rs158 RY_ok (fun _ => none) [36] 0 ((s158 _).trans ?_)
  rfl
theorem pure84 (w : Nat) (hw : w < 2 ^ 64) : PureAt Tryz.prog 84 [i64 w] (pr2 0 (maskN w)) := by
  refine pure_fn mixed globs fn84 body84 nt84 rs84 RY_ok (fun _ => none) [38] 0 ((s84 _ w).trans ?_)
  exact okN_bi (pure68 w hw) _ _
theorem pure159 (w : Nat) (hw : w < 2 ^ 64) : PureAt Tryz.prog 159 [i64 w] (pr2 0 (maskN w)) := by
  refine pure_fn mixed globs fn159 body159 nt159 rs159 RY_ok (fun _ => none) [38] 0 ((s159 _ w).trans ?_)
  exact okN_bi (pure222 w hw) _ _
theorem pure35 (w : Nat) (hw : w < 2 ^ 64) : PureAt Tryz.prog 35 [i64 w] (fcA (clampN w) 0 0 0 (maskN w)) := by
  refine pure_fn mixed globs fn35 body35 nt35 rs35 RZ_ok (fun _ => none) [40] 0 ((s35 _ w).trans ?_)
  have hc : clampN w < 2 ^ 64 := by have := (clamp_range hw).2; omega
  refine (okN_bi (pure79 w hw) _ _).trans ((okN_bi (pure83 _) _ _).trans ((okN_bi (pure84 _ hc) _ _).trans ?_))
  rw [mask_clamp hw]; rfl
theorem pure86 (w : Nat) (hw : w < 2 ^ 64) : PureAt Tryz.prog 86 [i64 w] (fcA (clampN w) 0 0 0 (maskN w)) := by
  refine pure_fn mixed globs fn86 body86 nt86 rs86 RY_ok (fun _ => none) [40] 0 ((s86 _ w).trans ?_)
  exact (okN_bi (pure74 w) _ _).trans ((okN_bi pure158 _ _).trans ((okN_bi (pure159 w hw) _ _).trans rfl))
def Lt2 (a b : Nat) : Prop := a < 2 ^ 64 ∧ b < 2 ^ 64
theorem bS1 (c : Bool) {α : Type} (x y : α) : bi (nbeq (Nat.sub 1 (bi c 1 0)) 1) x y = bi c y x := by cases c <;> rfl
theorem rl_lt {w a b : Nat} (h : Lt2 a b) : sp_rl w a b < 2 ^ 64 := by unfold sp_rl; cases sp_rv w a b; exact (by decide : (0 : Nat) < 2 ^ 64); exact h.1
theorem rh_lt {w a b : Nat} (hw : w < 2 ^ 64) (h : Lt2 a b) : sp_rh w a b < 2 ^ 64 := by unfold sp_rh; cases sp_rv w a b; exact mask_lt hw; exact h.2
theorem eqA_pr (a b : Nat) : eqA 1000 (aggV [u64 a, u64 b]) (aggV [u64 a, u64 b]) = true := eqA_agg 999 _ _ _ _ _ _ fun c hc => by
  have h2 : c = u64 a ∨ c = u64 b := by simpa using hc
  rcases h2 with rfl | rfl <;> exact eqA_agg 998 _ _ _ _ _ _ fun c hc => by cases hc
theorem maxb (a b : Nat) : bi (nble a b) b a = max a b := by rw [nble_dec, bi_dec]; split <;> omega
theorem minb (a b : Nat) : bi (nble a b) a b = min a b := by rw [nble_dec, bi_dec]; split <;> omega
theorem meet_r (w a b c d : Nat) (X : RL) (hX : X = ansY (tupV [aggV [u64 0, u64 (maskN w)], mk1 8 0])) : bi (nbeq (bi (nb (nble (max (sp_rl w a b) (sp_rl w c d)) (min (sp_rh w a b) (sp_rh w c d)))) 1 0) 1) X (ansY (tupV [aggV [u64 (max (sp_rl w a b) (sp_rl w c d)), u64 (min (sp_rh w a b) (sp_rh w c d))], mk1 8 1])) = ansY (tupV [pr2 (sp_ml w a b c d) (sp_mh w a b c d), bV (sp_mb w a b c d)]) := by
  subst hX
  rw [bl_bi, nble_dec]
  have e : sp_mb w a b c d = decide (max (sp_rl w a b) (sp_rl w c d) ≤ min (sp_rh w a b) (sp_rh w c d)) := rfl
  unfold sp_ml sp_mh
  rw [e]
  by_cases h : max (sp_rl w a b) (sp_rl w c d) ≤ min (sp_rh w a b) (sp_rh w c d)
  · rw [decide_eq_true h]; rfl
  · rw [decide_eq_false h]; rfl
theorem pure152 (w a b c d : Nat) (hw : w < 2 ^ 64) (h1 : Lt2 a b) (h2 : Lt2 c d) (q1 : PureAt Tryz.prog 220 [i64 w, aggV [u64 a, u64 b]] (aggV [u64 (sp_rl w a b), u64 (sp_rh w a b)])) (q2 : PureAt Tryz.prog 220 [i64 w, aggV [u64 c, u64 d]] (aggV [u64 (sp_rl w c d), u64 (sp_rh w c d)])) : PureAt Tryz.prog 152 [i64 w, aggV [u64 a, u64 b], aggV [u64 c, u64 d]] (tupV [pr2 (sp_ml w a b c d) (sp_mh w a b c d), bV (sp_mb w a b c d)]) := by
  refine pure_fn mixed globs fn152 body152 nt152 rs152 RY_ok (fun _ => none) [38, 4] 0 ((s152 _ w a b c d).trans ?_)
  rw [okN_bi q1, eqA_pr, bi_tt, eqa_i, bi_tt, okN_bi q2, biased7 (rl_lt h1), biased7 (rl_lt h2), biased7 (rh_lt hw h1), biased7 (rh_lt hw h2), maxb, minb, biased7 (by have := rl_lt (w := w) h1; have := rl_lt (w := w) h2; omega), biased7 (by have := rh_lt hw h1; omega)]
  exact meet_r w a b c d _ (okN_bi (pure84 w hw) _ _)
theorem pure223 (w a b c d : Nat) (hw : w < 2 ^ 64) (h1 : Lt2 a b) (h2 : Lt2 c d) (q1 : PureAt Tryz.prog 257 [i64 w, aggV [u64 a, u64 b]] (aggV [u64 (sp_rl w a b), u64 (sp_rh w a b)])) (q2 : PureAt Tryz.prog 257 [i64 w, aggV [u64 c, u64 d]] (aggV [u64 (sp_rl w c d), u64 (sp_rh w c d)])) : PureAt Tryz.prog 223 [i64 w, aggV [u64 a, u64 b], aggV [u64 c, u64 d]] (tupV [pr2 (sp_ml w a b c d) (sp_mh w a b c d), bV (sp_mb w a b c d)]) := by
  refine pure_fn mixed globs fn223 body223 nt223 rs223 RY_ok (fun _ => none) [38, 4] 0 ((s223 _ w a b c d).trans ?_)
  rw [okN_bi q1, eqA_pr, bi_tt, eqa_i, bi_tt, okN_bi q2, biased7 (rl_lt h1), biased7 (rl_lt h2), biased7 (rh_lt hw h1), biased7 (rh_lt hw h2), maxb, minb, biased7 (by have := rl_lt (w := w) h1; have := rl_lt (w := w) h2; omega), biased7 (by have := rh_lt hw h1; omega)]
  exact meet_r w a b c d _ (okN_bi (pure159 w hw) _ _)
theorem meet_k (w a b c d : Nat) (X : RL) (hX : X = ansY (tupV [aggV [u64 0, u64 0], mk1 8 0])) : bi (nbeq (bi (nb (nbeq (g_and (g_or (sp_kz w a b) (sp_kz w c d)) (g_or (sp_ko w a b) (sp_ko w c d))) 0)) 1 0) 1) X (ansY (tupV [aggV [u64 (g_or (sp_kz w a b) (sp_kz w c d)), u64 (g_or (sp_ko w a b) (sp_ko w c d))], mk1 8 1])) = ansY (tupV [pr2 (sp_nz w a b c d) (sp_no w a b c d), bV (sp_nb w a b c d)]) := by
  subst hX
  rw [bl_bi, nbeq_dec, g_and_eq, g_or_eq, g_or_eq]
  have e : sp_nb w a b c d = decide ((sp_kz w a b ||| sp_kz w c d) &&& (sp_ko w a b ||| sp_ko w c d) = 0) := rfl
  unfold sp_nz sp_no
  rw [e]
  by_cases h : (sp_kz w a b ||| sp_kz w c d) &&& (sp_ko w a b ||| sp_ko w c d) = 0
  · rw [decide_eq_true h]; rfl
  · rw [decide_eq_false h]; rfl
theorem pure153 (w a b c d : Nat) (q1 : PureAt Tryz.prog 221 [i64 w, aggV [u64 a, u64 b]] (aggV [u64 (sp_kz w a b), u64 (sp_ko w a b)])) (q2 : PureAt Tryz.prog 221 [i64 w, aggV [u64 c, u64 d]] (aggV [u64 (sp_kz w c d), u64 (sp_ko w c d)])) : PureAt Tryz.prog 153 [i64 w, aggV [u64 a, u64 b], aggV [u64 c, u64 d]] (tupV [pr2 (sp_nz w a b c d) (sp_no w a b c d), bV (sp_nb w a b c d)]) := by
  refine pure_fn mixed globs fn153 body153 nt153 rs153 RY_ok (fun _ => none) [36, 4] 0 ((s153 _ w a b c d).trans ?_)
  rw [okN_bi q1, eqA_pr, bi_tt, eqa_i, bi_tt, okN_bi q2]
  exact meet_k w a b c d _ rfl
theorem pure224 (w a b c d : Nat) (q1 : PureAt Tryz.prog 258 [i64 w, aggV [u64 a, u64 b]] (aggV [u64 (sp_kz w a b), u64 (sp_ko w a b)])) (q2 : PureAt Tryz.prog 258 [i64 w, aggV [u64 c, u64 d]] (aggV [u64 (sp_kz w c d), u64 (sp_ko w c d)])) : PureAt Tryz.prog 224 [i64 w, aggV [u64 a, u64 b], aggV [u64 c, u64 d]] (tupV [pr2 (sp_nz w a b c d) (sp_no w a b c d), bV (sp_nb w a b c d)]) := by
  refine pure_fn mixed globs fn224 body224 nt224 rs224 RY_ok (fun _ => none) [36, 4] 0 ((s224 _ w a b c d).trans ?_)
  rw [okN_bi q1, okN_bi q2]
  exact meet_k w a b c d _ (okN_bi pure158 _ _)
/-- the highest bits first -/
theorem walkP (l h : Nat) (L : Nat → Nat → Nat × Nat → RL) (A : Nat × Nat → RL) (hend : ∀ k x, L (k + 1) 0 x = A x) (hstep : ∀ k t x, t < 64 → L (k + 1) (t + 1) x = if btN l t = btN h t then L k t (if btN l t = 1 then (x.1, x.2 ||| 2 ^ t) else (x.1 ||| 2 ^ t, x.2)) else A x) : ∀ t, t ≤ 64 → ∀ e x, L (t + 1 + e) t x = A (preA l h t x) := by
  intro t
  induction t with
  | zero => intro _ e x; rw [show 0 + 1 + e = e + 1 by omega]; exact hend e x
  | succ t ih =>
    intro ht e x
    rw [show t + 1 + 1 + e = (t + 1 + e) + 1 by omega, hstep _ _ _ (by omega), preA]
    split
    · exact ih (by omega) e _
    · rfl
theorem bit_and {l i : Nat} (hi : i < 64) : g_and l (shlN 7 1 i) = 2 ^ i * btN l i := by
  rw [g_and_eq, shl7_eq hi, Nat.one_mul, Nat.mod_eq_of_lt (Nat.pow_lt_pow_right (by decide) hi)]
  refine Nat.eq_of_testBit_eq fun j => ?_
  rw [Nat.testBit_and, Nat.testBit_two_pow]
  have hb : btN l i = 0 ∨ btN l i = 1 := by have := bt_lt l i; omega
  by_cases hj : i = j
  · subst hj
    rw [bt_test]
    rcases hb with h | h <;> rw [h]
    · simp
    · simp
  · rw [decide_eq_false hj, Bool.and_false]
    rcases hb with h | h <;> rw [h]
    · simp
    · rw [Nat.mul_one, Nat.testBit_two_pow, decide_eq_false hj]
theorem bit_xor (l h i : Nat) : btN (g_xor l h) i = 0 ↔ btN l i = btN h i := by
  rw [g_xor_eq]
  have ht : (l ^^^ h).testBit i = (l.testBit i ^^ h.testBit i) := Nat.testBit_xor ..
  rw [bt_test, bt_test, bt_test] at ht
  have a := bt_lt (l ^^^ h) i; have b := bt_lt l i; have c := bt_lt h i
  have hb : btN l i = 0 ∨ btN l i = 1 := by omega
  have hc : btN h i = 0 ∨ btN h i = 1 := by omega
  rcases hb with hb | hb <;> rcases hc with hc | hc <;> rw [hb, hc] at ht ⊢ <;> simp at ht <;> omega
theorem shl1 {i : Nat} (hi : i < 64) (z : Nat) : g_or z (shlN 7 1 i) = z ||| 2 ^ i := by rw [g_or_eq, shl7_eq hi, Nat.one_mul, Nat.mod_eq_of_lt (Nat.pow_lt_pow_right (by decide) hi)]
theorem mul_zero_iff {i b : Nat} : 2 ^ i * b = 0 ↔ b = 0 := by
  have := Nat.two_pow_pos i
  rw [Nat.mul_eq_zero]; omega
theorem pure154 (w l h : Nat) (h1 : 1 ≤ w) (h2 : w ≤ 64) : PureAt Tryz.prog 154 [i64 w, aggV [u64 l, u64 h]] (pr2 (sp_pz w l h) (sp_po w l h)) := by
  have key := walkP l h (fun k t x => jmpN Tryz.prog 40 lab154 (baseH Tryz.prog) RY (finY Tryz.prog [.cell 4 36] [36]) (bodyC Tryz.f154) k [0,0,1,0,1,1] [bxD [u64 l, u64 h], bxD [u64 0, u64 0], bxD [u64 x.1, u64 x.2], i64 (prW t)]) (fun x => ansY (aggV [u64 x.1, u64 x.2])) (fun k x => ?_) (fun k t x ht => ?_) w h2 0 (0, 0)
  · refine pure_fn mixed globs fn154 body154 nt154 rs154 RY_ok lab154 [36] (w + 1) ((s154 _ w l h).trans ?_)
    rw [subi_pr (by omega)]
    exact key
  · show jmpN _ _ _ _ _ _ _ (k + 1) _ _ = _
    rw [jmpN_succ, l154, down (by decide), if_pos rfl]
  · show jmpN _ _ _ _ _ _ _ (k + 1) _ _ = _
    rw [jmpN_succ, l154, down (by omega), if_neg (by omega), show prW (t + 1) = t from rfl, nble_f (show ¬ 9223372036854775808 ≤ t by omega), bi_ff, bit_and ht, bit_and ht, shl1 ht, shl1 ht, subi_pr (by omega), bl_bi, bl_bi, nbeq_dec, nbeq_dec]
    have hb : btN l t = 0 ∨ btN l t = 1 := by have := bt_lt l t; omega
    by_cases he : btN l t = btN h t
    · rw [if_pos he, (bit_xor l h t).2 he, decide_eq_true (Nat.mul_zero _), nb_t, bi_ff]
      rcases hb with hb | hb
      · rw [hb, decide_eq_true (Nat.mul_zero _), nb_t, bi_ff, if_neg (by decide)]; rfl
      · rw [hb, decide_eq_false (by rw [mul_zero_iff]; decide), nb_f, bi_tt, if_pos rfl]; rfl
    · rw [if_neg he, decide_eq_false (fun h' => he ((bit_xor l h t).1 (mul_zero_iff.1 h'))), nb_f, bi_tt]
theorem down0 {α : Type} {t : Nat} (h : t < 2 ^ 62) (X Y : α) : bi (nbeq (bi (nble 9223372036854775808 (biased 3 (prW t))) 1 0) 0) X Y = if t = 0 then X else Y := by
  rw [b0, biased3]
  unfold prW
  by_cases h0 : t = 0
  · rw [if_pos h0, if_pos h0, nble_f (by omega)]; rfl
  · rw [if_neg h0, if_neg h0, nble_t (by omega)]; rfl
theorem pure225 (w l h : Nat) (h1 : 1 ≤ w) (h2 : w ≤ 64) (hl : l < 2 ^ 64) (hh : h < 2 ^ 64) : PureAt Tryz.prog 225 [i64 w, aggV [u64 l, u64 h]] (pr2 (sp_pz w l h) (sp_po w l h)) := by
  have key := walkP l h (fun k t x => jmpN Tryz.prog 45 lab225 (baseH Tryz.prog) RY (finY Tryz.prog [.cell 4 36] [36]) (bodyC Tryz.f225) k [0,0,1,0,1,1] [bxD [u64 l, u64 h], bxD [u64 0, u64 0], bxD [u64 x.1, u64 x.2], i64 (prW t)]) (fun x => ansY (aggV [u64 x.1, u64 x.2])) (fun k x => ?_) (fun k t x ht => ?_) w h2 0 (0, 0)
  · refine pure_fn mixed globs fn225 body225 nt225 rs225 RY_ok lab225 [36] (w + 1) ((s225 _ w l h).trans ?_)
    rw [subi_pr (by omega)]
    exact (okN_bi pure158 _ _).trans key
  · show jmpN _ _ _ _ _ _ _ (k + 1) _ _ = _
    rw [jmpN_succ, l225, down (by decide), if_pos rfl, down0 (by decide), if_pos rfl]
  · show jmpN _ _ _ _ _ _ _ (k + 1) _ _ = _
    rw [jmpN_succ, l225, down (by omega), if_neg (by omega), show prW (t + 1) = t from rfl, eqa_i, eqa_u, bi_tt, bi_tt, okN_bi (pure75b l t hl (by omega)), okN_bi (pure75b h t hh (by omega)), okN_bi (pure75b l t hl (by omega)), cnv_mod t (by omega), noshift ht, bi_ff, bi_ff, shl1 ht, shl1 ht, subi_pr (by omega), sbit hl (by omega), sbit hh (by omega), bl_bi, bl_bi, nbeq_dec, nbeq_dec, bi_dec, bi_dec]
    split
    · split <;> rfl
    · rfl
end Go.Eng
namespace Go.Eng
open Go.RowKit Go.Proofs
noncomputable section
/-- an entry: a name and a value -/
def bdA (x : Nat × Nat × Nat) : AV := aggV [stA x.1 x.2.1, u64 x.2.2]
def unB (a : AV) : Nat × Nat × Nat := ((nthL a.cs 0).q, (nthL a.cs 0).p, (nthL a.cs 1).p)
def lkF (q n : Nat) : List (Nat × Nat × Nat) → Option Nat
  | [] => none
  | x :: l => if x.1 = q ∧ x.2.1 = n then some x.2.2 else lkF q n l
def sp_lk (l : List AV) (q n : Nat) : Nat := (lkF q n (l.map unB)).getD 0
def sp_lb (l : List AV) (q n : Nat) : Bool := (lkF q n (l.map unB)).isSome
mutual
def vlT (nums : List AV) : Tm → Nat × Bool
  | .mk op w v nq np _ l0 => if op = 25 then (if sp_lb nums nq np = true ∧ 1 ≤ w ∧ w ≤ 64 then (cutN w (sp_lk nums nq np), true) else (0, false))
    else if op = 24 ∨ op = 1 ∨ op = 26 then (0, false) else match vlTs nums l0 with
      | none => (0, false)
      | some ws => ((sp_ap op w v ws).1, decide ((sp_ap op w v ws).2 = 0))
def vlTs (nums : List AV) : List Tm → Option (List (Nat × Nat))
  | [] => some []
  | a :: l => if (vlT nums a).2 = true then (match vlTs nums l with | none => none | some ws => some ((a.w, (vlT nums a).1) :: ws)) else none
end
def sp_vv (t : Tm) (nums : List AV) : Nat := (vlT nums t).1
def sp_vb (t : Tm) (nums : List AV) : Bool := (vlT nums t).2
def sp_apv (o w v : Nat) (l : List AV) : Nat := (sp_ap o w v (l.map unW)).1
def sp_ape (o w v : Nat) (l : List AV) : Nat := (sp_ap o w v (l.map unW)).2
def vN (k : Nat) : Nat × Native := (k, natP Tryz.prog k [26, 41] fun l => tupV [u64 (sp_vv (unTm (nthL l 0)) (nthL l 1).cs), bV (sp_vb (unTm (nthL l 0)) (nthL l 1).cs)])
def aN (k : Nat) : Nat × Native := (k, natP Tryz.prog k [22, 3, 23, 79] fun l => tupV [u64 (sp_apv (nthL l 0).p (nthL l 1).p (nthL l 2).p (nthL l 3).cs), i64 (sp_ape (nthL l 0).p (nthL l 1).p (nthL l 2).p (nthL l 3).cs)])
def bN (k : Nat) : Nat × Native := (k, natP Tryz.prog k [41, 9] fun l => tupV [u64 (sp_lk (nthL l 0).cs (nthL l 1).q (nthL l 1).p), bV (sp_lb (nthL l 0).cs (nthL l 1).q (nthL l 1).p)])
def NtVl : Nat → Option Native := ntL [bN 28, bN 31, n2 29 cutN, n2 32 cutN, aN 30, aN 33, vN 10, vN 11]
def RVl : Rec := evN Tryz.prog NtVl (fun _ => false) 2
/- facts, or those that contain all values -/
def sp_n1 (w z o l h : Nat) : Nat := bi (sp_vd w z o l h) w (clampN w)
def sp_n2 (w z o l h : Nat) : Nat := bi (sp_vd w z o l h) z 0
def sp_n3 (w z o l h : Nat) : Nat := bi (sp_vd w z o l h) o 0
def sp_n4 (w z o l h : Nat) : Nat := bi (sp_vd w z o l h) l 0
def sp_n5 (w z o l h : Nat) : Nat := bi (sp_vd w z o l h) h (maskN w)
def NtFt : Nat → Option Native := ntL [vN 10, vN 11, fN 34 (fun w z o l h => bV (sp_vd w z o l h)), (35, natP Tryz.prog 35 [3] fun l => fcA (clampN (nthL l 0).p) 0 0 0 (maskN (nthL l 0).p)), fN 36 (fun w z o l h => fcA (sp_n1 w z o l h) (sp_n2 w z o l h) (sp_n3 w z o l h) (sp_n4 w z o l h) (sp_n5 w z o l h))]
def RFt : Rec := evN Tryz.prog NtFt (fun _ => false) 2
def lab28 : Lab := labT [([0,0,1,0,1], [(1,0),(8,0),(9,0),(10,0)])]
def lab31 : Lab := labT [([0,0,1,0,1], [(0,0),(1,0),(6,0)])]
def lab9 : Lab := labT [([0,0,1,0,1,1,1], [(1,100),(4,0)]), ([0,0,1,0,1,1], [(1,100),(3,0)])]
def lab10 : Lab := labT [([0,0,1,0,1,1,1], [(1,0),(2,100),(8,3),(47,0),(48,0),(49,0)])]
def lab11 : Lab := labT [([0,0,1,0,1,1,1], [(1,0),(2,100),(8,3),(9,0)])]
end
theorem RVl_ok : RecOk Tryz.prog RVl := evN_ok mixed (by repeat (first | exact ntL_nil | refine ntL_cons ?_)) noGor 2
theorem RFt_ok : RecOk Tryz.prog RFt := evN_ok mixed (by repeat (first | exact ntL_nil | refine ntL_cons ?_)) noGor 2
end Go.Eng
namespace Go.Eng
open Go.RowKit Go.Proofs
set_option maxRecDepth 4000
theorem s80 (J : Jmp) (w z o : Nat) : (compY Tryz.prog 22 (fun _ => none) (finY Tryz.prog [.tmp 4] [4]) J [] (bodyC Tryz.f80) (finY Tryz.prog [.tmp 4] [4]) []).run RY (setArgs 0 [i64 w, aggV [u64 z, u64 o]] noFr) (baseH Tryz.prog) =
  (bi (nbeq (bi (nbeq (g_and z o) 0) 1 0) 1)
 (bi (nbeq (okN (PureAt Tryz.prog 68 [(i64 w)] (u64 (maskN w)))) 1)
 (bi (eqA 1000 (u64 (g_or z o)) (u64 (g_or z o)))
 (bi (eqA 1000 (u64 o) (u64 o))
 (bi (eqA 1000 (u64 z) (u64 z))
 (ansY (mk1 8 (bi (nbeq (g_andn (g_or z o) (maskN w)) 0) 1 0)))
 (failR 90))
 (failR 90))
 (failR 90))
 (failR 301))
 (bi (nbeq (bi (nbeq (g_and z o) 0) 1 0) 0)
 (ansY (mk1 8 0))
 (failR 40))) := by kernel_rfl
theorem s155 (J : Jmp) (w z o : Nat) : (compY Tryz.prog 25 (fun _ => none) (finY Tryz.prog [.tmp 4] [4]) J [] (bodyC Tryz.f155) (finY Tryz.prog [.tmp 4] [4]) []).run RY (setArgs 0 [i64 w, aggV [u64 z, u64 o]] noFr) (baseH Tryz.prog) =
  (bi (nbeq (bi (nbeq (g_and z o) 0) 1 0) 1)
 (bi (nbeq (okN (PureAt Tryz.prog 222 [(i64 w)] (u64 (maskN w)))) 1)
 (bi (eqA 1000 (u64 z) (u64 z))
 (bi (nbeq (bi (nble (biased 7 z) (biased 7 (maskN w))) 1 0) 1)
 (bi (nbeq (okN (PureAt Tryz.prog 222 [(i64 w)] (u64 (maskN w)))) 1)
 (bi (eqA 1000 (u64 o) (u64 o))
 (ansY (mk1 8 (bi (nble (biased 7 o) (biased 7 (maskN w))) 1 0)))
 (failR 90))
 (failR 301))
 (bi (nbeq (bi (nble (biased 7 z) (biased 7 (maskN w))) 1 0) 0)
 (ansY (mk1 8 0))
 (failR 40)))
 (failR 90))
 (failR 301))
 (bi (nbeq (bi (nbeq (g_and z o) 0) 1 0) 0)
 (ansY (mk1 8 0))
 (failR 40))) := by kernel_rfl
theorem s81 (J : Jmp) (w l h : Nat) : (compY Tryz.prog 17 (fun _ => none) (finY Tryz.prog [.tmp 4] [4]) J [] (bodyC Tryz.f81) (finY Tryz.prog [.tmp 4] [4]) []).run RY (setArgs 0 [i64 w, aggV [u64 l, u64 h]] noFr) (baseH Tryz.prog) =
  (bi (nbeq (bi (nble (biased 7 l) (biased 7 h)) 1 0) 1)
 (bi (nbeq (okN (PureAt Tryz.prog 68 [(i64 w)] (u64 (maskN w)))) 1)
 (bi (eqA 1000 (u64 h) (u64 h))
 (ansY (mk1 8 (bi (nble (biased 7 h) (biased 7 (maskN w))) 1 0)))
 (failR 90))
 (failR 301))
 (bi (nbeq (bi (nble (biased 7 l) (biased 7 h)) 1 0) 0)
 (ansY (mk1 8 0))
 (failR 40))) := by kernel_rfl
theorem s156 (J : Jmp) (w l h : Nat) : (compY Tryz.prog 17 (fun _ => none) (finY Tryz.prog [.tmp 4] [4]) J [] (bodyC Tryz.f156) (finY Tryz.prog [.tmp 4] [4]) []).run RY (setArgs 0 [i64 w, aggV [u64 l, u64 h]] noFr) (baseH Tryz.prog) =
  (bi (nbeq (bi (nble (biased 7 l) (biased 7 h)) 1 0) 1)
 (bi (nbeq (okN (PureAt Tryz.prog 222 [(i64 w)] (u64 (maskN w)))) 1)
 (bi (eqA 1000 (u64 h) (u64 h))
 (ansY (mk1 8 (bi (nble (biased 7 h) (biased 7 (maskN w))) 1 0)))
 (failR 90))
 (failR 301))
 (bi (nbeq (bi (nble (biased 7 l) (biased 7 h)) 1 0) 0)
 (ansY (mk1 8 0))
 (failR 40))) := by kernel_rfl
theorem body80 : Tryz.f80.body = some (bodyC Tryz.f80) := by kernel_rfl
theorem fn80 : Tryz.prog.funcs[80]? = some Tryz.f80 := by kernel_rfl
theorem nt80 : Tryz.f80.ntmps = 22 := by kernel_rfl
theorem rs80 : Tryz.f80.results.toList = [.tmp 4] := by kernel_rfl
theorem body155 : Tryz.f155.body = some (bodyC Tryz.f155) := by kernel_rfl
theorem fn155 : Tryz.prog.funcs[155]? = some Tryz.f155 := by kernel_rfl
theorem nt155 : Tryz.f155.ntmps = 25 := by kernel_rfl
theorem rs155 : Tryz.f155.results.toList = [.tmp 4] := by kernel_rfl
theorem body81 : Tryz.f81.body = some (bodyC Tryz.f81) := by kernel_rfl
theorem fn81 : Tryz.prog.funcs[81]? = some Tryz.f81 := by kernel_rfl
theorem nt81 : Tryz.f81.ntmps = 17 := by kernel_rfl
theorem rs81 : Tryz.f81.results.toList = [.tmp 4] := by kernel_rfl
theorem body156 : Tryz.f156.body = some (bodyC Tryz.f156) := by kernel_rfl
theorem fn156 : Tryz.prog.funcs[156]? = some Tryz.f156 := by kernel_rfl
theorem nt156 : Tryz.f156.ntmps = 17 := by kernel_rfl
theorem rs156 : Tryz.f156.results.toList = [.tmp 4] := by kernel_rfl
theorem or_le {a b c : Nat} : (a ||| b) < 2 ^ c ↔ a < 2 ^ c ∧ b < 2 ^ c := ⟨fun h => ⟨Nat.lt_of_le_of_lt Nat.left_le_or h, Nat.lt_of_le_of_lt Nat.right_le_or h⟩, fun h => Nat.or_lt_two_pow h.1 h.2⟩
theorem andn_mask {w x : Nat} (hw : w < 2 ^ 64) (hx : x < 2 ^ 64) : g_andn x (maskN w) = 0 ↔ x < 2 ^ clampN w := by
  have h2 := (clamp_range hw).2
  have em : maskN w = 2 ^ clampN w - 1 := rfl
  have hp := Nat.two_pow_pos (clampN w)
  have hle : (2 : Nat) ^ clampN w ≤ 2 ^ 64 := Nat.pow_le_pow_right (by decide) h2
  rw [g_andn_eq, em]
  have ht : ∀ i, (x &&& (2 ^ 64 - 1 - (2 ^ clampN w - 1))).testBit i = (x.testBit i && (decide (i < 64) && !decide (i < clampN w))) := by
    intro i
    rw [Nat.testBit_and, show 2 ^ 64 - 1 - (2 ^ clampN w - 1) = 2 ^ 64 - ((2 ^ clampN w - 1) + 1) by omega, Nat.testBit_two_pow_sub_succ (by omega), Nat.testBit_two_pow_sub_one]
  constructor
  · intro h
    refine Nat.lt_pow_two_of_testBit x fun i hi => ?_
    have h3 := ht i
    rw [h, Nat.zero_testBit] at h3
    by_cases h64 : i < 64
    · rw [decide_eq_true h64, decide_eq_false (show ¬ i < clampN w by omega)] at h3
      simpa using h3.symm
    · exact Nat.testBit_lt_two_pow (Nat.lt_of_lt_of_le hx (Nat.pow_le_pow_right (by decide) (by omega)))
  · intro h
    refine Nat.eq_of_testBit_eq fun i => ?_
    rw [ht, Nat.zero_testBit]
    by_cases hi : i < clampN w
    · rw [decide_eq_true hi]; simp
    · rw [Nat.testBit_lt_two_pow (Nat.lt_of_lt_of_le h (Nat.pow_le_pow_right (by decide) (by omega)))]; rfl
theorem le_mask {w x : Nat} : x ≤ maskN w ↔ x < 2 ^ clampN w := by
  have hp := Nat.two_pow_pos (clampN w)
  unfold maskN
  omega
theorem kv_iff {w z o : Nat} (hw : w < 2 ^ 64) (hz : z < 2 ^ 64) (ho : o < 2 ^ 64) : sp_kv w z o = (decide (z &&& o = 0) && decide (g_andn (z ||| o) (maskN w) = 0)) := by
  unfold sp_kv
  rw [Bool.eq_iff_iff, Bool.and_eq_true, decide_eq_true_eq, decide_eq_true_eq, decide_eq_true_eq, andn_mask hw (Nat.or_lt_two_pow hz ho), or_le, le_mask, le_mask]
theorem pure80 (w z o : Nat) (hw : w < 2 ^ 64) (hz : z < 2 ^ 64) (ho : o < 2 ^ 64) : PureAt Tryz.prog 80 [i64 w, aggV [u64 z, u64 o]] (bV (sp_kv w z o)) := by
  refine pure_fn mixed globs fn80 body80 nt80 rs80 RY_ok (fun _ => none) [4] 0 ((s80 _ w z o).trans ?_)
  rw [okN_bi (pure68 w hw), eqa_u, eqa_u, eqa_u, kv_iff hw hz ho, g_and_eq, g_or_eq, bl_bi, b0, nbeq_dec, nbeq_dec]
  by_cases h : z &&& o = 0
  · rw [decide_eq_true h]; rfl
  · rw [decide_eq_false h]; rfl
theorem pure155 (w z o : Nat) (hw : w < 2 ^ 64) (hz : z < 2 ^ 64) (ho : o < 2 ^ 64) : PureAt Tryz.prog 155 [i64 w, aggV [u64 z, u64 o]] (bV (sp_kv w z o)) := by
  refine pure_fn mixed globs fn155 body155 nt155 rs155 RY_ok (fun _ => none) [4] 0 ((s155 _ w z o).trans ?_)
  have hm := mask_lt hw
  rw [okN_bi (pure222 w hw), okN_bi (pure222 w hw), eqa_u, eqa_u, g_and_eq, bl_bi, b0, bl_bi, b0, nbeq_dec, biased7 hz, biased7 ho, biased7 hm, nble_dec, nble_dec]
  unfold sp_kv
  by_cases h : z &&& o = 0
  · by_cases h2 : z ≤ maskN w
    · by_cases h3 : o ≤ maskN w
      · rw [decide_eq_true h, decide_eq_true h2, decide_eq_true h3, decide_eq_true (show z &&& o = 0 ∧ z ≤ maskN w ∧ o ≤ maskN w from ⟨h, h2, h3⟩)]; rfl
      · rw [decide_eq_true h, decide_eq_true h2, decide_eq_false h3, decide_eq_false (show ¬ (z &&& o = 0 ∧ z ≤ maskN w ∧ o ≤ maskN w) from fun h' => h3 h'.2.2)]; rfl
    · rw [decide_eq_true h, decide_eq_false h2, decide_eq_false (show ¬ (z &&& o = 0 ∧ z ≤ maskN w ∧ o ≤ maskN w) from fun h' => h2 h'.2.1)]; rfl
  · rw [decide_eq_false h, decide_eq_false (show ¬ (z &&& o = 0 ∧ z ≤ maskN w ∧ o ≤ maskN w) from fun h' => h h'.1)]; rfl
theorem pure81 (w l h : Nat) (hw : w < 2 ^ 64) (hl : l < 2 ^ 64) (hh : h < 2 ^ 64) : PureAt Tryz.prog 81 [i64 w, aggV [u64 l, u64 h]] (bV (sp_rv w l h)) := by
  refine pure_fn mixed globs fn81 body81 nt81 rs81 RY_ok (fun _ => none) [4] 0 ((s81 _ w l h).trans ?_)
  rw [okN_bi (pure68 w hw), eqa_u, bl_bi, b0, biased7 hl, biased7 hh, biased7 (mask_lt hw), nble_dec, nble_dec]
  unfold sp_rv
  by_cases h1 : l ≤ h
  · by_cases h2 : h ≤ maskN w
    · rw [decide_eq_true h1, decide_eq_true h2, decide_eq_true (show l ≤ h ∧ h ≤ maskN w from ⟨h1, h2⟩)]; rfl
    · rw [decide_eq_true h1, decide_eq_false h2, decide_eq_false (show ¬ (l ≤ h ∧ h ≤ maskN w) from fun h' => h2 h'.2)]; rfl
  · rw [decide_eq_false h1, decide_eq_false (show ¬ (l ≤ h ∧ h ≤ maskN w) from fun h' => h1 h'.1)]; rfl
theorem pure156 (w l h : Nat) (hw : w < 2 ^ 64) (hl : l < 2 ^ 64) (hh : h < 2 ^ 64) : PureAt Tryz.prog 156 [i64 w, aggV [u64 l, u64 h]] (bV (sp_rv w l h)) := by
  refine pure_fn mixed globs fn156 body156 nt156 rs156 RY_ok (fun _ => none) [4] 0 ((s156 _ w l h).trans ?_)
  rw [okN_bi (pure222 w hw), eqa_u, bl_bi, b0, biased7 hl, biased7 hh, biased7 (mask_lt hw), nble_dec, nble_dec]
  unfold sp_rv
  by_cases h1 : l ≤ h
  · by_cases h2 : h ≤ maskN w
    · rw [decide_eq_true h1, decide_eq_true h2, decide_eq_true (show l ≤ h ∧ h ≤ maskN w from ⟨h1, h2⟩)]; rfl
    · rw [decide_eq_true h1, decide_eq_false h2, decide_eq_false (show ¬ (l ≤ h ∧ h ≤ maskN w) from fun h' => h2 h'.2)]; rfl
  · rw [decide_eq_false h1, decide_eq_false (show ¬ (l ≤ h ∧ h ≤ maskN w) from fun h' => h1 h'.1)]; rfl
theorem pure221 (w z o : Nat) (hw : w < 2 ^ 64) (hz : z < 2 ^ 64) (ho : o < 2 ^ 64) : PureAt Tryz.prog 221 [i64 w, aggV [u64 z, u64 o]] (aggV [u64 (sp_kz w z o), u64 (sp_ko w z o)]) := by
  refine pure_fn mixed globs fn221 body221 nt221 rs221 RY_ok (fun _ => none) [36] 0 ((s221 _ w z o).trans ?_)
  refine (okN_bi (pure80 w z o hw hz ho) _ _).trans ?_
  unfold sp_kz sp_ko
  skip
  cases sp_kv w z o <;> first | rfl | exact okN_bi pure158 _ _
theorem pure258 (w z o : Nat) (hw : w < 2 ^ 64) (hz : z < 2 ^ 64) (ho : o < 2 ^ 64) : PureAt Tryz.prog 258 [i64 w, aggV [u64 z, u64 o]] (aggV [u64 (sp_kz w z o), u64 (sp_ko w z o)]) := by
  refine pure_fn mixed globs fn258 body258 nt258 rs258 RY_ok (fun _ => none) [36] 0 ((s258 _ w z o).trans ?_)
  refine (okN_bi (pure155 w z o hw hz ho) _ _).trans ?_
  unfold sp_kz sp_ko
  try rw [okN_bi pure158]
  cases sp_kv w z o <;> first | rfl | exact okN_bi pure158 _ _
theorem pure220 (w l h : Nat) (hw : w < 2 ^ 64) (hl : l < 2 ^ 64) (hh : h < 2 ^ 64) : PureAt Tryz.prog 220 [i64 w, aggV [u64 l, u64 h]] (aggV [u64 (sp_rl w l h), u64 (sp_rh w l h)]) := by
  refine pure_fn mixed globs fn220 body220 nt220 rs220 RY_ok (fun _ => none) [38] 0 ((s220 _ w l h).trans ?_)
  refine (okN_bi (pure81 w l h hw hl hh) _ _).trans ?_
  unfold sp_rl sp_rh
  cases sp_rv w l h <;> first | rfl | exact okN_bi (pure84 w hw) _ _
theorem pure257 (w l h : Nat) (hw : w < 2 ^ 64) (hl : l < 2 ^ 64) (hh : h < 2 ^ 64) : PureAt Tryz.prog 257 [i64 w, aggV [u64 l, u64 h]] (aggV [u64 (sp_rl w l h), u64 (sp_rh w l h)]) := by
  refine pure_fn mixed globs fn257 body257 nt257 rs257 RY_ok (fun _ => none) [38] 0 ((s257 _ w l h).trans ?_)
  refine (okN_bi (pure156 w l h hw hl hh) _ _).trans ?_
  unfold sp_rl sp_rh
  cases sp_rv w l h <;> first | rfl | exact okN_bi (pure159 w hw) _ _
end Go.Eng
