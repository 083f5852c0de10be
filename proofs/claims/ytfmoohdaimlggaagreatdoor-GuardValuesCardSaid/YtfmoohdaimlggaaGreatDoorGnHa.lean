
/- A part of the proof that the evaluator in GnC, and the driver in GnZ, answer as the model does; no conditions. -/
import Derived.Test.YtfmoohdaimlggaaGreatDoorGnTs
import Derived.Test.YtfmoohdaimlggaaGreatDoorProg
import Derived.ProofKit
import Derived.Test.YtfmoohdaimlggaaGreatDoorGnV
namespace Go.Eng
open Go.RowKit Go.Proofs
theorem noGor : NoGor Tryz.prog := by
  have h : (Tryz.prog.funcs.all fun fn => !(fn.name == "runtime.NumGoroutine")) = true := by kernel_rfl
  intro f fn hf
  have := Array.all_eq_true_iff_forall_mem.1 h fn (Array.mem_of_getElem? hf)
  simpa using this
theorem mixed : Tryz.prog.follows .mixedOrders = true := by kernel_rfl
theorem globs : Tryz.prog.globals.size ≤ 32767 := of_decide_eq_true (by kernel_rfl)
noncomputable section
def R0 : Rec := evN Tryz.prog (ntL []) (fun _ => false) 3
def labIs : Lab := labT [([0,0,1,0,1], [(0,0),(1,0),(7,0),(8,0)])]
end
theorem R0_ok : RecOk Tryz.prog R0 := evN_ok mixed ntL_nil noGor 3
end Go.Eng
namespace Go.Eng
open Go.RowKit Go.Proofs
theorem s130 (J : Jmp) (x : Nat) : (compY Tryz.prog 6 (fun _ => none) (finY Tryz.prog [.tmp 2] [3]) J [] (bodyC Tryz.f130) (finY Tryz.prog [.tmp 2] [3]) []).run R0 (setArgs 0 [i64 x] noFr) (baseH Tryz.prog) =
  (ansY ⟨3, bi (nble (biased 3 (bi (nble (biased 3 x) 9223372036854775809) 1 x)) 9223372036854775872) (bi (nble (biased 3 x) 9223372036854775809) 1 x) 64, 0, 0, 0, []⟩) := by kernel_rfl
theorem s74 (J : Jmp) (x : Nat) : (compY Tryz.prog 6 (fun _ => none) (finY Tryz.prog [.tmp 2] [3]) J [] (bodyC Tryz.f74) (finY Tryz.prog [.tmp 2] [3]) []).run R0 (setArgs 0 [i64 x] noFr) (baseH Tryz.prog) =
  (ansY ⟨3, bi (nble (biased 3 (bi (nble (biased 3 x) 9223372036854775809) 1 x)) 9223372036854775872) (bi (nble (biased 3 x) 9223372036854775809) 1 x) 64, 0, 0, 0, []⟩) := by kernel_rfl
theorem s131 (J : Jmp) (x : Nat) : (compY Tryz.prog 9 (fun _ => none) (finY Tryz.prog [.tmp 2] [4]) J [] (bodyC Tryz.f131) (finY Tryz.prog [.tmp 2] [4]) []).run R0 (setArgs 0 [i64 x] noFr) (baseH Tryz.prog) =
  (bi (nbeq (bi (nble 9223372036854775809 (biased 3 x)) 1 0) 1)
 (ansY ⟨8, bi (nble (biased 3 x) 9223372036854775834) 1 0, 0, 0, 0, []⟩)
 (ansY ⟨8, 0, 0, 0, 0, []⟩)) := by kernel_rfl
theorem s133 (J : Jmp) (x : Nat) : (compY Tryz.prog 9 (fun _ => none) (finY Tryz.prog [.tmp 2] [4]) J [] (bodyC Tryz.f133) (finY Tryz.prog [.tmp 2] [4]) []).run R0 (setArgs 0 [i64 x] noFr) (baseH Tryz.prog) =
  (bi (nbeq (bi (nble 9223372036854775808 (biased 3 x)) 1 0) 1)
 (ansY ⟨8, bi (nble (biased 3 x) 9223372036854775872) 1 0, 0, 0, 0, []⟩)
 (ansY ⟨8, 0, 0, 0, 0, []⟩)) := by kernel_rfl
theorem s144 (J : Jmp) (x : Nat) : (compY Tryz.prog 9 (fun _ => none) (finY Tryz.prog [.tmp 2] [4]) J [] (bodyC Tryz.f144) (finY Tryz.prog [.tmp 2] [4]) []).run R0 (setArgs 0 [i64 x] noFr) (baseH Tryz.prog) =
  (bi (nbeq (bi (nble 9223372036854775808 (biased 3 x)) 1 0) 1)
 (ansY ⟨8, bi (nble (biased 3 x) 9223372036854775872) 1 0, 0, 0, 0, []⟩)
 (ansY ⟨8, 0, 0, 0, 0, []⟩)) := by kernel_rfl
theorem s136 (J : Jmp) (x : Nat) (b : Bool) : (compY Tryz.prog 9 (fun _ => none) (finY Tryz.prog [.tmp 4, .tmp 5] [3, 32]) J [] (bodyC Tryz.f136) (finY Tryz.prog [.tmp 4, .tmp 5] [3, 32]) []).run R0 (setArgs 0 [bV b, i64 x] noFr) (baseH Tryz.prog) =
  (bi (nbeq (Nat.sub 1 (bi b 1 0)) 1)
 (ansY ⟨16, 0, 0, 0, 0, [⟨3, 0, 0, 0, 0, []⟩, ⟨3, 3, 0, 0, 0, []⟩]⟩)
 (ansY ⟨16, 0, 0, 0, 0, [⟨3, x, 0, 0, 0, []⟩, ⟨3, 0, 0, 0, 0, []⟩]⟩)) := by kernel_rfl
theorem s75 (J : Jmp) (x y : Nat) : (compY Tryz.prog 16 (fun _ => none) (finY Tryz.prog [.tmp 4] [23]) J [] (bodyC Tryz.f75) (finY Tryz.prog [.tmp 4] [23]) []).run R0 (setArgs 0 [u64 x, i64 y] noFr) (baseH Tryz.prog) =
  (bi (nbeq (bi (nb (nble 9223372036854775808 (biased 3 y))) 1 0) 0)
 (bi (nbeq (bi (nb (nble (biased 3 y) 9223372036854775871)) 1 0) 1)
 (ansY ⟨7, 0, 0, 0, 0, []⟩)
 (bi (nble 18446744073709551616 (cnvN 3 7 y))
 (failR 9)
 (ansY ⟨7, gt2 (fun a b => a.land b) (shrN 7 x (cnvN 3 7 y)) 1, 0, 0, 0, []⟩)))
 (ansY ⟨7, 0, 0, 0, 0, []⟩)) := by kernel_rfl
theorem s148 (J : Jmp) (x lp : Nat) (ll : List AV) : (compY Tryz.prog 18 labIs (finY Tryz.prog [.tmp 4] [4]) J [] (bodyC Tryz.f148) (finY Tryz.prog [.tmp 4] [4]) []).run R0 (setArgs 0 [i64 x, slP lp 1 ll] noFr) (baseH Tryz.prog) =
  (J [0, 0, 1, 0, 1] [⟨3, x, 0, 0, 0, []⟩, ⟨24, lp, 0, 1, 0, ll⟩, ⟨3, lenL ll, 0, 0, 0, []⟩, ⟨3, 0, 0, 0, 0, []⟩]) := by kernel_rfl
theorem l148 (J : Jmp) (x lp n i : Nat) (ll : List AV) : lblY Tryz.prog 18 labIs (baseH Tryz.prog) R0 (finY Tryz.prog [.tmp 4] [4]) (bodyC Tryz.f148) J [0,0,1,0,1] [i64 x, slP lp 1 ll, i64 n, i64 i] =
  (bi (nbeq (bi (nb (nble (biased 3 n) (biased 3 i))) 1 0) 1)
 (bi (nble i.succ (lenL ll))
 (bi (bi (tagIs 3 (nthL (bi (nbeq (nthL [nthL ll i] 0).1 15) (nthL [nthL ll i] 0).6 [nthL [nthL ll i] 0]) 0)) true false)
 (bi (nbeq (bi (nbeq (nthL (bi (nbeq (nthL [nthL ll i] 0).1 15) (nthL [nthL ll i] 0).6 [nthL [nthL ll i] 0]) 0).2 x) 1 0) 1)
 (ansY ⟨8, 1, 0, 0, 0, []⟩)
 (J [0, 0, 1, 0, 1] [⟨3, x, 0, 0, 0, []⟩, ⟨24, lp, 0, 1, 0, ll⟩, ⟨3, n, 0, 0, 0, []⟩, ⟨3, gt2 (fun a b => (a.add b).mod (kMod (kCode IntKind.i64))) i 1, 0, 0, 0, []⟩]))
 (failR 201))
 (failR 205))
 (ansY ⟨8, 0, 0, 0, 0, []⟩)) := by kernel_rfl
theorem s132 (J : Jmp) (x : Nat) : (compY Tryz.prog 42 (fun _ => none) (finY Tryz.prog [.tmp 2] [3]) J [] (bodyC Tryz.f132) (finY Tryz.prog [.tmp 2] [3]) []).run R0 (setArgs 0 [i64 x] noFr) (baseH Tryz.prog) =
  (bi (nbeq (bi (nbeq x 19) 1 0) 1)
 (ansY ⟨3, 3, 0, 0, 0, []⟩)
 (bi (nbeq (bi (nbeq x 5) 1 0) 1)
 (ansY ⟨3, 2, 0, 0, 0, []⟩)
 (bi (nbeq (bi (nbeq x 6) 1 0) 1)
 (ansY ⟨3, 2, 0, 0, 0, []⟩)
 (bi (nbeq (bi (nbeq x 7) 1 0) 1)
 (ansY ⟨3, 2, 0, 0, 0, []⟩)
 (bi (nbeq (bi (nbeq x 8) 1 0) 1)
 (ansY ⟨3, 2, 0, 0, 0, []⟩)
 (bi (nbeq (bi (nbeq x 9) 1 0) 1)
 (ansY ⟨3, 2, 0, 0, 0, []⟩)
 (bi (nbeq (bi (nbeq x 10) 1 0) 1)
 (ansY ⟨3, 2, 0, 0, 0, []⟩)
 (bi (nbeq (bi (nbeq x 11) 1 0) 1)
 (ansY ⟨3, 2, 0, 0, 0, []⟩)
 (bi (nbeq (bi (nbeq x 12) 1 0) 1)
 (ansY ⟨3, 2, 0, 0, 0, []⟩)
 (bi (nbeq (bi (nbeq x 13) 1 0) 1)
 (ansY ⟨3, 2, 0, 0, 0, []⟩)
 (bi (nbeq (bi (nbeq x 14) 1 0) 1)
 (ansY ⟨3, 2, 0, 0, 0, []⟩)
 (bi (nbeq (bi (nbeq x 15) 1 0) 1)
 (ansY ⟨3, 2, 0, 0, 0, []⟩)
 (bi (nbeq (bi (nbeq x 16) 1 0) 1)
 (ansY ⟨3, 2, 0, 0, 0, []⟩)
 (bi (nbeq (bi (nbeq x 17) 1 0) 1)
 (ansY ⟨3, 2, 0, 0, 0, []⟩)
 (bi (nbeq (bi (nbeq x 18) 1 0) 1)
 (ansY ⟨3, 2, 0, 0, 0, []⟩)
 (bi (nbeq (bi (nbeq x 20) 1 0) 1)
 (ansY ⟨3, 2, 0, 0, 0, []⟩)
 (bi (nbeq (bi (nbeq x 3) 1 0) 1)
 (ansY ⟨3, 1, 0, 0, 0, []⟩)
 (bi (nbeq (bi (nbeq x 4) 1 0) 1)
 (ansY ⟨3, 1, 0, 0, 0, []⟩)
 (bi (nbeq (bi (nbeq x 21) 1 0) 1)
 (ansY ⟨3, 1, 0, 0, 0, []⟩)
 (bi (nbeq (bi (nbeq x 22) 1 0) 1)
 (ansY ⟨3, 1, 0, 0, 0, []⟩)
 (bi (nbeq (bi (nbeq x 23) 1 0) 1)
 (ansY ⟨3, 1, 0, 0, 0, []⟩)
 (bi (nbeq (bi (nbeq x 26) 1 0) 1)
 (ansY ⟨3, 1, 0, 0, 0, []⟩)
 (bi (nbeq (bi (nbeq x 1) 1 0) 1)
 (ansY ⟨3, 0, 0, 0, 0, []⟩)
 (bi (nbeq (bi (nbeq x 2) 1 0) 1)
 (ansY ⟨3, 0, 0, 0, 0, []⟩)
 (bi (nbeq (bi (nbeq x 24) 1 0) 1)
 (ansY ⟨3, 0, 0, 0, 0, []⟩)
 (bi (nbeq (bi (nbeq x 25) 1 0) 1)
 (ansY ⟨3, 0, 0, 0, 0, []⟩)
 (ansY ⟨3, 18446744073709551615, 0, 0, 0, []⟩))))))))))))))))))))))))))) := by kernel_rfl
theorem body130 : Tryz.f130.body = some (bodyC Tryz.f130) := by kernel_rfl
theorem fn130 : Tryz.prog.funcs[130]? = some Tryz.f130 := by kernel_rfl
theorem nt130 : Tryz.f130.ntmps = 6 := by kernel_rfl
theorem rs130 : Tryz.f130.results.toList = [.tmp 2] := by kernel_rfl
theorem body74 : Tryz.f74.body = some (bodyC Tryz.f74) := by kernel_rfl
theorem fn74 : Tryz.prog.funcs[74]? = some Tryz.f74 := by kernel_rfl
theorem nt74 : Tryz.f74.ntmps = 6 := by kernel_rfl
theorem rs74 : Tryz.f74.results.toList = [.tmp 2] := by kernel_rfl
theorem body131 : Tryz.f131.body = some (bodyC Tryz.f131) := by kernel_rfl
theorem fn131 : Tryz.prog.funcs[131]? = some Tryz.f131 := by kernel_rfl
theorem nt131 : Tryz.f131.ntmps = 9 := by kernel_rfl
theorem rs131 : Tryz.f131.results.toList = [.tmp 2] := by kernel_rfl
theorem body133 : Tryz.f133.body = some (bodyC Tryz.f133) := by kernel_rfl
theorem fn133 : Tryz.prog.funcs[133]? = some Tryz.f133 := by kernel_rfl
theorem nt133 : Tryz.f133.ntmps = 9 := by kernel_rfl
theorem rs133 : Tryz.f133.results.toList = [.tmp 2] := by kernel_rfl
theorem body144 : Tryz.f144.body = some (bodyC Tryz.f144) := by kernel_rfl
theorem fn144 : Tryz.prog.funcs[144]? = some Tryz.f144 := by kernel_rfl
theorem nt144 : Tryz.f144.ntmps = 9 := by kernel_rfl
theorem rs144 : Tryz.f144.results.toList = [.tmp 2] := by kernel_rfl
theorem body136 : Tryz.f136.body = some (bodyC Tryz.f136) := by kernel_rfl
theorem fn136 : Tryz.prog.funcs[136]? = some Tryz.f136 := by kernel_rfl
theorem nt136 : Tryz.f136.ntmps = 9 := by kernel_rfl
theorem rs136 : Tryz.f136.results.toList = [.tmp 4, .tmp 5] := by kernel_rfl
theorem body75 : Tryz.f75.body = some (bodyC Tryz.f75) := by kernel_rfl
theorem fn75 : Tryz.prog.funcs[75]? = some Tryz.f75 := by kernel_rfl
theorem nt75 : Tryz.f75.ntmps = 16 := by kernel_rfl
theorem rs75 : Tryz.f75.results.toList = [.tmp 4] := by kernel_rfl
theorem body148 : Tryz.f148.body = some (bodyC Tryz.f148) := by kernel_rfl
theorem fn148 : Tryz.prog.funcs[148]? = some Tryz.f148 := by kernel_rfl
theorem nt148 : Tryz.f148.ntmps = 18 := by kernel_rfl
theorem rs148 : Tryz.f148.results.toList = [.tmp 4] := by kernel_rfl
theorem body132 : Tryz.f132.body = some (bodyC Tryz.f132) := by kernel_rfl
theorem fn132 : Tryz.prog.funcs[132]? = some Tryz.f132 := by kernel_rfl
theorem nt132 : Tryz.f132.ntmps = 42 := by kernel_rfl
theorem rs132 : Tryz.f132.results.toList = [.tmp 2] := by kernel_rfl
noncomputable section
def clampN (x : Nat) : Nat := bi (nble (biased 3 (bi (nble (biased 3 x) 9223372036854775809) 1 x)) 9223372036854775872) (bi (nble (biased 3 x) 9223372036854775809) 1 x) 64
def insN (x : Nat) : Bool := bi (nble 9223372036854775808 (biased 3 x)) (nble (biased 3 x) 9223372036854775872) false
def knN (x : Nat) : Bool := bi (nble 9223372036854775809 (biased 3 x)) (nble (biased 3 x) 9223372036854775834) false
def isS (x : Nat) (l : List Nat) : Bool := l.any fun y => nbeq y x
def arN (x : Nat) : Nat := (bi (nbeq x 19) (3) (bi (nbeq x 5) (2) (bi (nbeq x 6) (2) (bi (nbeq x 7) (2) (bi (nbeq x 8) (2) (bi (nbeq x 9) (2) (bi (nbeq x 10) (2) (bi (nbeq x 11) (2) (bi (nbeq x 12) (2) (bi (nbeq x 13) (2) (bi (nbeq x 14) (2) (bi (nbeq x 15) (2) (bi (nbeq x 16) (2) (bi (nbeq x 17) (2) (bi (nbeq x 18) (2) (bi (nbeq x 20) (2) (bi (nbeq x 3) (1) (bi (nbeq x 4) (1) (bi (nbeq x 21) (1) (bi (nbeq x 22) (1) (bi (nbeq x 23) (1) (bi (nbeq x 26) (1) (bi (nbeq x 1) (0) (bi (nbeq x 2) (0) (bi (nbeq x 24) (0) (bi (nbeq x 25) (0) (18446744073709551615)))))))))))))))))))))))))))
end

theorem pure130 (x : Nat) : PureAt Tryz.prog 130 [i64 x] (i64 (clampN x)) := pure_fn mixed globs fn130 body130 nt130 rs130 R0_ok (fun _ => none) [3] 0 (s130 _ x)
theorem pure74 (x : Nat) : PureAt Tryz.prog 74 [i64 x] (i64 (clampN x)) := pure_fn mixed globs fn74 body74 nt74 rs74 R0_ok (fun _ => none) [3] 0 (s74 _ x)
theorem pure131 (x : Nat) : PureAt Tryz.prog 131 [i64 x] (bV (knN x)) := by
  refine pure_fn mixed globs fn131 body131 nt131 rs131 R0_ok (fun _ => none) [4] 0 ((s131 _ x).trans ?_)
  unfold knN
  simp only [bl_bi]
  cases nble 9223372036854775809 (biased 3 x) <;> rfl
theorem pure133 (x : Nat) : PureAt Tryz.prog 133 [i64 x] (bV (insN x)) := by
  refine pure_fn mixed globs fn133 body133 nt133 rs133 R0_ok (fun _ => none) [4] 0 ((s133 _ x).trans ?_)
  unfold insN
  simp only [bl_bi]
  cases nble 9223372036854775808 (biased 3 x) <;> rfl
theorem pure144 (x : Nat) : PureAt Tryz.prog 144 [i64 x] (bV (insN x)) := by
  refine pure_fn mixed globs fn144 body144 nt144 rs144 R0_ok (fun _ => none) [4] 0 ((s144 _ x).trans ?_)
  unfold insN
  simp only [bl_bi]
  cases nble 9223372036854775808 (biased 3 x) <;> rfl
theorem pure136 (b : Bool) (x : Nat) : PureAt Tryz.prog 136 [bV b, i64 x] (tupV [i64 (bi b x 0), i64 (bi b 0 3)]) := by
  refine pure_fn mixed globs fn136 body136 nt136 rs136 R0_ok (fun _ => none) [3, 32] 0 ((s136 _ x b).trans ?_)
  cases b <;> rfl
theorem shr_mod {x y : Nat} (hy : y < 64) (hx : x < 2 ^ 64) : shrN 7 x y = x / 2 ^ y := by
  unfold shrN
  rw [gt2_eq]
  have e1 : isNeg 7 x = false := by
    unfold isNeg
    have e : kHalf 7 = 2 ^ 64 := by decide +kernel
    rw [e]; exact nble_f (by omega)
  have e2 : kBits 7 = 64 := by decide +kernel
  rw [e1, bi_false, e2, nble_f (by omega), bi_false]
  exact Nat.shiftRight_eq_div_pow x y
theorem pure75 (x y : Nat) (hx : x < 2 ^ 64) (hy : y < 64) : PureAt Tryz.prog 75 [u64 x, i64 y] (u64 (x / 2 ^ y % 2)) := by
  refine pure_fn mixed globs fn75 body75 nt75 rs75 R0_ok (fun _ => none) [23] 0 ((s75 _ x y).trans ?_)
  simp only [bl_bi, b0, biased3s (show y < 2 ^ 63 by omega)]
  rw [cnv_mod y (by omega), shr_mod hy hx, nble_t (show 9223372036854775808 ≤ y + 2 ^ 63 by omega), nble_t (show y + 2 ^ 63 ≤ 9223372036854775871 by omega), nble_f (show ¬ 18446744073709551616 ≤ y by omega)]
  simp only [nb_t, nb_f, bi_tt, bi_ff, gt2_eq]
  have : Nat.land (x / 2 ^ y) 1 = x / 2 ^ y % 2 := Nat.and_one_is_mod _
  rw [this]; rfl
theorem loop148 (x lp : Nat) (X : List Nat) (hX : X.length < 2 ^ 63) : ∀ k i, i + k = X.length → jmpN Tryz.prog 18 labIs (baseH Tryz.prog) R0 (finY Tryz.prog [.tmp 4] [4]) (bodyC Tryz.f148) (k + 1) [0,0,1,0,1] [i64 x, slP lp 1 (X.map i64), i64 (lenL (X.map i64)), i64 i] = ansY (bV (isS x (X.drop i))) := by
  intro k
  induction k with
  | zero =>
    intro i hi
    have e : i = X.length := by omega
    subst e
    rw [jmpN_succ, l148]
    simp only [bl_bi, lenL_map, biased_le hX hX, Nat.le_refl, decide_true, nb_t, bi_ff, List.drop_length]
    rfl
  | succ k ih =>
    intro i hi
    have hlt : i < X.length := by omega
    have hi63 : i < 2 ^ 63 := by omega
    have e1 : X.drop i = X[i] :: X.drop (i + 1) := List.drop_eq_getElem_cons hlt
    rw [jmpN_succ, l148]
    simp only [bl_bi, n11, n01, lenL_map, biased_le hX hi63, show ¬ X.length ≤ i by omega, decide_false, nb_f, bi_tt, nble_t (show i.succ ≤ X.length from hlt), nthL_map i64 X i hlt, nth1, cells_i64, tg_i, i64_p, succ_mod hi63, mk_slP, mk_i64]
    rw [e1]
    unfold isS
    rw [List.any_cons]
    cases h : nbeq X[i] x
    · rw [bi_ff, Bool.false_or]
      have := ih (i + 1) (by omega)
      rw [lenL_map] at this
      exact this
    · rw [bi_tt]; rfl
theorem pure148 (x lp : Nat) (X : List Nat) (hX : X.length < 2 ^ 63) : PureAt Tryz.prog 148 [i64 x, slP lp 1 (X.map i64)] (bV (isS x X)) :=
  pure_fn mixed globs fn148 body148 nt148 rs148 R0_ok labIs [4] (X.length + 1) ((s148 _ _ _ _).trans (loop148 x lp X hX X.length 0 (by omega)))
theorem pure132 (x : Nat) : PureAt Tryz.prog 132 [i64 x] (i64 (arN x)) := by
  refine pure_fn mixed globs fn132 body132 nt132 rs132 R0_ok (fun _ => none) [3] 0 ((s132 _ x).trans ?_)
  unfold arN
  simp only [bl_bi, mk_i64, ansY_bi, i64_bi]
end Go.Eng
namespace Go.Eng
open Go.RowKit Go.Proofs
noncomputable section
def bitN (x y : Nat) : Nat := gt2 (fun x y => x / 2 ^ y % 2) x y
def isA (x : Nat) (l : List AV) : Bool := l.any fun a => nbeq a.p x
def NtB : Nat → Option Native := ntL [(130, natP Tryz.prog 130 [3] fun l => i64 (clampN (nthL l 0).p)), (131, natP Tryz.prog 131 [22] fun l => bV (knN (nthL l 0).p)), (133, natP Tryz.prog 133 [3] fun l => bV (insN (nthL l 0).p)),
  (144, natP Tryz.prog 144 [3] fun l => bV (insN (nthL l 0).p)), (136, natP Tryz.prog 136 [4,  3] fun l => tupV [i64 (bi (nbeq (nthL l 0).p 1) (nthL l 1).p 0), i64 (bi (nbeq (nthL l 0).p 1) 0 3)]), (74, natP Tryz.prog 74 [3] fun l => i64 (clampN (nthL l 0).p)),
  (75, natP Tryz.prog 75 [23,  3] fun l => u64 (bitN (nthL l 0).p (nthL l 1).p)), (148, natP Tryz.prog 148 [22, 195] fun l => bV (isA (nthL l 0).p (nthL l 1).cs)), (132, natP Tryz.prog 132 [22] fun l => i64 (arN (nthL l 0).p))]
def RB : Rec := evN Tryz.prog NtB (fun _ => false) 2
def lab69 : Lab := labT [([0,0,1,0,1,1], [(0,0),(1,0),(2,0),(3,0),(22,0),(23,0),(24,0)])]
def lab76 : Lab := labT [([0,0,1,0,1,1], [(0,0),(1,0),(2,0),(3,0),(22,0),(23,0)])]
def lab32 : Lab := labT [([0,0,1,0,1,1], [(1,0),(5,0),(8,0),(9,0)])]
def lab37 : Lab := labT [([0,0,1,0,1,1,1], [(1,0),(2,0),(3,100),(7,0)])]
/- count, Same, SameAll, Copy: natives of themselves -/
def unTms (l : List AV) : List Tm := l.map unTm
def cntN (t : Tm) (d n : Nat) : Nat := match cnt t d n with | none => 18446744073709551615 | some k => k
def NtC : Nat → Option Native := ntL [(37, natP Tryz.prog 37 [26,  3,  3] fun l => i64 (cntN (unTm (nthL l 0)) (nthL l 1).p (nthL l 2).p)), (123, natP Tryz.prog 123 [26,  26] fun l => bV (eqT (unTm (nthL l 0)) (unTm (nthL l 1)))),
  (187, natP Tryz.prog 187 [24,  24] fun l => bV (eqTs (unTms (nthL l 0).cs) (unTms (nthL l 1).cs))), (23, natP Tryz.prog 23 [26] fun l => tmE (cpT (unTm (nthL l 0))))]
def RC : Rec := evN Tryz.prog NtC (fun _ => false) 2
end
theorem RB_ok : RecOk Tryz.prog RB := evN_ok mixed (ntL_cons (ntL_cons (ntL_cons (ntL_cons (ntL_cons (ntL_cons (ntL_cons (ntL_cons (ntL_cons ntL_nil))))))))) noGor 2
theorem RC_ok : RecOk Tryz.prog RC := evN_ok mixed (ntL_cons (ntL_cons (ntL_cons (ntL_cons ntL_nil)))) noGor 2
end Go.Eng
namespace Go.Eng
open Go.RowKit Go.Proofs
theorem s68 (J : Jmp) (x : Nat) : (compY Tryz.prog 7 (fun _ => none) (finY Tryz.prog [.tmp 2] [23]) J [] (bodyC Tryz.f68) (finY Tryz.prog [.tmp 2] [23]) []).run RB (setArgs 0 [i64 x] noFr) (baseH Tryz.prog) =
  (bi (nbeq (okN (PureAt Tryz.prog 130 [⟨3, x, 0, 0, 0, []⟩] ⟨3, clampN x, 0, 0, 0, []⟩)) 1)
 (bi (nble 9223372036854775808 (gt2 (fun a b => ((a.add (kMod (kCode IntKind.i64))).sub b).mod (kMod (kCode IntKind.i64))) 64 (clampN x)))
 (failR 9)
 (ansY ⟨7, shrN 7 18446744073709551615 (gt2 (fun a b => ((a.add (kMod (kCode IntKind.i64))).sub b).mod (kMod (kCode IntKind.i64))) 64 (clampN x)), 0, 0, 0, []⟩))
 (failR 301)) := by kernel_rfl
theorem s145 (J : Jmp) (x : Nat) : (compY Tryz.prog 6 (fun _ => none) (finY Tryz.prog [.tmp 2] [4]) J [] (bodyC Tryz.f145) (finY Tryz.prog [.tmp 2] [4]) []).run RB (setArgs 0 [i64 x] noFr) (baseH Tryz.prog) =
  (bi (nbeq (okN (PureAt Tryz.prog 148 [⟨3, x, 0, 0, 0, []⟩, ⟨24, 1, 0, 1, 0, [⟨3, 1, 0, 0, 0, []⟩, ⟨3, 2, 0, 0, 0, []⟩, ⟨3, 24, 0, 0, 0, []⟩, ⟨3, 25, 0, 0, 0, []⟩]⟩] ⟨8, bi (isA x [⟨3, 1, 0, 0, 0, []⟩, ⟨3, 2, 0, 0, 0, []⟩, ⟨3, 24, 0, 0, 0, []⟩, ⟨3, 25, 0, 0, 0, []⟩]) 1 0, 0, 0, 0, []⟩)) 1)
 (ansY ⟨8, bi (isA x [⟨3, 1, 0, 0, 0, []⟩, ⟨3, 2, 0, 0, 0, []⟩, ⟨3, 24, 0, 0, 0, []⟩, ⟨3, 25, 0, 0, 0, []⟩]) 1 0, 0, 0, 0, []⟩)
 (failR 301)) := by kernel_rfl
theorem s134 (J : Jmp) (x y z : Nat) : (compY Tryz.prog 26 (fun _ => none) (finY Tryz.prog [.tmp 6, .tmp 7] [3, 32]) J [] (bodyC Tryz.f134) (finY Tryz.prog [.tmp 6, .tmp 7] [3, 32]) []).run RB (setArgs 0 [i64 x, i64 y, u64 z] noFr) (baseH Tryz.prog) =
  (bi (nbeq (okN (PureAt Tryz.prog 133 [⟨3, y, 0, 0, 0, []⟩] ⟨8, bi (insN y) 1 0, 0, 0, 0, []⟩)) 1)
 (bi (nbeq (Nat.sub 1 (bi (insN y) 1 0)) 0)
 (bi (nbeq (bi (nbeq x 2) 1 0) 1)
 (bi (nbeq (bi (nb (nble (biased 3 y) 9223372036854775808)) 1 0) 1)
 (bi (nble 9223372036854775808 y)
 (failR 9)
 (bi (nbeq (bi (nb (nbeq (shrN 7 z y) 0)) 1 0) 1)
 (ansY ⟨16, 0, 0, 0, 0, [⟨3, 0, 0, 0, 0, []⟩, ⟨3, 3, 0, 0, 0, []⟩]⟩)
 (ansY ⟨16, 0, 0, 0, 0, [⟨3, y, 0, 0, 0, []⟩, ⟨3, 0, 0, 0, 0, []⟩]⟩)))
 (ansY ⟨16, 0, 0, 0, 0, [⟨3, y, 0, 0, 0, []⟩, ⟨3, 0, 0, 0, 0, []⟩]⟩))
 (ansY ⟨16, 0, 0, 0, 0, [⟨3, y, 0, 0, 0, []⟩, ⟨3, 0, 0, 0, 0, []⟩]⟩))
 (ansY ⟨16, 0, 0, 0, 0, [⟨3, 0, 0, 0, 0, []⟩, ⟨3, 3, 0, 0, 0, []⟩]⟩))
 (failR 301)) := by kernel_rfl
theorem s135 (J : Jmp) (x y z o : Nat) : (compY Tryz.prog 45 (fun _ => none) (finY Tryz.prog [.tmp 8, .tmp 9] [3, 32]) J [] (bodyC Tryz.f135) (finY Tryz.prog [.tmp 8, .tmp 9] [3, 32]) []).run RB (setArgs 0 [i64 x, i64 y, u64 z, i64 o] noFr) (baseH Tryz.prog) =
  (bi (nbeq (bi (nb (nble 9223372036854775809 (biased 3 y))) 1 0) 0)
 (bi (nbeq (bi (nb (nble (biased 3 y) 9223372036854775872)) 1 0) 0)
 (bi (nbeq (bi (nb (nble 9223372036854775809 (biased 3 o))) 1 0) 1)
 (ansY ⟨16, 0, 0, 0, 0, [⟨3, 0, 0, 0, 0, []⟩, ⟨3, 3, 0, 0, 0, []⟩]⟩)
 (bi (nbeq (bi (nb (nbeq x 21)) 1 0) 1)
 (bi (nbeq (bi (nb (nble (biased 3 o) (biased 3 y))) 1 0) 0)
 (bi (nbeq (bi (nbeq x 21) 1 0) 1)
 (bi (nbeq (bi (nb (nble (biased 3 y) (biased 3 o))) 1 0) 0)
 (bi (nbeq (bi (nb (nble (biased 7 z) (biased 7 (cnvN 3 7 (gt2 (fun a b => ((a.add (kMod (kCode IntKind.i64))).sub b).mod (kMod (kCode IntKind.i64))) o y))))) 1 0) 1)
 (ansY ⟨16, 0, 0, 0, 0, [⟨3, 0, 0, 0, 0, []⟩, ⟨3, 3, 0, 0, 0, []⟩]⟩)
 (ansY ⟨16, 0, 0, 0, 0, [⟨3, y, 0, 0, 0, []⟩, ⟨3, 0, 0, 0, 0, []⟩]⟩))
 (ansY ⟨16, 0, 0, 0, 0, [⟨3, 0, 0, 0, 0, []⟩, ⟨3, 3, 0, 0, 0, []⟩]⟩))
 (ansY ⟨16, 0, 0, 0, 0, [⟨3, y, 0, 0, 0, []⟩, ⟨3, 0, 0, 0, 0, []⟩]⟩))
 (ansY ⟨16, 0, 0, 0, 0, [⟨3, 0, 0, 0, 0, []⟩, ⟨3, 3, 0, 0, 0, []⟩]⟩))
 (bi (nbeq (bi (nbeq x 21) 1 0) 1)
 (bi (nbeq (bi (nb (nble (biased 3 y) (biased 3 o))) 1 0) 0)
 (bi (nbeq (bi (nb (nble (biased 7 z) (biased 7 (cnvN 3 7 (gt2 (fun a b => ((a.add (kMod (kCode IntKind.i64))).sub b).mod (kMod (kCode IntKind.i64))) o y))))) 1 0) 1)
 (ansY ⟨16, 0, 0, 0, 0, [⟨3, 0, 0, 0, 0, []⟩, ⟨3, 3, 0, 0, 0, []⟩]⟩)
 (ansY ⟨16, 0, 0, 0, 0, [⟨3, y, 0, 0, 0, []⟩, ⟨3, 0, 0, 0, 0, []⟩]⟩))
 (ansY ⟨16, 0, 0, 0, 0, [⟨3, 0, 0, 0, 0, []⟩, ⟨3, 3, 0, 0, 0, []⟩]⟩))
 (ansY ⟨16, 0, 0, 0, 0, [⟨3, y, 0, 0, 0, []⟩, ⟨3, 0, 0, 0, 0, []⟩]⟩))))
 (ansY ⟨16, 0, 0, 0, 0, [⟨3, 0, 0, 0, 0, []⟩, ⟨3, 3, 0, 0, 0, []⟩]⟩))
 (ansY ⟨16, 0, 0, 0, 0, [⟨3, 0, 0, 0, 0, []⟩, ⟨3, 3, 0, 0, 0, []⟩]⟩)) := by kernel_rfl
theorem s146 (J : Jmp) (x y z : Nat) : (compY Tryz.prog 31 (fun _ => none) (finY Tryz.prog [.tmp 6, .tmp 7] [3, 32]) J [] (bodyC Tryz.f146) (finY Tryz.prog [.tmp 6, .tmp 7] [3, 32]) []).run RB (setArgs 0 [i64 x, i64 y, u64 z] noFr) (baseH Tryz.prog) =
  (bi (nbeq (okN (PureAt Tryz.prog 144 [⟨3, y, 0, 0, 0, []⟩] ⟨8, bi (insN y) 1 0, 0, 0, 0, []⟩)) 1)
 (bi (nbeq (Nat.sub 1 (bi (insN y) 1 0)) 0)
 (bi (nbeq (bi (nbeq x 2) 1 0) 1)
 (bi (nbeq (bi (nb (nble (biased 3 y) 9223372036854775808)) 1 0) 1)
 (bi (nbeq (bi (nb (nble 9223372036854775872 (biased 3 y))) 1 0) 1)
 (bi (nble 18446744073709551616 (cnvN 3 7 y))
 (failR 9)
 (bi (nbeq (bi (nble (biased 7 (shlN 7 1 (cnvN 3 7 y))) (biased 7 z)) 1 0) 1)
 (ansY ⟨16, 0, 0, 0, 0, [⟨3, 0, 0, 0, 0, []⟩, ⟨3, 3, 0, 0, 0, []⟩]⟩)
 (ansY ⟨16, 0, 0, 0, 0, [⟨3, y, 0, 0, 0, []⟩, ⟨3, 0, 0, 0, 0, []⟩]⟩)))
 (ansY ⟨16, 0, 0, 0, 0, [⟨3, y, 0, 0, 0, []⟩, ⟨3, 0, 0, 0, 0, []⟩]⟩))
 (ansY ⟨16, 0, 0, 0, 0, [⟨3, y, 0, 0, 0, []⟩, ⟨3, 0, 0, 0, 0, []⟩]⟩))
 (ansY ⟨16, 0, 0, 0, 0, [⟨3, y, 0, 0, 0, []⟩, ⟨3, 0, 0, 0, 0, []⟩]⟩))
 (ansY ⟨16, 0, 0, 0, 0, [⟨3, 0, 0, 0, 0, []⟩, ⟨3, 3, 0, 0, 0, []⟩]⟩))
 (failR 301)) := by kernel_rfl
theorem s147 (J : Jmp) (x y z o : Nat) : (compY Tryz.prog 46 (fun _ => none) (finY Tryz.prog [.tmp 8, .tmp 9] [3, 32]) J [] (bodyC Tryz.f147) (finY Tryz.prog [.tmp 8, .tmp 9] [3, 32]) []).run RB (setArgs 0 [i64 x, i64 y, u64 z, i64 o] noFr) (baseH Tryz.prog) =
  (bi (nbeq (okN (PureAt Tryz.prog 144 [⟨3, y, 0, 0, 0, []⟩] ⟨8, bi (insN y) 1 0, 0, 0, 0, []⟩)) 1)
 (bi (nbeq (Nat.sub 1 (bi (insN y) 1 0)) 0)
 (bi (nbeq (bi (nb (nble 9223372036854775809 (biased 3 y))) 1 0) 0)
 (bi (nbeq (bi (nb (nble 9223372036854775809 (biased 3 o))) 1 0) 1)
 (ansY ⟨16, 0, 0, 0, 0, [⟨3, 0, 0, 0, 0, []⟩, ⟨3, 3, 0, 0, 0, []⟩]⟩)
 (bi (nbeq (bi (nbeq x 21) 1 0) 1)
 (bi (nbeq (bi (nb (nble (biased 3 y) (biased 3 o))) 1 0) 0)
 (bi (nbeq (bi (nb (nble (biased 7 z) (biased 7 (cnvN 3 7 (gt2 (fun a b => ((a.add (kMod (kCode IntKind.i64))).sub b).mod (kMod (kCode IntKind.i64))) o y))))) 1 0) 0)
 (bi (nbeq (bi (nb (nbeq x 21)) 1 0) 1)
 (bi (nbeq (bi (nb (nble (biased 3 o) (biased 3 y))) 1 0) 1)
 (ansY ⟨16, 0, 0, 0, 0, [⟨3, 0, 0, 0, 0, []⟩, ⟨3, 3, 0, 0, 0, []⟩]⟩)
 (ansY ⟨16, 0, 0, 0, 0, [⟨3, y, 0, 0, 0, []⟩, ⟨3, 0, 0, 0, 0, []⟩]⟩))
 (ansY ⟨16, 0, 0, 0, 0, [⟨3, y, 0, 0, 0, []⟩, ⟨3, 0, 0, 0, 0, []⟩]⟩))
 (ansY ⟨16, 0, 0, 0, 0, [⟨3, 0, 0, 0, 0, []⟩, ⟨3, 3, 0, 0, 0, []⟩]⟩))
 (ansY ⟨16, 0, 0, 0, 0, [⟨3, 0, 0, 0, 0, []⟩, ⟨3, 3, 0, 0, 0, []⟩]⟩))
 (bi (nbeq (bi (nb (nbeq x 21)) 1 0) 1)
 (bi (nbeq (bi (nb (nble (biased 3 o) (biased 3 y))) 1 0) 1)
 (ansY ⟨16, 0, 0, 0, 0, [⟨3, 0, 0, 0, 0, []⟩, ⟨3, 3, 0, 0, 0, []⟩]⟩)
 (ansY ⟨16, 0, 0, 0, 0, [⟨3, y, 0, 0, 0, []⟩, ⟨3, 0, 0, 0, 0, []⟩]⟩))
 (ansY ⟨16, 0, 0, 0, 0, [⟨3, y, 0, 0, 0, []⟩, ⟨3, 0, 0, 0, 0, []⟩]⟩))))
 (ansY ⟨16, 0, 0, 0, 0, [⟨3, 0, 0, 0, 0, []⟩, ⟨3, 3, 0, 0, 0, []⟩]⟩))
 (ansY ⟨16, 0, 0, 0, 0, [⟨3, 0, 0, 0, 0, []⟩, ⟨3, 3, 0, 0, 0, []⟩]⟩))
 (failR 301)) := by kernel_rfl
theorem s32 (J : Jmp) (x y : Nat) : (compY Tryz.prog 22 lab32 (finY Tryz.prog [.tmp 4] [23]) J [] (bodyC Tryz.f32) (finY Tryz.prog [.tmp 4] [23]) []).run RB (setArgs 0 [i64 x, u64 y] noFr) (baseH Tryz.prog) =
  (bi (nbeq (okN (PureAt Tryz.prog 74 [⟨3, x, 0, 0, 0, []⟩] ⟨3, clampN x, 0, 0, 0, []⟩)) 1)
 (J [0, 0, 1, 0, 1, 1] [⟨7, y, 0, 0, 0, []⟩, ⟨7, 0, 0, 0, 0, []⟩, ⟨3, clampN x, 0, 0, 0, []⟩, ⟨3, 0, 0, 0, 0, []⟩])
 (failR 301)) := by kernel_rfl
theorem l32 (J : Jmp) (y a n i : Nat) : lblY Tryz.prog 22 lab32 (baseH Tryz.prog) RB (finY Tryz.prog [.tmp 4] [23]) (bodyC Tryz.f32) J [0,0,1,0,1,1] [u64 y, u64 a, i64 n, i64 i] =
  (bi (nbeq (bi (nb (nble (biased 3 n) (biased 3 i))) 1 0) 1)
 (bi (nbeq (okN (PureAt Tryz.prog 75 [⟨7, y, 0, 0, 0, []⟩, ⟨3, i, 0, 0, 0, []⟩] ⟨7, bitN y i, 0, 0, 0, []⟩)) 1)
 (bi (nble 18446744073709551616 (cnvN 3 7 i))
 (failR 9)
 (J [0, 0, 1, 0, 1, 1] [⟨7, y, 0, 0, 0, []⟩, ⟨7, gt2 (fun a b => a.lor b) a (shlN 7 (bitN y i) (cnvN 3 7 i)), 0, 0, 0, []⟩, ⟨3, n, 0, 0, 0, []⟩, ⟨3, gt2 (fun a b => (a.add b).mod (kMod (kCode IntKind.i64))) i 1, 0, 0, 0, []⟩]))
 (failR 301))
 (ansY ⟨7, a, 0, 0, 0, []⟩)) := by kernel_rfl
theorem body68 : Tryz.f68.body = some (bodyC Tryz.f68) := by kernel_rfl
theorem fn68 : Tryz.prog.funcs[68]? = some Tryz.f68 := by kernel_rfl
theorem nt68 : Tryz.f68.ntmps = 7 := by kernel_rfl
theorem rs68 : Tryz.f68.results.toList = [.tmp 2] := by kernel_rfl
theorem body145 : Tryz.f145.body = some (bodyC Tryz.f145) := by kernel_rfl
theorem fn145 : Tryz.prog.funcs[145]? = some Tryz.f145 := by kernel_rfl
theorem nt145 : Tryz.f145.ntmps = 6 := by kernel_rfl
theorem rs145 : Tryz.f145.results.toList = [.tmp 2] := by kernel_rfl
theorem body134 : Tryz.f134.body = some (bodyC Tryz.f134) := by kernel_rfl
theorem fn134 : Tryz.prog.funcs[134]? = some Tryz.f134 := by kernel_rfl
theorem nt134 : Tryz.f134.ntmps = 26 := by kernel_rfl
theorem rs134 : Tryz.f134.results.toList = [.tmp 6, .tmp 7] := by kernel_rfl
theorem body135 : Tryz.f135.body = some (bodyC Tryz.f135) := by kernel_rfl
theorem fn135 : Tryz.prog.funcs[135]? = some Tryz.f135 := by kernel_rfl
theorem nt135 : Tryz.f135.ntmps = 45 := by kernel_rfl
theorem rs135 : Tryz.f135.results.toList = [.tmp 8, .tmp 9] := by kernel_rfl
theorem body146 : Tryz.f146.body = some (bodyC Tryz.f146) := by kernel_rfl
theorem fn146 : Tryz.prog.funcs[146]? = some Tryz.f146 := by kernel_rfl
theorem nt146 : Tryz.f146.ntmps = 31 := by kernel_rfl
theorem rs146 : Tryz.f146.results.toList = [.tmp 6, .tmp 7] := by kernel_rfl
theorem body147 : Tryz.f147.body = some (bodyC Tryz.f147) := by kernel_rfl
theorem fn147 : Tryz.prog.funcs[147]? = some Tryz.f147 := by kernel_rfl
theorem nt147 : Tryz.f147.ntmps = 46 := by kernel_rfl
theorem rs147 : Tryz.f147.results.toList = [.tmp 8, .tmp 9] := by kernel_rfl
theorem body32 : Tryz.f32.body = some (bodyC Tryz.f32) := by kernel_rfl
theorem fn32 : Tryz.prog.funcs[32]? = some Tryz.f32 := by kernel_rfl
theorem nt32 : Tryz.f32.ntmps = 22 := by kernel_rfl
theorem rs32 : Tryz.f32.results.toList = [.tmp 4] := by kernel_rfl
theorem body29 : Tryz.f29.body = some (bodyC Tryz.f29) := by kernel_rfl
theorem fn29 : Tryz.prog.funcs[29]? = some Tryz.f29 := by kernel_rfl
theorem nt29 : Tryz.f29.ntmps = 9 := by kernel_rfl
theorem rs29 : Tryz.f29.results.toList = [.tmp 4] := by kernel_rfl

theorem clamp_range {x : Nat} (hx : x < 2 ^ 64) : 1 ≤ clampN x ∧ clampN x ≤ 64 := by
  unfold clampN
  have key : ∀ y, y < 2 ^ 64 → 1 ≤ y → y < 2 ^ 63 → 1 ≤ bi (nble (biased 3 y) 9223372036854775872) y 64 ∧ bi (nble (biased 3 y) 9223372036854775872) y 64 ≤ 64 := by
    intro y hy h1 h2
    rw [biased3s h2]
    by_cases h : y + 2 ^ 63 ≤ 9223372036854775872
    · rw [nble_t h, bi_true]; omega
    · rw [nble_f h, bi_false]; omega
  by_cases h : biased 3 x ≤ 9223372036854775809
  · rw [nble_t h, bi_true]
    exact key 1 (by omega) (by omega) (by omega)
  · rw [nble_f h, bi_false]
    rw [biased3] at h
    exact key x hx (by omega) (by omega)
noncomputable section
def maskN (x : Nat) : Nat := 2 ^ clampN x - 1
def cutN (w x : Nat) : Nat := x % 2 ^ clampN w
def leafR (x : Nat) : Bool := isS x [1, 2, 24, 25]
/-- the width of a leaf -/
def lfP (x y z : Nat) : Bool := bi (insN y) (bi (nbeq x 2) (bi (nbeq y 0) true (nbeq (z / 2 ^ y) 0)) true) false
/-- the width of extract, zext, sext -/
def rsP (x y z o : Nat) : Bool := bi (nble 9223372036854775809 (biased 3 y)) (bi (nble (biased 3 y) 9223372036854775872) (bi (nble 9223372036854775809 (biased 3 o)) (bi (nbeq x 21) (bi (nble (biased 3 y) (biased 3 o)) (nble z (o - y)) false) (nble (biased 3 o) (biased 3 y))) false) false) false
end
theorem sub64 {c : Nat} (h : c ≤ 64) : gt2 (fun a b => ((a.add (kMod (kCode IntKind.i64))).sub b).mod (kMod (kCode IntKind.i64))) 64 c = 64 - c := by
  rw [gt2_eq]
  have e : kMod (kCode IntKind.i64) = 2 ^ 64 := by decide +kernel
  rw [e]
  have h1 : ∀ a b m : Nat, Nat.mod (Nat.sub (Nat.add 64 a) b) m = (64 + a - b) % m := fun _ _ _ => rfl
  rw [h1]
  omega
theorem subN {o y : Nat} (h : y ≤ o) (ho : o < 2 ^ 64) : gt2 (fun a b => ((a.add (kMod (kCode IntKind.i64))).sub b).mod (kMod (kCode IntKind.i64))) o y = o - y := by
  rw [gt2_eq]
  have e : kMod (kCode IntKind.i64) = 2 ^ 64 := by decide +kernel
  rw [e]
  have h1 : ∀ a b m : Nat, Nat.mod (Nat.sub (Nat.add o a) b) m = (o + a - b) % m := fun _ _ _ => rfl
  rw [h1]
  omega
theorem mask_shr {c : Nat} (h1 : 1 ≤ c) (h2 : c ≤ 64) : (2 ^ 64 - 1) / 2 ^ (64 - c) = 2 ^ c - 1 := by
  have e : (2 : Nat) ^ 64 = 2 ^ (64 - c) * 2 ^ c := by rw [← Nat.pow_add]; congr 1; omega
  have hp : 0 < 2 ^ (64 - c) := Nat.two_pow_pos _
  have hq : 0 < 2 ^ c := Nat.two_pow_pos _
  rw [e]
  obtain ⟨q, hq2⟩ : ∃ q, 2 ^ c = q + 1 := ⟨2 ^ c - 1, by omega⟩
  rw [hq2]
  have : 2 ^ (64 - c) * (q + 1) - 1 = (2 ^ (64 - c) - 1) + 2 ^ (64 - c) * q := by rw [Nat.mul_add, Nat.mul_one]; omega
  rw [this, Nat.add_mul_div_left _ _ hp, Nat.div_eq_of_lt (by omega)]
  omega
theorem pure68 (x : Nat) (hx : x < 2 ^ 64) : PureAt Tryz.prog 68 [i64 x] (u64 (maskN x)) := by
  refine pure_fn mixed globs fn68 body68 nt68 rs68 RB_ok (fun _ => none) [23] 0 ((s68 _ x).trans ?_)
  obtain ⟨h1, h2⟩ := clamp_range hx
  have p := okN_one.2 (pure130 x)
  simp only [i64] at p
  rw [p, sub64 h2, nble_f (show ¬ 9223372036854775808 ≤ 64 - clampN x by omega)]
  have := shr_mod (x := 18446744073709551615) (y := 64 - clampN x) (by omega) (by omega)
  rw [this]
  have e := mask_shr h1 h2
  have e2 : (18446744073709551615 : Nat) = 2 ^ 64 - 1 := by decide
  rw [e2, e]
  rfl
noncomputable section
def NtD : Nat → Option Native := ntL [(68, natP Tryz.prog 68 [3] fun l => u64 (maskN (nthL l 0).p))]
def RD : Rec := evN Tryz.prog NtD (fun _ => false) 2
end
theorem RD_ok : RecOk Tryz.prog RD := evN_ok mixed (ntL_cons ntL_nil) noGor 2
theorem s29 (J : Jmp) (x y : Nat) : (compY Tryz.prog 9 (fun _ => none) (finY Tryz.prog [.tmp 4] [23]) J [] (bodyC Tryz.f29) (finY Tryz.prog [.tmp 4] [23]) []).run RD (setArgs 0 [i64 x, u64 y] noFr) (baseH Tryz.prog) =
  (bi (nbeq (okN (PureAt Tryz.prog 68 [i64 x] (u64 (maskN x)))) 1) (ansY (u64 (gt2 (fun a b => a.land b) y (maskN x)))) (failR 301)) := by kernel_rfl
theorem pure29 (x y : Nat) (hx : x < 2 ^ 64) : PureAt Tryz.prog 29 [i64 x, u64 y] (u64 (cutN x y)) := by
  refine pure_fn mixed globs fn29 body29 nt29 rs29 RD_ok (fun _ => none) [23] 0 ((s29 _ x y).trans ?_)
  rw [okN_one.2 (pure68 x hx), gt2_eq]
  have : Nat.land y (maskN x) = cutN x y := Nat.and_two_pow_sub_one_eq_mod _ _
  rw [this]
  rfl
theorem pure145 (x : Nat) : PureAt Tryz.prog 145 [i64 x] (bV (leafR x)) := by
  refine pure_fn mixed globs fn145 body145 nt145 rs145 RB_ok (fun _ => none) [4] 0 ((s145 _ x).trans ?_)
  exact okN_bi (pure148 x 1 [1, 2, 24, 25] (by decide)) _ _
theorem ins_iff {y : Nat} (hy : y < 2 ^ 64) : insN y = decide (y ≤ 64) := by
  unfold insN
  rw [nble_dec, nble_dec, biased3, Bool.eq_iff_iff, bi_and, decide_eq_true_eq, decide_eq_true_eq, decide_eq_true_eq]
  omega
theorem shr_z {z y : Nat} (hy : y ≤ 64) (hz : z < 2 ^ 64) : shrN 7 z y = z / 2 ^ y := by
  by_cases h : y = 64
  · subst h
    unfold shrN
    rw [gt2_eq]
    have e1 : isNeg 7 z = false := by
      unfold isNeg
      have e : kHalf 7 = 2 ^ 64 := by decide +kernel
      rw [e]; exact nble_f (by omega)
    have e2 : nble (kBits 7) 64 = true := by decide +kernel
    rw [e1, bi_false, e2, bi_true]
    exact (Nat.div_eq_of_lt hz).symm
  · exact shr_mod (by omega) hz
theorem y0_iff {y : Nat} (hy : y ≤ 64) : nble (biased 3 y) 9223372036854775808 = nbeq y 0 := by
  rw [nble_dec, nbeq_dec, biased3, decide_eq_decide]
  omega
theorem pure134 (x y z : Nat) (hy : y < 2 ^ 64) (hz : z < 2 ^ 64) : PureAt Tryz.prog 134 [i64 x, i64 y, u64 z] (tupV [i64 (bi (lfP x y z) y 0), i64 (bi (lfP x y z) 0 3)]) := by
  refine pure_fn mixed globs fn134 body134 nt134 rs134 RB_ok (fun _ => none) [3, 32] 0 ((s134 _ x y z).trans ?_)
  have p := okN_one.2 (pure133 y)
  simp only [i64, bV, mk1] at p
  rw [p]
  unfold lfP
  have hb0 : ∀ (c : Bool) (α : Type) (a b : α), bi (nbeq (Nat.sub 1 (bi c 1 0)) 0) a b = bi c a b := fun c α a b => by cases c <;> rfl
  simp only [n11, bi_tt, hb0, bl_bi]
  cases hi : insN y
  · rfl
  · rw [ins_iff hy, decide_eq_true_eq] at hi
    rw [y0_iff hi, shr_z hi hz, nble_f (show ¬ 9223372036854775808 ≤ y by omega)]
    cases nbeq x 2 <;> cases nbeq y 0 <;> cases nbeq (z / 2 ^ y) 0 <;> rfl
theorem shl_bit {b i : Nat} (hb : b < 2) (hi : i < 64) : shlN 7 b i = 2 ^ i * b := by
  unfold shlN
  rw [gt2_eq]
  have e2 : kBits 7 = 64 := by decide +kernel
  have e : kMod 7 = 2 ^ 64 := by decide +kernel
  rw [e2, nble_f (by omega), bi_false, e]
  have h1 : Nat.shiftLeft b i = b * 2 ^ i := Nat.shiftLeft_eq b i
  rw [h1]
  have h2 : b * 2 ^ i < 2 ^ 64 := by
    have : 2 ^ i ≤ 2 ^ 63 := Nat.pow_le_pow_right (by omega) (by omega)
    have : b * 2 ^ i ≤ 1 * 2 ^ 63 := Nat.mul_le_mul (by omega) this
    omega
  show b * 2 ^ i % 2 ^ 64 = _
  rw [Nat.mod_eq_of_lt h2, Nat.mul_comm]
theorem pure146 (x y z : Nat) (hy : y < 2 ^ 64) (hz : z < 2 ^ 64) : PureAt Tryz.prog 146 [i64 x, i64 y, u64 z] (tupV [i64 (bi (lfP x y z) y 0), i64 (bi (lfP x y z) 0 3)]) := by
  refine pure_fn mixed globs fn146 body146 nt146 rs146 RB_ok (fun _ => none) [3, 32] 0 ((s146 _ x y z).trans ?_)
  have p := okN_one.2 (pure144 y)
  simp only [i64, bV, mk1] at p
  rw [p]
  unfold lfP
  have hb0 : ∀ (c : Bool) (α : Type) (a b : α), bi (nbeq (Nat.sub 1 (bi c 1 0)) 0) a b = bi c a b := fun c α a b => by cases c <;> rfl
  simp only [n11, bi_tt, hb0, bl_bi]
  cases hi : insN y
  · rfl
  · rw [ins_iff hy, decide_eq_true_eq] at hi
    have e64 : nble 9223372036854775872 (biased 3 y) = nbeq y 64 := by
      rw [nble_dec, nbeq_dec, biased3, decide_eq_decide]; omega
    rw [y0_iff hi, e64, cnv_mod y hy, nble_f (show ¬ 18446744073709551616 ≤ y by omega)]
    by_cases h64 : y = 64
    · subst h64
      have ez : z / 2 ^ 64 = 0 := Nat.div_eq_of_lt hz
      rw [ez]
      cases nbeq x 2 <;> rfl
    · have es : shlN 7 1 y = 2 ^ y := by rw [shl_bit (by omega) (by omega), Nat.mul_one]
      have e7 : ∀ x, x < 2 ^ 64 → biased 7 x = x := by
        intro x hx
        have u : biased 7 x = (x + 2 ^ 64) % 2 ^ 64 := gt_eq _ x
        rw [u]; omega
      have h2 : 2 ^ y < 2 ^ 64 := Nat.pow_lt_pow_right (by omega) (by omega)
      have ed : nble (2 ^ y) z = nb (nbeq (z / 2 ^ y) 0) := by
        rw [nble_dec, nbeq_dec]
        by_cases h : 2 ^ y ≤ z
        · have : z / 2 ^ y ≠ 0 := by
            have := Nat.div_pos h (Nat.two_pow_pos y); omega
          rw [decide_eq_true h, decide_eq_false this]; rfl
        · rw [decide_eq_false h, Nat.div_eq_of_lt (by omega)]; rfl
      rw [es, e7 _ h2, e7 _ hz, ed, beq_false.2 h64]
      cases nbeq x 2 <;> cases nbeq y 0 <;> cases nbeq (z / 2 ^ y) 0 <;> rfl
theorem ins1 {y : Nat} (h : insN y = false) : bi (nble 9223372036854775809 (biased 3 y)) (nble (biased 3 y) 9223372036854775872) false = false := by
  unfold insN at h
  rw [← Bool.not_eq_true, bi_and, ble_true, ble_true] at h ⊢
  omega
theorem ins2 {y : Nat} (h : insN y = true) : nble (biased 3 y) 9223372036854775872 = true := by
  unfold insN at h
  exact (bi_and.1 h).2
theorem rs_sub {y o z : Nat} (h1 : nble 9223372036854775809 (biased 3 y) = true) (h2 : nble (biased 3 y) (biased 3 o) = true) (hy : y < 2 ^ 64) (ho : o < 2 ^ 64) (hz : z < 2 ^ 64) : nble (biased 7 z) (biased 7 (cnvN 3 7 (gt2 (fun a b => ((a.add (kMod (kCode IntKind.i64))).sub b).mod (kMod (kCode IntKind.i64))) o y))) = nble z (o - y) := by
  have h1 := ble_true.1 h1
  have h2 := ble_true.1 h2
  rw [biased3] at h1 h2
  rw [biased3] at h2
  have hyo : y ≤ o := by omega
  rw [subN hyo ho, cnv_mod _ (by omega)]
  have b7 : ∀ x, x < 2 ^ 64 → biased 7 x = x := by
    intro x hx
    have u : biased 7 x = (x + 2 ^ 64) % 2 ^ 64 := gt_eq _ x
    rw [u]; omega
  rw [b7 _ hz, b7 _ (by omega)]
theorem pure135 (x y z o : Nat) (hy : y < 2 ^ 64) (hz : z < 2 ^ 64) (ho : o < 2 ^ 64) : PureAt Tryz.prog 135 [i64 x, i64 y, u64 z, i64 o] (tupV [i64 (bi (rsP x y z o) y 0), i64 (bi (rsP x y z o) 0 3)]) := by
  refine pure_fn mixed globs fn135 body135 nt135 rs135 RB_ok (fun _ => none) [3, 32] 0 ((s135 _ x y z o).trans ?_)
  unfold rsP
  have hnb : ∀ (c : Bool) (α : Type) (a b : α), bi (nbeq (bi (nb c) 1 0) 0) a b = bi c a b := fun c α a b => by cases c <;> rfl
  have hnb1 : ∀ (c : Bool) (α : Type) (a b : α), bi (nbeq (bi (nb c) 1 0) 1) a b = bi c b a := fun c α a b => by cases c <;> rfl
  simp only [hnb, hnb1, bl_bi]
  cases h1 : nble 9223372036854775809 (biased 3 y)
  · rfl
  cases nble (biased 3 y) 9223372036854775872
  · rfl
  cases nble 9223372036854775809 (biased 3 o)
  · rfl
  cases nbeq x 21
  · cases nble (biased 3 o) (biased 3 y) <;> rfl
  cases h2 : nble (biased 3 y) (biased 3 o)
  · rfl
  rw [rs_sub h1 h2 hy ho hz]
  cases nble z (o - y) <;> rfl
theorem pure147 (x y z o : Nat) (hy : y < 2 ^ 64) (hz : z < 2 ^ 64) (ho : o < 2 ^ 64) : PureAt Tryz.prog 147 [i64 x, i64 y, u64 z, i64 o] (tupV [i64 (bi (rsP x y z o) y 0), i64 (bi (rsP x y z o) 0 3)]) := by
  refine pure_fn mixed globs fn147 body147 nt147 rs147 RB_ok (fun _ => none) [3, 32] 0 ((s147 _ x y z o).trans ?_)
  have p := okN_one.2 (pure144 y)
  simp only [i64, bV, mk1] at p
  rw [p]
  have hb0 : ∀ (c : Bool) (α : Type) (a b : α), bi (nbeq (Nat.sub 1 (bi c 1 0)) 0) a b = bi c a b := fun c α a b => by cases c <;> rfl
  have hnb : ∀ (c : Bool) (α : Type) (a b : α), bi (nbeq (bi (nb c) 1 0) 0) a b = bi c a b := fun c α a b => by cases c <;> rfl
  have hnb1 : ∀ (c : Bool) (α : Type) (a b : α), bi (nbeq (bi (nb c) 1 0) 1) a b = bi c b a := fun c α a b => by cases c <;> rfl
  simp only [n11, bi_tt, hb0, hnb, hnb1, bl_bi]
  cases hi : insN y
  · have e := ins1 hi
    have : rsP x y z o = false := by
      unfold rsP
      cases h1 : nble 9223372036854775809 (biased 3 y)
      · rfl
      · rw [h1, bi_true] at e
        rw [e]; rfl
    rw [this]; rfl
  · unfold rsP
    rw [ins2 hi]
    cases h1 : nble 9223372036854775809 (biased 3 y)
    · rfl
    cases nble 9223372036854775809 (biased 3 o)
    · rfl
    cases h21 : nbeq x 21
    · cases nble (biased 3 o) (biased 3 y) <;> rfl
    cases h2 : nble (biased 3 y) (biased 3 o)
    · rfl
    rw [rs_sub h1 h2 hy ho hz]
    cases nble z (o - y) <;> rfl
theorem loop32 (y n : Nat) (hy : y < 2 ^ 64) (hn : n ≤ 64) : ∀ k i, i + k = n → jmpN Tryz.prog 22 lab32 (baseH Tryz.prog) RB (finY Tryz.prog [.tmp 4] [23]) (bodyC Tryz.f32) (k + 1) [0,0,1,0,1,1] [u64 y, u64 (y % 2 ^ i), i64 n, i64 i] = ansY (u64 (y % 2 ^ n)) := by
  intro k
  induction k with
  | zero =>
    intro i hi
    have e : i = n := by omega
    subst e
    have hx : i < 2 ^ 63 := by omega
    rw [jmpN_succ, l32]
    simp only [bl_bi, n11, n01, biased_le hx hx, Nat.le_refl, decide_true, nb_t, bi_ff, mk_u64]
  | succ k ih =>
    intro i hi
    have hi63 : i < 2 ^ 63 := by omega
    have hn63 : n < 2 ^ 63 := by omega
    have p := okN_one.2 (pure75 y i hy (by omega))
    have eb : y / 2 ^ i % 2 = bitN y i := by unfold bitN; rw [gt2_eq]
    rw [eb] at p
    simp only [i64, u64] at p
    rw [jmpN_succ, l32, p]
    simp only [bl_bi, n11, n01, biased_le hn63 hi63, show ¬ n ≤ i by omega, decide_false, nb_f, bi_tt, succ_mod hi63, cnv_mod i (by omega), nble_f (show ¬ 18446744073709551616 ≤ i by omega), bi_ff, mk_u64, mk_i64]
    have hbl : bitN y i < 2 := by rw [← eb]; exact Nat.mod_lt _ (by omega)
    rw [shl_bit hbl (by omega), gt2_eq]
    have e2 : Nat.lor (y % 2 ^ i) (2 ^ i * bitN y i) = y % 2 ^ (i + 1) := by
      show y % 2 ^ i ||| 2 ^ i * bitN y i = _
      rw [Nat.or_comm, ← Nat.two_pow_add_eq_or_of_lt (Nat.mod_lt _ (Nat.two_pow_pos i)), Nat.pow_succ, Nat.mod_mul, eb, Nat.add_comm]
    rw [e2]
    exact ih (i + 1) (by omega)
theorem pure32 (x y : Nat) (hx : x < 2 ^ 64) (hy : y < 2 ^ 64) : PureAt Tryz.prog 32 [i64 x, u64 y] (u64 (cutN x y)) := by
  obtain ⟨h1, h2⟩ := clamp_range hx
  have h := loop32 y (clampN x) hy h2 (clampN x) 0 (by omega)
  rw [Nat.pow_zero, Nat.mod_one] at h
  refine pure_fn mixed globs fn32 body32 nt32 rs32 RB_ok lab32 [23] (clampN x + 1) ((s32 _ x y).trans ?_)
  exact (okN_bi (pure74 x) _ _).trans h
end Go.Eng
namespace Go.Eng
open Go.RowKit Go.Proofs
theorem s37 (J : Jmp) (to tw tv tq tn tp d n : Nat) (tl : List AV) : (compY Tryz.prog 37 lab37 (finY Tryz.prog [.tmp 6] [3]) J [] (bodyC Tryz.f37) (finY Tryz.prog [.tmp 6] [3]) []).run RC (setArgs 0 [tmV to tw tv tq tn tp tl, i64 d, i64 n] noFr) (baseH Tryz.prog) =
  (bi (nbeq (bi (nb (nble 9223372036854775809 (biased 3 d))) 1 0) 0)
 (bi (nbeq (bi (nb (nble 9223372036854775809 (biased 3 n))) 1 0) 1)
 (ansY ⟨3, 18446744073709551615, 0, 0, 0, []⟩)
 (J [0, 0, 1, 0, 1, 1, 1] [⟨3, d, 0, 0, 0, []⟩, ⟨3, gt2 (fun a b => ((a.add (kMod (kCode IntKind.i64))).sub b).mod (kMod (kCode IntKind.i64))) n 1, 0, 0, 0, []⟩, ⟨16, 0, 0, 1, 0, [⟨3, to, 0, 0, 0, []⟩, ⟨3, tw, 0, 0, 0, []⟩, ⟨7, tv, 0, 0, 0, []⟩, ⟨9, tn, tq, 0, 0, []⟩, ⟨24, tp, 0, 5, 0, tl⟩]⟩, ⟨3, 0, 0, 0, 0, []⟩]))
 (ansY ⟨3, 18446744073709551615, 0, 0, 0, []⟩)) := by kernel_rfl
theorem l37 (J : Jmp) (d n to tw tv tq tn tp i : Nat) (tl : List AV) : lblY Tryz.prog 37 lab37 (baseH Tryz.prog) RC (finY Tryz.prog [.tmp 6] [3]) (bodyC Tryz.f37) J [0,0,1,0,1,1,1] [i64 d, i64 n, bxD [i64 to, i64 tw, u64 tv, stA tq tn, slP tp 5 tl], i64 i] =
  (bi (nbeq (bi (nb (nble (biased 3 (lenL tl)) (biased 3 i))) 1 0) 1)
 (bi (nbeq (bi (nble 9223372036854775808 (biased 3 n)) 1 0) 1)
 (bi (nble i.succ (lenL tl))
 (bi (bi (tagIs 3 (nthL (bi (nbeq (nthL [nthL tl i] 0).1 15) (nthL [nthL tl i] 0).6 [nthL [nthL tl i] 0]) 0)) (bi (tagIs 3 (nthL (bi (nbeq (nthL [nthL tl i] 0).1 15) (nthL [nthL tl i] 0).6 [nthL [nthL tl i] 0]) (Nat.succ 0))) (bi (tagIs 7 (nthL (bi (nbeq (nthL [nthL tl i] 0).1 15) (nthL [nthL tl i] 0).6 [nthL [nthL tl i] 0]) (Nat.succ 0).succ)) (bi (tagIs 9 (nthL (bi (nbeq (nthL [nthL tl i] 0).1 15) (nthL [nthL tl i] 0).6 [nthL [nthL tl i] 0]) (Nat.succ 0).succ.succ)) (bi (tagIs 37 (nthL (bi (nbeq (nthL [nthL tl i] 0).1 15) (nthL [nthL tl i] 0).6 [nthL [nthL tl i] 0]) (Nat.succ 0).succ.succ.succ)) true false) false) false) false) false)
 (bi (nbeq (okN (PureAt Tryz.prog 37 [⟨15, 0, 0, 0, 0, [⟨3, (nthL (bi (nbeq (nthL [nthL tl i] 0).1 15) (nthL [nthL tl i] 0).6 [nthL [nthL tl i] 0]) 0).2, 0, 0, 0, []⟩, ⟨3, (nthL (bi (nbeq (nthL [nthL tl i] 0).1 15) (nthL [nthL tl i] 0).6 [nthL [nthL tl i] 0]) (Nat.succ 0)).2, 0, 0, 0, []⟩, ⟨7, (nthL (bi (nbeq (nthL [nthL tl i] 0).1 15) (nthL [nthL tl i] 0).6 [nthL [nthL tl i] 0]) (Nat.succ 0).succ).2, 0, 0, 0, []⟩, ⟨9, (nthL (bi (nbeq (nthL [nthL tl i] 0).1 15) (nthL [nthL tl i] 0).6 [nthL [nthL tl i] 0]) (Nat.succ 0).succ.succ).2, (nthL (bi (nbeq (nthL [nthL tl i] 0).1 15) (nthL [nthL tl i] 0).6 [nthL [nthL tl i] 0]) (Nat.succ 0).succ.succ).3, 0, 0, []⟩, ⟨24, (nthL (bi (nbeq (nthL [nthL tl i] 0).1 15) (nthL [nthL tl i] 0).6 [nthL [nthL tl i] 0]) (Nat.succ 0).succ.succ.succ).2, 0, 5, 0, (nthL (bi (nbeq (nthL [nthL tl i] 0).1 15) (nthL [nthL tl i] 0).6 [nthL [nthL tl i] 0]) (Nat.succ 0).succ.succ.succ).6⟩]⟩, ⟨3, gt2 (fun a b => ((a.add (kMod (kCode IntKind.i64))).sub b).mod (kMod (kCode IntKind.i64))) d 1, 0, 0, 0, []⟩, ⟨3, n, 0, 0, 0, []⟩] ⟨3, cntN (unTm ⟨15, 0, 0, 0, 0, [⟨3, (nthL (bi (nbeq (nthL [nthL tl i] 0).1 15) (nthL [nthL tl i] 0).6 [nthL [nthL tl i] 0]) 0).2, 0, 0, 0, []⟩, ⟨3, (nthL (bi (nbeq (nthL [nthL tl i] 0).1 15) (nthL [nthL tl i] 0).6 [nthL [nthL tl i] 0]) (Nat.succ 0)).2, 0, 0, 0, []⟩, ⟨7, (nthL (bi (nbeq (nthL [nthL tl i] 0).1 15) (nthL [nthL tl i] 0).6 [nthL [nthL tl i] 0]) (Nat.succ 0).succ).2, 0, 0, 0, []⟩, ⟨9, (nthL (bi (nbeq (nthL [nthL tl i] 0).1 15) (nthL [nthL tl i] 0).6 [nthL [nthL tl i] 0]) (Nat.succ 0).succ.succ).2, (nthL (bi (nbeq (nthL [nthL tl i] 0).1 15) (nthL [nthL tl i] 0).6 [nthL [nthL tl i] 0]) (Nat.succ 0).succ.succ).3, 0, 0, []⟩, ⟨24, (nthL (bi (nbeq (nthL [nthL tl i] 0).1 15) (nthL [nthL tl i] 0).6 [nthL [nthL tl i] 0]) (Nat.succ 0).succ.succ.succ).2, 0, 5, 0, (nthL (bi (nbeq (nthL [nthL tl i] 0).1 15) (nthL [nthL tl i] 0).6 [nthL [nthL tl i] 0]) (Nat.succ 0).succ.succ.succ).6⟩]⟩) (gt2 (fun a b => ((a.add (kMod (kCode IntKind.i64))).sub b).mod (kMod (kCode IntKind.i64))) d 1) n, 0, 0, 0, []⟩)) 1)
 (J [0, 0, 1, 0, 1, 1, 1] [⟨3, d, 0, 0, 0, []⟩, ⟨3, cntN (unTm ⟨15, 0, 0, 0, 0, [⟨3, (nthL (bi (nbeq (nthL [nthL tl i] 0).1 15) (nthL [nthL tl i] 0).6 [nthL [nthL tl i] 0]) 0).2, 0, 0, 0, []⟩, ⟨3, (nthL (bi (nbeq (nthL [nthL tl i] 0).1 15) (nthL [nthL tl i] 0).6 [nthL [nthL tl i] 0]) (Nat.succ 0)).2, 0, 0, 0, []⟩, ⟨7, (nthL (bi (nbeq (nthL [nthL tl i] 0).1 15) (nthL [nthL tl i] 0).6 [nthL [nthL tl i] 0]) (Nat.succ 0).succ).2, 0, 0, 0, []⟩, ⟨9, (nthL (bi (nbeq (nthL [nthL tl i] 0).1 15) (nthL [nthL tl i] 0).6 [nthL [nthL tl i] 0]) (Nat.succ 0).succ.succ).2, (nthL (bi (nbeq (nthL [nthL tl i] 0).1 15) (nthL [nthL tl i] 0).6 [nthL [nthL tl i] 0]) (Nat.succ 0).succ.succ).3, 0, 0, []⟩, ⟨24, (nthL (bi (nbeq (nthL [nthL tl i] 0).1 15) (nthL [nthL tl i] 0).6 [nthL [nthL tl i] 0]) (Nat.succ 0).succ.succ.succ).2, 0, 5, 0, (nthL (bi (nbeq (nthL [nthL tl i] 0).1 15) (nthL [nthL tl i] 0).6 [nthL [nthL tl i] 0]) (Nat.succ 0).succ.succ.succ).6⟩]⟩) (gt2 (fun a b => ((a.add (kMod (kCode IntKind.i64))).sub b).mod (kMod (kCode IntKind.i64))) d 1) n, 0, 0, 0, []⟩, ⟨16, 0, 0, 1, 0, [⟨3, to, 0, 0, 0, []⟩, ⟨3, tw, 0, 0, 0, []⟩, ⟨7, tv, 0, 0, 0, []⟩, ⟨9, tn, tq, 0, 0, []⟩, ⟨24, tp, 0, 5, 0, tl⟩]⟩, ⟨3, gt2 (fun a b => (a.add b).mod (kMod (kCode IntKind.i64))) i 1, 0, 0, 0, []⟩])
 (failR 301))
 (failR 201))
 (failR 205))
 (ansY ⟨3, n, 0, 0, 0, []⟩))
 (ansY ⟨3, n, 0, 0, 0, []⟩)) := by kernel_rfl
theorem body37 : Tryz.f37.body = some (bodyC Tryz.f37) := by kernel_rfl
theorem fn37 : Tryz.prog.funcs[37]? = some Tryz.f37 := by kernel_rfl
theorem nt37 : Tryz.f37.ntmps = 37 := by kernel_rfl
theorem rs37 : Tryz.f37.results.toList = [.tmp 6] := by kernel_rfl
theorem n00 : nbeq 0 0 = true := rfl
theorem n10 : nbeq 1 0 = false := rfl
theorem mk_tm (t : Tm) : aggV [i64 t.op, i64 t.w, u64 t.v, stA t.nq t.np, slP t.p 5 (t.as.map tmA)] = tmA t := by
  cases t; rw [tmA_mk]; rfl
def cntsN (l : List Tm) (d n : Nat) : Nat := match cnts l d n with | none => 18446744073709551615 | some k => k
theorem cntN_mk (op w v nq np p : Nat) (l : List Tm) (d n : Nat) : cntN (.mk op w v nq np p l) d n = if d = 0 ∨ n = 0 then 18446744073709551615 else cntsN l (d - 1) (n - 1) := by
  unfold cntN cntsN
  rw [cnt]
  split <;> rename_i h <;> split <;> simp_all
mutual
theorem cnt_le : ∀ (t : Tm) (d n k : Nat), cnt t d n = some k → k ≤ n
  | .mk _ _ _ _ _ _ l, d, n, k, h => by
    rw [cnt] at h
    split at h
    · cases h
    · have := cnts_le l _ _ _ h; omega
theorem cnts_le : ∀ (l : List Tm) (d n k : Nat), cnts l d n = some k → k ≤ n
  | [], d, n, k, h => by rw [cnts] at h; cases h; exact Nat.le_refl _
  | a :: l, d, n, k, h => by
    rw [cnts] at h
    split at h
    · cases h
    · rename_i j hj
      have h1 := cnt_le a d n j hj
      have h2 := cnts_le l d j k h
      omega
end
theorem pos_iff {d : Nat} (hd : d < 2 ^ 62) : nble 9223372036854775809 (biased 3 d) = decide (1 ≤ d) := by
  rw [biased3s (by omega), nble_dec, decide_eq_decide]; omega
theorem pure37 : ∀ (t : Tm) (d n : Nat), d < 2 ^ 62 → n < 2 ^ 62 → (t.All fun _ _ _ _ _ _ l => l.length < 2 ^ 63) → PureAt Tryz.prog 37 [tmA t, i64 d, i64 n] (i64 (cntN t d n)) := by
  intro t
  induction t using Tm.ind with
  | h op w v nq np p X ih =>
  intro d n hd hn hall
  obtain ⟨hX, hall⟩ : X.length < 2 ^ 63 ∧ ∀ t ∈ X, t.All fun _ _ _ _ _ _ l => l.length < 2 ^ 63 := by
    cases hall with | mk h1 h2 => exact ⟨h1, h2⟩
  have loop : 1 ≤ d → ∀ k i n', n' < 2 ^ 62 → i + k = X.length → jmpN Tryz.prog 37 lab37 (baseH Tryz.prog) RC (finY Tryz.prog [.tmp 6] [3]) (bodyC Tryz.f37) (k + 2) [0,0,1,0,1,1,1] [i64 d, i64 n', bxD [i64 op, i64 w, u64 v, stA nq np, slP p 5 (X.map tmA)], i64 i] = ansY (i64 (cntsN (X.drop i) (d - 1) n')) := by
    intro hd1 k
    induction k with
    | zero =>
      intro i n' hn' hi
      have e : i = X.length := by omega
      subst e
      rw [jmpN_succ, l37]
      simp only [bl_bi, n11, n01, lenL_map, biased_le hX hX, Nat.le_refl, decide_true, nb_t, bi_ff, List.drop_length, mk_i64]
      rfl
    | succ k ihk =>
      intro i n' hn' hi
      have hlt : i < X.length := by omega
      have hi63 : i < 2 ^ 63 := by omega
      have e1 : X.drop i = X[i] :: X.drop (i + 1) := List.drop_eq_getElem_cons hlt
      have q := okN_one.2 (ih X[i] (List.getElem_mem hlt) (d - 1) n' (by omega) hn' (hall _ (List.getElem_mem hlt)))
      rw [jmpN_succ, l37]
      simp only [lenL_map, biased_le hX hi63, show ¬ X.length ≤ i by omega, decide_false, nb_f, bi_tt, bi_ff, nble_t (show i.succ ≤ X.length from hlt), nthL_map tmA X i hlt, subN hd1 (show d < 2 ^ 64 by omega), nble_t (show 9223372036854775808 ≤ biased 3 n' by rw [biased3s (show n' < 2 ^ 63 by omega)]; omega), succ_mod hi63, q, nth1, cells_tm, n5_0, n5_1, n5_2, n5_3, n5_4, tg_i, tg_u, tg_s, tg_l, i64_p, u64_p, stA_p, stA_q, slP_p, slP_cs, mk_i64, mk_u64, mk_stA, mk_slP, mk_agg, mk_bx, mk_ls, mk_tm, unTm_A, bl_bi, n11, n01]
      rw [e1]
      cases hc : cnt X[i] (d - 1) n' with
      | none =>
        have e3 : cntN X[i] (d - 1) n' = 18446744073709551615 := by unfold cntN; rw [hc]
        have e2 : cntsN (X[i] :: X.drop (i + 1)) (d - 1) n' = 18446744073709551615 := by unfold cntsN; rw [cnts, hc]
        rw [e2]
        rw [e3, jmpN_succ, l37]
        have e4 : nble 9223372036854775808 (biased 3 18446744073709551615) = false := by decide +kernel
        simp only [bl_bi, n11, n01, lenL_map, e4, bi_ff, mk_i64]
        cases nb (nble (biased 3 X.length) (biased 3 (i + 1)))
        · rfl
        · rfl
      | some j =>
        have e3 : cntN X[i] (d - 1) n' = j := by unfold cntN; rw [hc]
        have e2 : cntsN (X[i] :: X.drop (i + 1)) (d - 1) n' = cntsN (X.drop (i + 1)) (d - 1) j := by unfold cntsN; rw [cnts, hc]
        rw [e2]
        rw [e3]
        exact ihk (i + 1) j (by have := cnt_le _ _ _ _ hc; omega) (by omega)
  rw [tmA_mk, cntN_mk]
  refine pure_fn mixed globs fn37 body37 nt37 rs37 RC_ok lab37 [3] (X.length + 2) ((s37 _ op w v nq np p d n _).trans ?_)
  rw [pos_iff hd, pos_iff hn]
  by_cases h1 : 1 ≤ d
  · by_cases h2 : 1 ≤ n
    · have hl := loop h1 X.length 0 (n - 1) (by omega) (by omega)
      simp only [h1, h2, decide_true, nb_t, bl_bi, b0, n00, n10, n11, n01, bi_tt, bi_ff, subN h2 (show n < 2 ^ 64 by omega), mk_i64, mk_u64, mk_stA, mk_slP, mk_bx]
      rw [if_neg (by omega)]
      exact hl
    · simp only [h1, h2, decide_true, decide_false, nb_t, nb_f, bl_bi, b0, n00, n10, n11, n01, bi_ff, bi_tt]
      rw [if_pos (by omega)]; rfl
  · simp only [h1, decide_false, nb_f, bl_bi, b0, n00, n10, n11, n01, bi_ff, bi_tt]
    rw [if_pos (by omega)]; rfl
/-- of so many levels, with not too many operands -/
inductive Tm.Sm : Nat → Tm → Prop
  | mk {d op w v nq np p : Nat} {l : List Tm} : l.length ≤ 1000 → (∀ t ∈ l, Tm.Sm d t) → Tm.Sm (d + 1) (.mk op w v nq np p l)
theorem eqA_agg (n : Nat) (t p q r s : Nat) (cs : List AV) (h : ∀ c ∈ cs, eqA n c c = true) : eqA (n + 1) ⟨t, p, q, r, s, cs⟩ ⟨t, p, q, r, s, cs⟩ = true := by
  have key : ∀ l : List AV, (∀ c ∈ l, eqA n c c = true) → (List.rec (motive := fun _ => List AV → Bool) (fun l => List.rec (motive := fun _ => Bool) true (fun _ _ _ => false) l) (fun x _ ihl l => List.rec (motive := fun _ => Bool) false (fun y l _ => bi (eqA n x y) (ihl l) false) l) l l : Bool) = true := by
    intro l
    induction l with
    | nil => intro _; rfl
    | cons a l ih =>
      intro h
      show bi (eqA n a a) _ false = true
      rw [h a (by simp), bi_true]
      exact ih fun c hc => h c (by simp [hc])
  show bi (nbeq t t) (bi (nbeq p p) (bi (nbeq q q) (bi (nbeq r r) (bi (nbeq s s) _ false) false) false) false) false = true
  rw [nbeq_refl, nbeq_refl, nbeq_refl, nbeq_refl, nbeq_refl]
  exact key cs h
theorem eqA_tm : ∀ (d : Nat) (t : Tm), t.Sm d → ∀ n, 2 * d ≤ n → eqA n (tmA t) (tmA t) = true := by
  intro d
  induction d with
  | zero => intro t h; cases h
  | succ d ih =>
    intro t h n hn
    obtain ⟨op, w, v, nq, np, p, l⟩ := t
    have hl : ∀ t ∈ l, t.Sm d := by cases h with | mk _ h => exact h
    obtain ⟨m, rfl⟩ : ∃ m, n = m + 2 := ⟨n - 2, by omega⟩
    rw [tmA_mk]
    refine eqA_agg (m + 1) 15 0 0 0 0 _ fun c hc => ?_
    simp only [List.mem_cons, List.not_mem_nil, or_false] at hc
    rcases hc with rfl | rfl | rfl | rfl | rfl
    · exact eqA_agg m _ _ _ _ _ _ fun c hc => by cases hc
    · exact eqA_agg m _ _ _ _ _ _ fun c hc => by cases hc
    · exact eqA_agg m _ _ _ _ _ _ fun c hc => by cases hc
    · exact eqA_agg m _ _ _ _ _ _ fun c hc => by cases hc
    · refine eqA_agg m 24 p 0 5 0 _ fun c hc => ?_
      obtain ⟨t, ht, rfl⟩ := List.mem_map.1 hc
      exact ih t (hl t ht) m (by omega)
end Go.Eng
namespace Go.Eng
open Go.RowKit Go.Proofs
noncomputable section
def arR (x : Nat) : Nat := bi (knN x) (bi (leafR x) 0 (bi (isS x [3, 4, 21, 22, 23, 26]) 1 (bi (nbeq x 19) 3 2))) 18446744073709551615
def NtE : Nat → Option Native := ntL [(131, natP Tryz.prog 131 [22] fun l => bV (knN (nthL l 0).p)), (133, natP Tryz.prog 133 [3] fun l => bV (insN (nthL l 0).p)),
  (144, natP Tryz.prog 144 [3] fun l => bV (insN (nthL l 0).p)), (136, natP Tryz.prog 136 [4,  3] fun l => tupV [i64 (bi (nbeq (nthL l 0).p 1) (nthL l 1).p 0), i64 (bi (nbeq (nthL l 0).p 1) 0 3)]),
  (148, natP Tryz.prog 148 [22, 195] fun l => bV (isA (nthL l 0).p (nthL l 1).cs)), (132, natP Tryz.prog 132 [22] fun l => i64 (arN (nthL l 0).p)), (125, natP Tryz.prog 125 [22] fun l => i64 (arR (nthL l 0).p)), (145, natP Tryz.prog 145 [22] fun l => bV (leafR (nthL l 0).p)),
  (134, natP Tryz.prog 134 [22,  3,  23] fun l => tupV [i64 (bi (lfP (nthL l 0).p (nthL l 1).p (nthL l 2).p) (nthL l 1).p 0), i64 (bi (lfP (nthL l 0).p (nthL l 1).p (nthL l 2).p) 0 3)]),
  (146, natP Tryz.prog 146 [22,  3,  23] fun l => tupV [i64 (bi (lfP (nthL l 0).p (nthL l 1).p (nthL l 2).p) (nthL l 1).p 0), i64 (bi (lfP (nthL l 0).p (nthL l 1).p (nthL l 2).p) 0 3)]),
  (135, natP Tryz.prog 135 [22,  3,  23,  3] fun l => tupV [i64 (bi (rsP (nthL l 0).p (nthL l 1).p (nthL l 2).p (nthL l 3).p) (nthL l 1).p 0), i64 (bi (rsP (nthL l 0).p (nthL l 1).p (nthL l 2).p (nthL l 3).p) 0 3)]),
  (147, natP Tryz.prog 147 [22,  3,  23,  3] fun l => tupV [i64 (bi (rsP (nthL l 0).p (nthL l 1).p (nthL l 2).p (nthL l 3).p) (nthL l 1).p 0), i64 (bi (rsP (nthL l 0).p (nthL l 1).p (nthL l 2).p (nthL l 3).p) 0 3)])]
def RE : Rec := evN Tryz.prog NtE (fun _ => false) 2
def zeroT : Tm := .mk 0 0 0 0 0 0 []
def lightO (t : Tm) (d n : Nat) : Tm := match cnt t d n with | none => zeroT | some _ => t
def lightB (t : Tm) (d n : Nat) : Bool := match cnt t d n with | none => false | some _ => true
def NtF : Nat → Option Native := ntL [(37, natP Tryz.prog 37 [26,  3,  3] fun l => i64 (cntN (unTm (nthL l 0)) (nthL l 1).p (nthL l 2).p)), (123, natP Tryz.prog 123 [26,  26] fun l => bV (eqT (unTm (nthL l 0)) (unTm (nthL l 1)))),
  (23, natP Tryz.prog 23 [26] fun l => tmE (cpT (unTm (nthL l 0)))), (26, natP Tryz.prog 26 [22,  26,  26] fun l => tmV (nthL l 0).p 1 0 0 0 1 [nthL l 1, nthL l 2]), (27, natP Tryz.prog 27 [22,  3,  26,  26] fun l => tmV (nthL l 0).p (nthL l 1).p 0 0 0 1 [nthL l 2, nthL l 3]),
  (14, natP Tryz.prog 14 [26,  3,  3] fun l => tupV [tmE (lightO (unTm (nthL l 0)) (nthL l 1).p (nthL l 2).p), bV (lightB (unTm (nthL l 0)) (nthL l 1).p (nthL l 2).p)])]
def RF : Rec := evN Tryz.prog NtF (fun _ => false) 2
end
end Go.Eng
namespace Go.Eng
open Go.RowKit Go.Proofs
theorem s125 (J : Jmp) (x : Nat) : (compY Tryz.prog 16 (fun _ => none) (finY Tryz.prog [.tmp 2] [3]) J [] (bodyC Tryz.f125) (finY Tryz.prog [.tmp 2] [3]) []).run RE (setArgs 0 [i64 x] noFr) (baseH Tryz.prog) =
  (bi (nbeq (bi (nb (nble 9223372036854775809 (biased 3 x))) 1 0) 0)
 (bi (nbeq (bi (nb (nble (biased 3 x) 9223372036854775834)) 1 0) 1)
 (ansY ⟨3, 18446744073709551615, 0, 0, 0, []⟩)
 (bi (nbeq (okN (PureAt Tryz.prog 145 [⟨3, x, 0, 0, 0, []⟩] ⟨8, bi (leafR x) 1 0, 0, 0, 0, []⟩)) 1)
 (bi (nbeq (bi (leafR x) 1 0) 1)
 (ansY ⟨3, 0, 0, 0, 0, []⟩)
 (bi (nbeq (okN (PureAt Tryz.prog 148 [⟨3, x, 0, 0, 0, []⟩, ⟨24, 1, 0, 1, 0, [⟨3, 3, 0, 0, 0, []⟩, ⟨3, 4, 0, 0, 0, []⟩, ⟨3, 21, 0, 0, 0, []⟩, ⟨3, 22, 0, 0, 0, []⟩, ⟨3, 23, 0, 0, 0, []⟩, ⟨3, 26, 0, 0, 0, []⟩]⟩] ⟨8, bi (isA x [⟨3, 3, 0, 0, 0, []⟩, ⟨3, 4, 0, 0, 0, []⟩, ⟨3, 21, 0, 0, 0, []⟩, ⟨3, 22, 0, 0, 0, []⟩, ⟨3, 23, 0, 0, 0, []⟩, ⟨3, 26, 0, 0, 0, []⟩]) 1 0, 0, 0, 0, []⟩)) 1)
 (bi (nbeq (bi (isA x [⟨3, 3, 0, 0, 0, []⟩, ⟨3, 4, 0, 0, 0, []⟩, ⟨3, 21, 0, 0, 0, []⟩, ⟨3, 22, 0, 0, 0, []⟩, ⟨3, 23, 0, 0, 0, []⟩, ⟨3, 26, 0, 0, 0, []⟩]) 1 0) 1)
 (ansY ⟨3, 1, 0, 0, 0, []⟩)
 (bi (nbeq (bi (nbeq x 19) 1 0) 1)
 (ansY ⟨3, 3, 0, 0, 0, []⟩)
 (ansY ⟨3, 2, 0, 0, 0, []⟩)))
 (failR 301)))
 (failR 301)))
 (ansY ⟨3, 18446744073709551615, 0, 0, 0, []⟩)) := by kernel_rfl
theorem body125 : Tryz.f125.body = some (bodyC Tryz.f125) := by kernel_rfl
theorem fn125 : Tryz.prog.funcs[125]? = some Tryz.f125 := by kernel_rfl
theorem nt125 : Tryz.f125.ntmps = 16 := by kernel_rfl
theorem rs125 : Tryz.f125.results.toList = [.tmp 2] := by kernel_rfl

theorem RE_ok : RecOk Tryz.prog RE := evN_ok mixed (ntL_cons (ntL_cons (ntL_cons (ntL_cons (ntL_cons (ntL_cons (ntL_cons (ntL_cons (ntL_cons (ntL_cons (ntL_cons (ntL_cons ntL_nil)))))))))))) noGor 2
theorem RF_ok : RecOk Tryz.prog RF := evN_ok mixed (ntL_cons (ntL_cons (ntL_cons (ntL_cons (ntL_cons (ntL_cons ntL_nil)))))) noGor 2
theorem pure125 (x : Nat) : PureAt Tryz.prog 125 [i64 x] (i64 (arR x)) := by
  refine pure_fn mixed globs fn125 body125 nt125 rs125 RE_ok (fun _ => none) [3] 0 ((s125 _ x).trans ?_)
  have p := okN_one.2 (pure145 x)
  have q := okN_one.2 (pure148 x 1 [3, 4, 21, 22, 23, 26] (by decide))
  have e : isA x [i64 3, i64 4, i64 21, i64 22, i64 23, i64 26] = isS x [3, 4, 21, 22, 23, 26] := rfl
  simp only [i64, bV, mk1] at p e
  rw [e]
  simp only [i64, bV, mk1, slP, List.map_cons, List.map_nil] at q
  rw [p, q]
  unfold arR knN
  simp only [bl_bi, b0, n11, n01, n00, n10, bi_tt, bi_ff]
  cases nble 9223372036854775809 (biased 3 x) <;> cases nble (biased 3 x) 9223372036854775834 <;> cases leafR x <;> cases isS x [3, 4, 21, 22, 23, 26] <;> cases nbeq x 19 <;> rfl
/-- how many operands -/
def arT (x : Nat) : Nat := if x = 0 ∨ 26 < x then 18446744073709551615 else if x = 1 ∨ x = 2 ∨ x = 24 ∨ x = 25 then 0 else if x = 3 ∨ x = 4 ∨ x = 21 ∨ x = 22 ∨ x = 23 ∨ x = 26 then 1 else if x = 19 then 3 else 2
theorem kn_iff {x : Nat} (hx : x < 2 ^ 64) : knN x = decide (1 ≤ x ∧ x ≤ 26) := by
  unfold knN
  rw [nble_dec, nble_dec, biased3, Bool.eq_iff_iff, bi_and, decide_eq_true_eq, decide_eq_true_eq, decide_eq_true_eq]
  omega
theorem leafR_iff (x : Nat) : leafR x = decide (x = 1 ∨ x = 2 ∨ x = 24 ∨ x = 25) := by
  unfold leafR isS
  simp only [List.any_cons, List.any_nil, nbeq_dec, Bool.or_false]
  rw [Bool.eq_iff_iff]
  simp only [Bool.or_eq_true, decide_eq_true_eq]
  omega
theorem is2_iff (x : Nat) : isS x [3, 4, 21, 22, 23, 26] = decide (x = 3 ∨ x = 4 ∨ x = 21 ∨ x = 22 ∨ x = 23 ∨ x = 26) := by
  unfold isS
  simp only [List.any_cons, List.any_nil, nbeq_dec, Bool.or_false]
  rw [Bool.eq_iff_iff]
  simp only [Bool.or_eq_true, decide_eq_true_eq]
  omega
theorem arR_eq {x : Nat} (hx : x < 2 ^ 64) : arR x = arT x := by
  unfold arR arT
  rw [kn_iff hx, leafR_iff, is2_iff, nbeq_dec]
  simp only [bi_if, decide_eq_true_eq]
  by_cases h : 1 ≤ x ∧ x ≤ 26
  · rw [if_pos h, if_neg (show ¬ (x = 0 ∨ 26 < x) by omega)]
  · rw [if_neg h, if_pos (show x = 0 ∨ 26 < x by omega)]
theorem arN_eq (x : Nat) : arN x = arT x := by
  by_cases h : x ≤ 26
  · have : ∀ x, x ≤ 26 → arN x = arT x := by
      intro x hx
      rcases (by omega : x = 0 ∨ x = 1 ∨ x = 2 ∨ x = 3 ∨ x = 4 ∨ x = 5 ∨ x = 6 ∨ x = 7 ∨ x = 8 ∨ x = 9 ∨ x = 10 ∨ x = 11 ∨ x = 12 ∨ x = 13 ∨ x = 14 ∨ x = 15 ∨ x = 16 ∨ x = 17 ∨ x = 18 ∨ x = 19 ∨ x = 20 ∨ x = 21 ∨ x = 22 ∨ x = 23 ∨ x = 24 ∨ x = 25 ∨ x = 26) with rfl | rfl | rfl | rfl | rfl | rfl | rfl | rfl | rfl | rfl | rfl | rfl | rfl | rfl | rfl | rfl | rfl | rfl | rfl | rfl | rfl | rfl | rfl | rfl | rfl | rfl | rfl <;> rfl
    exact this x h
  · have hk : ∀ k, k < 27 → nbeq x k = false := fun k hk => beq_false.2 (by omega)
    unfold arN arT
    rw [if_pos (by omega)]
    simp only [hk 1 (by decide), hk 2 (by decide), hk 3 (by decide), hk 4 (by decide), hk 5 (by decide), hk 6 (by decide), hk 7 (by decide), hk 8 (by decide), hk 9 (by decide), hk 10 (by decide), hk 11 (by decide), hk 12 (by decide), hk 13 (by decide), hk 14 (by decide), hk 15 (by decide), hk 16 (by decide), hk 17 (by decide), hk 18 (by decide), hk 19 (by decide), hk 20 (by decide), hk 21 (by decide), hk 22 (by decide), hk 23 (by decide), hk 24 (by decide), hk 25 (by decide), hk 26 (by decide), bi_ff]
/-- the width of an operator's value, or the error -/
noncomputable def wdP (op w v : Nat) (ws : List Nat) : Nat × Nat :=
  if op = 0 ∨ 26 < op ∨ ws.length ≠ arT op then (0, 4) else if ws.all (fun a => decide (a ≤ 64)) = false then (0, 3) else
  match ws with
  | [] => (if lfP op w v = true then (w, 0) else (0, 3))
  | [a] => if op = 21 ∨ op = 22 ∨ op = 23 then (if rsP op w v a = true then (w, 0) else (0, 3)) else (a, 0)
  | [a, b] => if op = 20 then (if 1 ≤ a ∧ 1 ≤ b ∧ a + b ≤ 64 then (a + b, 0) else (0, 3)) else if a = b then (if op = 16 ∨ op = 17 ∨ op = 18 then (1, 0) else (a, 0)) else (0, 3)
  | [a, b, c] => if a = 1 ∧ b = c then (b, 0) else (0, 3)
  | _ => (0, 4)
end Go.Eng
namespace Go.Eng
open Go.RowKit Go.Proofs
theorem s14 (J : Jmp) (to tw tv tq tn tp d n : Nat) (tl : List AV) : (compY Tryz.prog 15 (fun _ => none) (finY Tryz.prog [.cell 6 26, .tmp 7] [26,  4]) J [] (bodyC Tryz.f14) (finY Tryz.prog [.cell 6 26, .tmp 7] [26,  4]) []).run RF (setArgs 0 [tmV to tw tv tq tn tp tl, i64 d, i64 n] noFr) (baseH Tryz.prog) =
  (bi (nbeq (okN (PureAt Tryz.prog 37 [(aggV [(i64 to), (i64 tw), (u64 tv), (stA tq tn), (slP tp 5 tl)]), (i64 d), (i64 n)] (i64 (cntN (unTm (aggV [(i64 to), (i64 tw), (u64 tv), (stA tq tn), (slP tp 5 tl)])) d n)))) 1)
 (bi (nbeq (bi (nb (nble 9223372036854775808 (biased 3 (cntN (unTm (aggV [(i64 to), (i64 tw), (u64 tv), (stA tq tn), (slP tp 5 tl)])) d n)))) 1 0) 1)
 (ansY ⟨16, 0, 0, 0, 0, [(aggV [(i64 0), (i64 0), (u64 0), (stA 0 0), (slP 0 5 [])]), ⟨8, 0, 0, 0, 0, []⟩]⟩)
 (ansY ⟨16, 0, 0, 0, 0, [(aggV [(i64 to), (i64 tw), (u64 tv), (stA tq tn), (slP tp 5 tl)]), ⟨8, 1, 0, 0, 0, []⟩]⟩))
 (failR 301)) := by kernel_rfl
theorem s5 (J : Jmp) (k ao aw av aq an ap bo bw bv bq bn bp : Nat) (al bl : List AV) : (compY Tryz.prog 23 (fun _ => none) (finY Tryz.prog [.tmp 2] [4]) J [] (bodyC Tryz.f5) (finY Tryz.prog [.tmp 2] [4]) []).run RF (setArgs 0 [aggV [i64 k, i64 ao, i64 aw, u64 av, stA aq an, slP ap 5 al, i64 bo, i64 bw, u64 bv, stA bq bn, slP bp 5 bl]] noFr) (baseH Tryz.prog) =
  (bi (nbeq (okN (PureAt Tryz.prog 14 [(aggV [(i64 ao), (i64 aw), (u64 av), (stA aq an), (slP ap 5 al)]), (i64 12), (i64 20)] ⟨16, 0, 0, 0, 0, [(aggV [(i64 ((lightO (unTm (aggV [(i64 ao), (i64 aw), (u64 av), (stA aq an), (slP ap 5 al)])) 12 20).op)), (i64 ((lightO (unTm (aggV [(i64 ao), (i64 aw), (u64 av), (stA aq an), (slP ap 5 al)])) 12 20).w)), (u64 ((lightO (unTm (aggV [(i64 ao), (i64 aw), (u64 av), (stA aq an), (slP ap 5 al)])) 12 20).v)), (stA ((lightO (unTm (aggV [(i64 ao), (i64 aw), (u64 av), (stA aq an), (slP ap 5 al)])) 12 20).nq) ((lightO (unTm (aggV [(i64 ao), (i64 aw), (u64 av), (stA aq an), (slP ap 5 al)])) 12 20).np)), (slP ((lightO (unTm (aggV [(i64 ao), (i64 aw), (u64 av), (stA aq an), (slP ap 5 al)])) 12 20).p) 5 (List.map tmA (lightO (unTm (aggV [(i64 ao), (i64 aw), (u64 av), (stA aq an), (slP ap 5 al)])) 12 20).as))]), ⟨8, bi (lightB (unTm (aggV [(i64 ao), (i64 aw), (u64 av), (stA aq an), (slP ap 5 al)])) 12 20) 1 0, 0, 0, 0, []⟩]⟩)) 1)
 (bi (nbeq (okN (PureAt Tryz.prog 14 [(aggV [(i64 bo), (i64 bw), (u64 bv), (stA bq bn), (slP bp 5 bl)]), (i64 12), (i64 20)] ⟨16, 0, 0, 0, 0, [(aggV [(i64 ((lightO (unTm (aggV [(i64 bo), (i64 bw), (u64 bv), (stA bq bn), (slP bp 5 bl)])) 12 20).op)), (i64 ((lightO (unTm (aggV [(i64 bo), (i64 bw), (u64 bv), (stA bq bn), (slP bp 5 bl)])) 12 20).w)), (u64 ((lightO (unTm (aggV [(i64 bo), (i64 bw), (u64 bv), (stA bq bn), (slP bp 5 bl)])) 12 20).v)), (stA ((lightO (unTm (aggV [(i64 bo), (i64 bw), (u64 bv), (stA bq bn), (slP bp 5 bl)])) 12 20).nq) ((lightO (unTm (aggV [(i64 bo), (i64 bw), (u64 bv), (stA bq bn), (slP bp 5 bl)])) 12 20).np)), (slP ((lightO (unTm (aggV [(i64 bo), (i64 bw), (u64 bv), (stA bq bn), (slP bp 5 bl)])) 12 20).p) 5 (List.map tmA (lightO (unTm (aggV [(i64 bo), (i64 bw), (u64 bv), (stA bq bn), (slP bp 5 bl)])) 12 20).as))]), ⟨8, bi (lightB (unTm (aggV [(i64 bo), (i64 bw), (u64 bv), (stA bq bn), (slP bp 5 bl)])) 12 20) 1 0, 0, 0, 0, []⟩]⟩)) 1)
 (bi (nbeq (bi (lightB (unTm (aggV [(i64 ao), (i64 aw), (u64 av), (stA aq an), (slP ap 5 al)])) 12 20) 1 0) 1)
 (ansY ⟨8, bi (lightB (unTm (aggV [(i64 bo), (i64 bw), (u64 bv), (stA bq bn), (slP bp 5 bl)])) 12 20) 1 0, 0, 0, 0, []⟩)
 (ansY ⟨8, 0, 0, 0, 0, []⟩))
 (failR 301))
 (failR 301)) := by kernel_rfl
theorem body14 : Tryz.f14.body = some (bodyC Tryz.f14) := by kernel_rfl
theorem fn14 : Tryz.prog.funcs[14]? = some Tryz.f14 := by kernel_rfl
theorem nt14 : Tryz.f14.ntmps = 15 := by kernel_rfl
theorem rs14 : Tryz.f14.results.toList = [.cell 6 26, .tmp 7] := by kernel_rfl
theorem body5 : Tryz.f5.body = some (bodyC Tryz.f5) := by kernel_rfl
theorem fn5 : Tryz.prog.funcs[5]? = some Tryz.f5 := by kernel_rfl
theorem nt5 : Tryz.f5.ntmps = 23 := by kernel_rfl
theorem rs5 : Tryz.f5.results.toList = [.tmp 2] := by kernel_rfl
abbrev Len63 (t : Tm) : Prop := t.All fun _ _ _ _ _ _ l => l.length < 2 ^ 63
theorem tmA_V (t : Tm) : tmA t = tmV t.op t.w t.v t.nq t.np t.p (t.as.map tmA) := (tmE_eq t).symm
theorem cntN_neg {t : Tm} {d n : Nat} (hn : n < 2 ^ 62) : nble 9223372036854775808 (biased 3 (cntN t d n)) = lightB t d n := by
  unfold cntN lightB
  cases h : cnt t d n with
  | none => decide +kernel
  | some k =>
    have := cnt_le t d n k h
    simp only
    rw [biased3s (by omega)]
    exact nble_t (by omega)
theorem pure14 (t : Tm) (d n : Nat) (hd : d < 2 ^ 62) (hn : n < 2 ^ 62) (hall : Len63 t) : PureAt Tryz.prog 14 [tmA t, i64 d, i64 n] (tupV [tmA (lightO t d n), bV (lightB t d n)]) := by
  have q := okN_one.2 (pure37 t d n hd hn hall)
  have e : PureAt Tryz.prog 14 [tmV t.op t.w t.v t.nq t.np t.p (t.as.map tmA), i64 d, i64 n] (tupV [tmA (lightO t d n), bV (lightB t d n)]) := by
    refine pure_fn mixed globs fn14 body14 nt14 rs14 RF_ok (fun _ => none) [26,  4] 0 ((s14 _ t.op t.w t.v t.nq t.np t.p d n _).trans ?_)
    simp only [mk_i64, mk_u64, mk_stA, mk_slP, mk_agg, mk_tm, unTm_A, bl_bi, b0, n11, n01, n00, n10, bi_tt, bi_ff, q, cntN_neg hn]
    unfold lightB lightO
    cases cnt t d n with
    | none => rw [tmA_V]; rfl
    | some k => simp only [nb_t, bi_ff]; rfl
  rw [← tmA_V] at e
  exact e
/-- a guard -/
noncomputable def gdA (k : Nat) (a b : Tm) : AV := aggV [i64 k, i64 a.op, i64 a.w, u64 a.v, stA a.nq a.np, slP a.p 5 (a.as.map tmA), i64 b.op, i64 b.w, u64 b.v, stA b.nq b.np, slP b.p 5 (b.as.map tmA)]
theorem pure5 (k : Nat) (a b : Tm) (ha : Len63 a) (hb : Len63 b) : PureAt Tryz.prog 5 [gdA k a b] (bV (lightB a 12 20 && lightB b 12 20)) := by
  have q := okN_one.2 (pure14 a 12 20 (by decide) (by decide) ha)
  have q2 := okN_one.2 (pure14 b 12 20 (by decide) (by decide) hb)
  unfold gdA
  refine pure_fn mixed globs fn5 body5 nt5 rs5 RF_ok (fun _ => none) [4] 0 ((s5 _ k a.op a.w a.v a.nq a.np a.p b.op b.w b.v b.nq b.np b.p _ _).trans ?_)
  simp only [tupV, bV, mk1] at q q2
  simp only [mk_i64, mk_u64, mk_stA, mk_slP, mk_agg, mk_tm, unTm_A, bl_bi, b0, n11, n01, n00, n10, bi_tt, bi_ff, q, q2]
  cases lightB a 12 20 <;> cases lightB b 12 20 <;> rfl
theorem tmV_A (t : Tm) : tmV t.op t.w t.v t.nq t.np t.p (t.as.map tmA) = tmA t := tmE_eq t
end Go.Eng
