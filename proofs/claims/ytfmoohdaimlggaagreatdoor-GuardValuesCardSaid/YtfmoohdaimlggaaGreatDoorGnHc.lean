
/- A part of the proof that the evaluator in GnC, and the driver in GnZ, answer as the model does; no conditions. -/
import Derived.Test.YtfmoohdaimlggaaGreatDoorGnHb
import Derived.Test.YtfmoohdaimlggaaGreatDoorGnKa
namespace Go.Eng
open Go.RowKit Go.Proofs
noncomputable def shf (x y b z i : Nat) : Nat := if (g_addi i b + 2 ^ 63) % 2 ^ 64 < clampN x + 2 ^ 63 then sp_bit y (g_addi i b) else z
theorem shf_lt {x y b z : Nat} (hz : z < 2) (i : Nat) : shf x y b z i < 2 := by unfold shf; split; exact sbit_lt _ _; exact hz
theorem pure253 (x y b z : Nat) (hx : x < 2 ^ 64) (hy : y < 2 ^ 64) (hz : z < 2) : PureAt Tryz.prog 253 [i64 x, u64 y, i64 b, u64 z] (u64 (bld (shf x y b z) (clampN x))) := by
  obtain ⟨h1, h2⟩ := clamp_range hx
  have h := walkN (n := clampN x) (A := ansY (u64 (bld (shf x y b z) (clampN x)))) (L := (fun k i => jmpN Tryz.prog 37 lab253 (baseH Tryz.prog) RR (finY Tryz.prog [.tmp 8] [23]) (bodyC Tryz.f253) k [0,0,1,0,1,1] [i64 x, u64 y, i64 b, u64 z, u64 (bld (shf x y b z) i), i64 (clampN x), i64 i])) (fun k => ?_) (fun k i hi => ?_) (clampN x) 0 (by omega)
  · refine pure_fn mixed globs fn253 body253 nt253 rs253 RR_ok lab253 [23] (clampN x + 1) ((s253 _ x y b z).trans ?_)
    rw [okN_bi (pure74 x)]
    exact h
  · show jmpN _ _ _ _ _ _ _ (k + 1) _ _ = _
    rw [jmpN_succ, l253, ctr (by omega) (by omega), if_neg (by omega)]
  · show jmpN _ _ _ _ _ _ _ (k + 1) _ _ = _
    have hg : g_addi i b < 2 ^ 64 := by rw [g_addi_eq]; exact Nat.mod_lt _ (by decide)
    have e := put_bit (f := shf x y b z) (shf_lt hz) (show i < 64 by omega)
    rw [jmpN_succ, l253, ctr (by omega) (by omega), if_pos hi, okN_bi (pure74 x), okN_bi (pure75b y _ hy hg), addi1 (by omega), cnv_mod i (by omega), noshift (by omega), bi_ff, bi_ff, bl_bi, biased3, biased3, nble_dec, ← e]
    unfold shf
    by_cases hc : (g_addi i b + 2 ^ 63) % 2 ^ 64 < clampN x + 2 ^ 63
    · rw [if_pos hc, decide_eq_false (show ¬ (clampN x + 2 ^ 63) % 2 ^ 64 ≤ (g_addi i b + 2 ^ 63) % 2 ^ 64 by omega)]; rfl
    · rw [if_neg hc, decide_eq_true (show (clampN x + 2 ^ 63) % 2 ^ 64 ≤ (g_addi i b + 2 ^ 63) % 2 ^ 64 by omega)]; rfl
theorem pure254 (x y : Nat) (hx : x < 2 ^ 64) (hy : y < 2 ^ 64) : PureAt Tryz.prog 254 [i64 x, u64 y] (i64 (min (cutN x y) 64)) := by
  refine pure_fn mixed globs fn254 body254 nt254 rs254 RR_ok (fun _ => none) [3] 0 ((s254 _ x y).trans ?_)
  rw [okN_bi (pure32 x y hx hy), biased7 (cut64 _ hx), nble_dec, bi_dec]
  have : (if cutN x y ≤ 64 then cutN x y else 64) = min (cutN x y) 64 := by split <;> omega
  rw [this, cnv73 (by omega)]
theorem neg_top {x : Nat} (y : Nat) (hx : x < 2 ^ 64) : sp_neg x y = decide (btN y (clampN x - 1) = 1) := by
  obtain ⟨h1, h2⟩ := clamp_range hx
  unfold sp_neg
  have hs := sgn_lt y hx
  have h63 : 2 ^ 63 ≤ sp_sgn x y ↔ btN (sp_sgn x y) 63 = 1 := by
    have := top_bit (w := 64) (x := sp_sgn x y) (by decide)
    rwa [Nat.mod_eq_of_lt hs] at this
  have hb : btN (sp_sgn x y) 63 = btN y (clampN x - 1) := by
    unfold sp_sgn
    rw [bt_sg h1 h2 (by decide)]
    split
    · congr 1; omega
    · rfl
  rw [decide_eq_decide, h63, hb]
theorem pure289 (x y : Nat) (hx : x < 2 ^ 64) (hy : y < 2 ^ 64) : PureAt Tryz.prog 289 [i64 x, u64 y] (bV (sp_neg x y)) := by
  refine pure_fn mixed globs fn289 body289 nt289 rs289 RR_ok (fun _ => none) [4] 0 ((s289 _ x y).trans ?_)
  obtain ⟨h1, h2⟩ := clamp_range hx
  rw [okN_bi (pure74 x), subi_le h1 (by omega), okN_bi (pure75b y _ hy (by omega)), sbit hy (by omega), neg_top y hx, nbeq_dec]
  rfl
theorem pure255 (b : Bool) : PureAt Tryz.prog 255 [mk1 8 (bi b 1 0)] (u64 (bi b 1 0)) := by
  refine pure_fn mixed globs fn255 body255 nt255 rs255 RR_ok (fun _ => none) [23] 0 ((s255 _ b).trans ?_)
  cases b <;> rfl
theorem pure256 (x y : Nat) (hx : x < 2 ^ 64) (hy : y < 2 ^ 64) : PureAt Tryz.prog 256 [i64 x, u64 y] (i64 (sp_sgn x y)) := by
  refine pure_fn mixed globs fn256 body256 nt256 rs256 RR_ok (fun _ => none) [2] 0 ((s256 _ x y).trans ?_)
  obtain ⟨h1, h2⟩ := clamp_range hx
  have hm : cutN x y < 2 ^ clampN x := Nat.mod_lt _ (Nat.two_pow_pos _)
  have hp : (2 : Nat) ^ clampN x ≤ 2 ^ 64 := Nat.pow_le_pow_right (by decide) h2
  have q := okN_one.2 (pure289 x y hx hy)
  simp only [bV, mk1] at q
  rw [okN_bi (pure32 x y hx hy), okN_bi (pure222 x hx), bl_bi]
  have q' : okN (PureAt Tryz.prog 289 [i64 x, u64 y] (mk1 8 (bi (sp_neg x y) 1 0))) = 1 := q
  rw [q', n11, bi_tt, cnv73 (cut64 _ hx), g_subu_eq, negN3_eq, g_subi_eq, neg_top y hx, bi_dec]
  have ht := top_bit (x := y) h1
  unfold sp_sgn sgN
  have ec : cutN x y = y % 2 ^ clampN x := rfl
  rw [← ec] at ht ⊢
  have em : maskN x = 2 ^ clampN x - 1 := rfl
  split
  · next h =>
    rw [if_pos (ht.2 h), cnv73 (Nat.mod_lt _ (by decide)), em]
    exact congrArg (fun n => ansY (i64 n)) (by omega)
  · next h => rw [if_neg (fun h' => h (ht.1 h'))]
theorem not_mod {w y : Nat} (hw : w ≤ 64) (hy : y < 2 ^ 64) : (2 ^ 64 - 1 - y) % 2 ^ w = 2 ^ w - 1 - y % 2 ^ w := by
  have hp := Nat.two_pow_pos w
  have hm := Nat.mod_lt y hp
  refine eq_of_test (n := w) (Nat.mod_lt _ hp) (by omega) fun i hi => ?_
  rw [Nat.testBit_mod_two_pow, decide_eq_true hi, Bool.true_and, show 2 ^ 64 - 1 - y = 2 ^ 64 - (y + 1) by omega, Nat.testBit_two_pow_sub_succ hy, show 2 ^ w - 1 - y % 2 ^ w = 2 ^ w - (y % 2 ^ w + 1) by omega, Nat.testBit_two_pow_sub_succ hm, Nat.testBit_mod_two_pow, decide_eq_true hi, decide_eq_true (show i < 64 by omega)]
  simp
theorem pure202 (x y : Nat) (hx : x < 2 ^ 64) (hy : y < 2 ^ 64) : PureAt Tryz.prog 202 [i64 x, u64 y] (u64 (sp_not x y)) := by
  refine pure_fn mixed globs fn202 body202 nt202 rs202 RR_ok (fun _ => none) [23] 0 ((s202 _ x y).trans ?_)
  obtain ⟨h1, h2⟩ := clamp_range hx
  have hm : cutN x y < 2 ^ clampN x := Nat.mod_lt _ (Nat.two_pow_pos _)
  have hp : (2 : Nat) ^ clampN x ≤ 2 ^ 64 := Nat.pow_le_pow_right (by decide) h2
  rw [okN_bi (pure222 x hx), okN_bi (pure32 x y hx hy), g_subu_eq]
  have e : sp_not x y = 2 ^ clampN x - 1 - cutN x y := not_mod h2 hy
  have em : maskN x = 2 ^ clampN x - 1 := rfl
  rw [e, em]
  congr 2
  omega
theorem pure217 (x y z : Nat) (hx : x < 2 ^ 64) (hy : y < 2 ^ 64) (hz : z < 2 ^ 64) : PureAt Tryz.prog 217 [i64 x, u64 y, u64 z] (u64 (sp_eq x y z)) := by
  refine pure_fn mixed globs fn217 body217 nt217 rs217 RR_ok (fun _ => none) [23] 0 ((s217 _ x y z).trans ?_)
  rw [okN_bi (pure32 x y hx hy), okN_bi (pure32 x z hx hz), okN_bi (pure255 (nbeq (cutN x y) (cutN x z))), nbeq_dec, bi_dec]
  rfl
theorem pure218 (x y z : Nat) (hx : x < 2 ^ 64) (hy : y < 2 ^ 64) (hz : z < 2 ^ 64) : PureAt Tryz.prog 218 [i64 x, u64 y, u64 z] (u64 (sp_ult x y z)) := by
  refine pure_fn mixed globs fn218 body218 nt218 rs218 RR_ok (fun _ => none) [23] 0 ((s218 _ x y z).trans ?_)
  rw [okN_bi (pure32 x y hx hy), okN_bi (pure32 x z hx hz), okN_bi (pure255 (nb (nble (biased 7 (cutN x z)) (biased 7 (cutN x y))))), lt_bi, biased7 (cut64 _ hx), biased7 (cut64 _ hx)]
  rfl
theorem pure205 (x v y : Nat) (hx : x < 2 ^ 64) (hv : v < 2 ^ 64) (hy : y < 2 ^ 64) : PureAt Tryz.prog 205 [i64 x, i64 v, u64 y] (u64 (sp_sxt x v y)) := by
  obtain ⟨h1, h2⟩ := clamp_range hx
  obtain ⟨g1, g2⟩ := clamp_range hv
  have h := walkN (n := clampN v) (A := ansY (u64 (sp_sxt x v y))) (L := (fun k i => jmpN Tryz.prog 28 lab205 (baseH Tryz.prog) RR (finY Tryz.prog [.tmp 6] [23]) (bodyC Tryz.f205) k [0,0,1,0,1,1] [i64 x, u64 y, u64 (bld (fun i => btN y (min i (clampN x - 1))) i), i64 (clampN v), i64 i])) (fun k => ?_) (fun k i hi => ?_) (clampN v) 0 (by omega)
  · refine pure_fn mixed globs fn205 body205 nt205 rs205 RR_ok lab205 [23] (clampN v + 1) ((s205 _ x v y).trans ?_)
    rw [okN_bi (pure74 v)]
    exact h
  · show jmpN _ _ _ _ _ _ _ (k + 1) _ _ = _
    rw [jmpN_succ, l205, ctr (by omega) (by omega), if_neg (by omega), sext_bld h1 h2 g2]; rfl
  · show jmpN _ _ _ _ _ _ _ (k + 1) _ _ = _
    have e := put_bit (f := fun i => btN y (min i (clampN x - 1))) (fun i => bt_lt _ _) (show i < 64 by omega)
    have em : bi (nble (biased 3 i) (biased 3 (clampN x - 1))) i (clampN x - 1) = min i (clampN x - 1) := by
      rw [biased_le (by omega) (by omega), bi_dec]
      split <;> omega
    rw [jmpN_succ, l205, ctr (by omega) (by omega), if_pos hi, okN_bi (pure74 x), subi_le h1 (by omega), em, okN_bi (pure75b y _ hy (by omega)), sbit hy (by omega), addi1 (by omega), cnv_mod i (by omega), noshift (by omega), bi_ff, e]
theorem pure204 (x v y : Nat) (hx : x < 2 ^ 64) (hv : v < 2 ^ 64) (hy : y < 2 ^ 64) : PureAt Tryz.prog 204 [i64 x, i64 v, u64 y] (u64 (sp_ext x v y)) := by
  obtain ⟨g1, g2⟩ := clamp_range hv
  by_cases hx64 : x < 64
  · have h := walkN (n := clampN v) (A := ansY (u64 (sp_ext x v y))) (L := (fun k i => jmpN Tryz.prog 32 lab204 (baseH Tryz.prog) RR (finY Tryz.prog [.tmp 6] [23]) (bodyC Tryz.f204) k [0,0,1,0,1,1,1] [i64 x, u64 y, u64 (bld (fun i => btN y (x + i)) i), i64 (clampN v), i64 i])) (fun k => ?_) (fun k i hi => ?_) (clampN v) 0 (by omega)
    · refine pure_fn mixed globs fn204 body204 nt204 rs204 RR_ok lab204 [23] (clampN v + 1) ((s204 _ x v y).trans ?_)
      rw [biased3s (by omega), nble_t (show 9223372036854775808 ≤ x + 2 ^ 63 by omega), nble_t (show x + 2 ^ 63 ≤ 9223372036854775871 by omega), okN_bi (pure74 v)]
      simp only [nb_t, bi_ff, bi_tt, n00, n01]
      exact h
    · show jmpN _ _ _ _ _ _ _ (k + 1) _ _ = _
      rw [jmpN_succ, l204, ctr (by omega) (by omega), if_neg (by omega), extract_bld]
      unfold sp_ext
      rw [if_pos hx64]; rfl
    · show jmpN _ _ _ _ _ _ _ (k + 1) _ _ = _
      have e := put_bit (f := fun i => btN y (x + i)) (fun i => bt_lt _ _) (show i < 64 by omega)
      rw [jmpN_succ, l204, ctr (by omega) (by omega), if_pos hi, addi_le (show x + i < 2 ^ 64 by omega), okN_bi (pure75b y _ hy (by omega)), sbit hy (by omega), addi1 (by omega), cnv_mod i (by omega), noshift (by omega), bi_ff, e]
  · refine pure_fn mixed globs fn204 body204 nt204 rs204 RR_ok lab204 [23] 0 ((s204 _ x v y).trans ?_)
    unfold sp_ext
    rw [if_neg hx64, biased3]
    by_cases h2 : x < 2 ^ 63
    · rw [nble_t (show 9223372036854775808 ≤ (x + 2 ^ 63) % 2 ^ 64 by omega), nble_f (show ¬ (x + 2 ^ 63) % 2 ^ 64 ≤ 9223372036854775871 by omega)]; rfl
    · rw [nble_f (show ¬ 9223372036854775808 ≤ (x + 2 ^ 63) % 2 ^ 64 by omega)]; rfl
/-- a, then b: the bits so far -/
def catU (c a b i : Nat) : Nat := (a % 2 ^ i * 2 ^ c % 2 ^ 64) ||| b
theorem catU_step {c a b i : Nat} (h : i + c < 64) : g_or (catU c a b i) (shlN 7 (btN a i) (i + c)) = catU c a b (i + 1) := by
  rw [g_or_eq, shl7_eq h]
  unfold catU
  rw [Nat.or_assoc, Nat.or_comm b, ← Nat.or_assoc]
  congr 1
  have ha : a % 2 ^ (i + 1) = 2 ^ i * btN a i + a % 2 ^ i := by rw [Nat.pow_succ, Nat.mod_mul, Nat.add_comm]; rfl
  have hlt := Nat.mod_lt a (Nat.two_pow_pos i)
  have hb : btN a i < 2 := bt_lt a i
  have hl1 : a % 2 ^ i * 2 ^ c < 2 ^ (i + c) := by rw [Nat.pow_add]; exact Nat.mul_lt_mul_of_pos_right hlt (Nat.two_pow_pos c)
  have h64 : (2 : Nat) ^ (i + c + 1) ≤ 2 ^ 64 := Nat.pow_le_pow_right (by decide) (by omega)
  have hpp : (2 : Nat) ^ (i + c + 1) = 2 * 2 ^ (i + c) := by rw [Nat.pow_succ, Nat.mul_comm]
  have hm : btN a i * 2 ^ (i + c) ≤ 2 ^ (i + c) := by
    have : btN a i ≤ 1 := by omega
    calc btN a i * 2 ^ (i + c) ≤ 1 * 2 ^ (i + c) := Nat.mul_le_mul_right _ this
      _ = 2 ^ (i + c) := Nat.one_mul _
  have e1 : a % 2 ^ (i + 1) * 2 ^ c = 2 ^ (i + c) * btN a i + a % 2 ^ i * 2 ^ c := by rw [ha, Nat.add_mul, Nat.pow_add]; congr 1; rw [Nat.mul_assoc, Nat.mul_assoc, Nat.mul_comm (btN a i)]
  rw [e1, Nat.mod_eq_of_lt (show a % 2 ^ i * 2 ^ c < 2 ^ 64 by omega), Nat.mod_eq_of_lt (show btN a i * 2 ^ (i + c) < 2 ^ 64 by omega), Nat.mul_comm (btN a i), Nat.mod_eq_of_lt (show 2 ^ (i + c) * btN a i + a % 2 ^ i * 2 ^ c < 2 ^ 64 by rw [Nat.mul_comm]; omega), Nat.two_pow_add_eq_or_of_lt hl1, Nat.or_comm]
theorem catU_keep {c a b i : Nat} (h : ¬ i + c < 64) : catU c a b (i + 1) = catU c a b i := by
  unfold catU
  have ha : a % 2 ^ (i + 1) = 2 ^ i * btN a i + a % 2 ^ i := by rw [Nat.pow_succ, Nat.mod_mul, Nat.add_comm]; rfl
  congr 1
  obtain ⟨d, hd⟩ : ∃ d, i + c = 64 + d := ⟨i + c - 64, by omega⟩
  have e1 : a % 2 ^ (i + 1) * 2 ^ c = a % 2 ^ i * 2 ^ c + 2 ^ 64 * (2 ^ d * btN a i) := by
    rw [ha, Nat.add_mul, Nat.add_comm, ← Nat.mul_assoc, ← Nat.pow_add, ← hd, Nat.pow_add]
    congr 1
    rw [Nat.mul_assoc, Nat.mul_assoc, Nat.mul_comm (btN a i)]
  rw [e1, Nat.add_mul_mod_self_left]
theorem pure150 (x v y z : Nat) (hx : x < 2 ^ 64) (hv : v < 2 ^ 64) (hy : y < 2 ^ 64) (hz : z < 2 ^ 64) : PureAt Tryz.prog 150 [i64 x, i64 v, u64 y, u64 z] (u64 (sp_cat x v y z)) := by
  obtain ⟨h1, h2⟩ := clamp_range hx
  obtain ⟨g1, g2⟩ := clamp_range hv
  have h := walkN (n := clampN x) (A := ansY (u64 (sp_cat x v y z))) (L := (fun k i => jmpN Tryz.prog 37 lab150 (baseH Tryz.prog) RR (finY Tryz.prog [.tmp 8] [23]) (bodyC Tryz.f150) k [0,0,1,0,1,1] [i64 v, u64 y, u64 (catU (clampN v) y (cutN v z) i), i64 (clampN x), i64 i])) (fun k => ?_) (fun k i hi => ?_) (clampN x) 0 (by omega)
  · refine pure_fn mixed globs fn150 body150 nt150 rs150 RR_ok lab150 [23] (clampN x + 1) ((s150 _ x v y z).trans ?_)
    rw [okN_bi (pure32 v z hv hz), okN_bi (pure74 x)]
    have e : catU (clampN v) y (cutN v z) 0 = cutN v z := by unfold catU; simp [Nat.mod_one]
    rw [e] at h
    exact h
  · show jmpN _ _ _ _ _ _ _ (k + 1) _ _ = _
    rw [jmpN_succ, l150, ctr (by omega) (by omega), if_neg (by omega)]; rfl
  · show jmpN _ _ _ _ _ _ _ (k + 1) _ _ = _
    rw [jmpN_succ, l150, ctr (by omega) (by omega), if_pos hi, okN_bi (pure74 v), okN_bi (pure74 v), okN_bi (pure75b y i hy (by omega)), addi_le (show i + clampN v < 2 ^ 64 by omega), sbit hy (by omega), addi1 (by omega), cnv_mod (i + clampN v) (by omega), bl_bi, biased3s (by omega), nble_dec]
    by_cases hc : i + clampN v < 64
    · rw [decide_eq_false (show ¬ 9223372036854775872 ≤ i + clampN v + 2 ^ 63 by omega), nb_f, bi_tt, noshift hc, bi_ff, catU_step hc]
    · rw [decide_eq_true (show 9223372036854775872 ≤ i + clampN v + 2 ^ 63 by omega), nb_t, bi_ff, catU_keep hc]
end Go.Eng
namespace Go.Eng
open Go.RowKit Go.Proofs
noncomputable section
def sp_shf (x y b z : Nat) : Nat := bld (shf x y b z) (clampN x)
def sp_quo (y z : Nat) : Nat := y / z
def sp_mod (y z : Nat) : Nat := y % z
def sp_by (x y : Nat) : Nat := min (cutN x y) 64
def sp_shift (k x y z : Nat) : Nat := if k = 2 then sp_sar x y z else if k = 1 then sp_shr x y z else sp_shl x y z
def NtR2 : Nat → Option Native := ntL [(74, natP Tryz.prog 74 [3] fun l => i64 (clampN (nthL l 0).p)), (75, natP Tryz.prog 75 [23, 3] fun l => u64 (sp_bit (nthL l 0).p (nthL l 1).p)), n2 32 cutN, (222, natP Tryz.prog 222 [3] fun l => u64 (maskN (nthL l 0).p)), n3 209 sp_add, n3 206 sp_and, n3 207 sp_or, n2 202 sp_not, n2 203 sp_ngt,
  (252, natP Tryz.prog 252 [23, 23] fun l => tupV [u64 (sp_quo (nthL l 0).p (nthL l 1).p), u64 (sp_mod (nthL l 0).p (nthL l 1).p)]), (253, natP Tryz.prog 253 [3, 23, 3, 23] fun l => u64 (sp_shf (nthL l 0).p (nthL l 1).p (nthL l 2).p (nthL l 3).p)), (254, natP Tryz.prog 254 [3, 23] fun l => i64 (sp_by (nthL l 0).p (nthL l 1).p)),
  (256, natP Tryz.prog 256 [3, 23] fun l => i64 (sp_sgn (nthL l 0).p (nthL l 1).p)), (255, natP Tryz.prog 255 [4] fun l => u64 (nthL l 0).p), (250, natP Tryz.prog 250 [3, 3, 23, 23] fun l => u64 (sp_shift (nthL l 0).p (nthL l 1).p (nthL l 2).p (nthL l 3).p))]
def RR2 : Rec := evN Tryz.prog NtR2 (fun _ => false) 2
/- operators: those of the program, those of the reference -/
def NtO : Nat → Option Native := ntL [n3 189 sp_and, n3 190 sp_or, n3 191 sp_xor, n3 192 sp_add, n3 193 sp_sub, n3 194 sp_mul, n3 195 sp_div, n3 196 sp_rem, n3 197 sp_shl, n3 198 sp_shr, n3 199 sp_sar, n3 200 sp_ult, n3 201 sp_slt, (72, natP Tryz.prog 72 [3, 23] fun l => aggV [i64 (nthL l 0).p, u64 (cutN (nthL l 0).p (nthL l 1).p)]),
  n2 138 sp_not, n2 139 sp_ngt, (140, natP Tryz.prog 140 [3, 3, 23, 23] fun l => u64 (sp_cat (nthL l 0).p (nthL l 1).p (nthL l 2).p (nthL l 3).p)), (141, natP Tryz.prog 141 [3, 3, 23] fun l => u64 (sp_ext (nthL l 0).p (nthL l 1).p (nthL l 2).p)), (142, natP Tryz.prog 142 [3, 3, 23] fun l => u64 (sp_sxt (nthL l 0).p (nthL l 1).p (nthL l 2).p)),
  (143, natP Tryz.prog 143 [22, 3, 23, 23] fun l => u64 (sp_bin (nthL l 0).p (nthL l 1).p (nthL l 2).p (nthL l 3).p))]
def RO : Rec := evN Tryz.prog NtO (fun _ => false) 2
def NtQ : Nat → Option Native := ntL [n3 206 sp_and, n3 207 sp_or, n3 208 sp_xor, n3 209 sp_add, n3 210 sp_sub, n3 211 sp_mul, n3 212 sp_div, n3 213 sp_rem, n3 214 sp_shl, n3 215 sp_shr, n3 216 sp_sar, n3 217 sp_eq, n3 218 sp_ult, n3 219 sp_slt,
  n2 202 sp_not, n2 203 sp_ngt, n2 32 cutN, (150, natP Tryz.prog 150 [3, 3, 23, 23] fun l => u64 (sp_cat (nthL l 0).p (nthL l 1).p (nthL l 2).p (nthL l 3).p)), (204, natP Tryz.prog 204 [3, 3, 23] fun l => u64 (sp_ext (nthL l 0).p (nthL l 1).p (nthL l 2).p)), (205, natP Tryz.prog 205 [3, 3, 23] fun l => u64 (sp_sxt (nthL l 0).p (nthL l 1).p (nthL l 2).p)),
  (151, natP Tryz.prog 151 [22, 3, 23, 23] fun l => u64 (sp_bin (nthL l 0).p (nthL l 1).p (nthL l 2).p (nthL l 3).p))]
def RQ : Rec := evN Tryz.prog NtQ (fun _ => false) 2
end
theorem RR2_ok : RecOk Tryz.prog RR2 := evN_ok mixed (ntL_cons (ntL_cons (ntL_cons (ntL_cons (ntL_cons (ntL_cons (ntL_cons (ntL_cons (ntL_cons (ntL_cons (ntL_cons (ntL_cons (ntL_cons (ntL_cons (ntL_cons ntL_nil))))))))))))))) noGor 2
theorem RO_ok : RecOk Tryz.prog RO := evN_ok mixed (ntL_cons (ntL_cons (ntL_cons (ntL_cons (ntL_cons (ntL_cons (ntL_cons (ntL_cons (ntL_cons (ntL_cons (ntL_cons (ntL_cons (ntL_cons (ntL_cons (ntL_cons (ntL_cons (ntL_cons (ntL_cons (ntL_cons (ntL_cons ntL_nil)))))))))))))))))))) noGor 2
theorem RQ_ok : RecOk Tryz.prog RQ := evN_ok mixed (ntL_cons (ntL_cons (ntL_cons (ntL_cons (ntL_cons (ntL_cons (ntL_cons (ntL_cons (ntL_cons (ntL_cons (ntL_cons (ntL_cons (ntL_cons (ntL_cons (ntL_cons (ntL_cons (ntL_cons (ntL_cons (ntL_cons (ntL_cons (ntL_cons ntL_nil))))))))))))))))))))) noGor 2
end Go.Eng
namespace Go.Eng
open Go.RowKit Go.Proofs
theorem s203 (J : Jmp) (x y : Nat) : (compY Tryz.prog 10 (fun _ => none) (finY Tryz.prog [.tmp 4] [23]) J [] (bodyC Tryz.f203) (finY Tryz.prog [.tmp 4] [23]) []).run RR2 (setArgs 0 [i64 x, u64 y] noFr) (baseH Tryz.prog) =
  (bi (nbeq (okN (PureAt Tryz.prog 202 [(i64 x), (u64 y)] (u64 (sp_not x y)))) 1)
 (bi (nbeq (okN (PureAt Tryz.prog 209 [(i64 x), (u64 (sp_not x y)), (u64 1)] (u64 (sp_add x (sp_not x y) 1)))) 1)
 (ansY (u64 (sp_add x (sp_not x y) 1)))
 (failR 301))
 (failR 301)) := by kernel_rfl
theorem s207 (J : Jmp) (x y z : Nat) : (compY Tryz.prog 17 (fun _ => none) (finY Tryz.prog [.tmp 6] [23]) J [] (bodyC Tryz.f207) (finY Tryz.prog [.tmp 6] [23]) []).run RR2 (setArgs 0 [i64 x, u64 y, u64 z] noFr) (baseH Tryz.prog) =
  (bi (nbeq (okN (PureAt Tryz.prog 202 [(i64 x), (u64 y)] (u64 (sp_not x y)))) 1)
 (bi (nbeq (okN (PureAt Tryz.prog 202 [(i64 x), (u64 z)] (u64 (sp_not x z)))) 1)
 (bi (nbeq (okN (PureAt Tryz.prog 206 [(i64 x), (u64 (sp_not x y)), (u64 (sp_not x z))] (u64 (sp_and x (sp_not x y) (sp_not x z))))) 1)
 (bi (nbeq (okN (PureAt Tryz.prog 202 [(i64 x), (u64 (sp_and x (sp_not x y) (sp_not x z)))] (u64 (sp_not x (sp_and x (sp_not x y) (sp_not x z)))))) 1)
 (ansY (u64 (sp_not x (sp_and x (sp_not x y) (sp_not x z)))))
 (failR 301))
 (failR 301))
 (failR 301))
 (failR 301)) := by kernel_rfl
theorem s208 (J : Jmp) (x y z : Nat) : (compY Tryz.prog 16 (fun _ => none) (finY Tryz.prog [.tmp 6] [23]) J [] (bodyC Tryz.f208) (finY Tryz.prog [.tmp 6] [23]) []).run RR2 (setArgs 0 [i64 x, u64 y, u64 z] noFr) (baseH Tryz.prog) =
  (bi (nbeq (okN (PureAt Tryz.prog 207 [(i64 x), (u64 y), (u64 z)] (u64 (sp_or x y z)))) 1)
 (bi (nbeq (okN (PureAt Tryz.prog 206 [(i64 x), (u64 y), (u64 z)] (u64 (sp_and x y z)))) 1)
 (ansY (u64 (g_subu (sp_or x y z) (sp_and x y z))))
 (failR 301))
 (failR 301)) := by kernel_rfl
theorem s210 (J : Jmp) (x y z : Nat) : (compY Tryz.prog 13 (fun _ => none) (finY Tryz.prog [.tmp 6] [23]) J [] (bodyC Tryz.f210) (finY Tryz.prog [.tmp 6] [23]) []).run RR2 (setArgs 0 [i64 x, u64 y, u64 z] noFr) (baseH Tryz.prog) =
  (bi (nbeq (okN (PureAt Tryz.prog 203 [(i64 x), (u64 z)] (u64 (sp_ngt x z)))) 1)
 (bi (nbeq (okN (PureAt Tryz.prog 209 [(i64 x), (u64 y), (u64 (sp_ngt x z))] (u64 (sp_add x y (sp_ngt x z))))) 1)
 (ansY (u64 (sp_add x y (sp_ngt x z))))
 (failR 301))
 (failR 301)) := by kernel_rfl
theorem s212 (J : Jmp) (x y z : Nat) : (compY Tryz.prog 26 (fun _ => none) (finY Tryz.prog [.tmp 6] [23]) J [] (bodyC Tryz.f212) (finY Tryz.prog [.tmp 6] [23]) []).run RR2 (setArgs 0 [i64 x, u64 y, u64 z] noFr) (baseH Tryz.prog) =
  (bi (nbeq (okN (PureAt Tryz.prog 32 [(i64 x), (u64 z)] (u64 (cutN x z)))) 1)
 (bi (nbeq (bi (nbeq (cutN x z) 0) 1 0) 1)
 (bi (nbeq (okN (PureAt Tryz.prog 222 [(i64 x)] (u64 (maskN x)))) 1)
 (ansY (u64 (maskN x)))
 (failR 301))
 (bi (nbeq (okN (PureAt Tryz.prog 32 [(i64 x), (u64 y)] (u64 (cutN x y)))) 1)
 (bi (nbeq (okN (PureAt Tryz.prog 32 [(i64 x), (u64 z)] (u64 (cutN x z)))) 1)
 (bi (nbeq (okN (PureAt Tryz.prog 252 [(u64 (cutN x y)), (u64 (cutN x z))] (tupV [(u64 (sp_quo (cutN x y) (cutN x z))), (u64 (sp_mod (cutN x y) (cutN x z)))]))) 1)
 (ansY (u64 (sp_quo (cutN x y) (cutN x z))))
 (failR 301))
 (failR 301))
 (failR 301)))
 (failR 301)) := by kernel_rfl
theorem s213 (J : Jmp) (x y z : Nat) : (compY Tryz.prog 27 (fun _ => none) (finY Tryz.prog [.tmp 6] [23]) J [] (bodyC Tryz.f213) (finY Tryz.prog [.tmp 6] [23]) []).run RR2 (setArgs 0 [i64 x, u64 y, u64 z] noFr) (baseH Tryz.prog) =
  (bi (nbeq (okN (PureAt Tryz.prog 32 [(i64 x), (u64 z)] (u64 (cutN x z)))) 1)
 (bi (nbeq (bi (nbeq (cutN x z) 0) 1 0) 1)
 (bi (nbeq (okN (PureAt Tryz.prog 32 [(i64 x), (u64 y)] (u64 (cutN x y)))) 1)
 (ansY (u64 (cutN x y)))
 (failR 301))
 (bi (nbeq (okN (PureAt Tryz.prog 32 [(i64 x), (u64 y)] (u64 (cutN x y)))) 1)
 (bi (nbeq (okN (PureAt Tryz.prog 32 [(i64 x), (u64 z)] (u64 (cutN x z)))) 1)
 (bi (nbeq (okN (PureAt Tryz.prog 252 [(u64 (cutN x y)), (u64 (cutN x z))] (tupV [(u64 (sp_quo (cutN x y) (cutN x z))), (u64 (sp_mod (cutN x y) (cutN x z)))]))) 1)
 (ansY (u64 (sp_mod (cutN x y) (cutN x z))))
 (failR 301))
 (failR 301))
 (failR 301)))
 (failR 301)) := by kernel_rfl
theorem s214 (J : Jmp) (x y z : Nat) : (compY Tryz.prog 14 (fun _ => none) (finY Tryz.prog [.tmp 6] [23]) J [] (bodyC Tryz.f214) (finY Tryz.prog [.tmp 6] [23]) []).run RR2 (setArgs 0 [i64 x, u64 y, u64 z] noFr) (baseH Tryz.prog) =
  (bi (nbeq (okN (PureAt Tryz.prog 254 [(i64 x), (u64 z)] (i64 (sp_by x z)))) 1)
 (bi (nbeq (okN (PureAt Tryz.prog 253 [(i64 x), (u64 y), (i64 (g_subi 0 (sp_by x z))), (u64 0)] (u64 (sp_shf x y (g_subi 0 (sp_by x z)) 0)))) 1)
 (ansY (u64 (sp_shf x y (g_subi 0 (sp_by x z)) 0)))
 (failR 301))
 (failR 301)) := by kernel_rfl
theorem s215 (J : Jmp) (x y z : Nat) : (compY Tryz.prog 13 (fun _ => none) (finY Tryz.prog [.tmp 6] [23]) J [] (bodyC Tryz.f215) (finY Tryz.prog [.tmp 6] [23]) []).run RR2 (setArgs 0 [i64 x, u64 y, u64 z] noFr) (baseH Tryz.prog) =
  (bi (nbeq (okN (PureAt Tryz.prog 254 [(i64 x), (u64 z)] (i64 (sp_by x z)))) 1)
 (bi (nbeq (okN (PureAt Tryz.prog 253 [(i64 x), (u64 y), (i64 (sp_by x z)), (u64 0)] (u64 (sp_shf x y (sp_by x z) 0)))) 1)
 (ansY (u64 (sp_shf x y (sp_by x z) 0)))
 (failR 301))
 (failR 301)) := by kernel_rfl
theorem s216 (J : Jmp) (x y z : Nat) : (compY Tryz.prog 18 (fun _ => none) (finY Tryz.prog [.tmp 6] [23]) J [] (bodyC Tryz.f216) (finY Tryz.prog [.tmp 6] [23]) []).run RR2 (setArgs 0 [i64 x, u64 y, u64 z] noFr) (baseH Tryz.prog) =
  (bi (nbeq (okN (PureAt Tryz.prog 254 [(i64 x), (u64 z)] (i64 (sp_by x z)))) 1)
 (bi (nbeq (okN (PureAt Tryz.prog 74 [(i64 x)] (i64 (clampN x)))) 1)
 (bi (nbeq (okN (PureAt Tryz.prog 75 [(u64 y), (i64 (g_subi (clampN x) 1))] (u64 (sp_bit y (g_subi (clampN x) 1))))) 1)
 (bi (nbeq (okN (PureAt Tryz.prog 253 [(i64 x), (u64 y), (i64 (sp_by x z)), (u64 (sp_bit y (g_subi (clampN x) 1)))] (u64 (sp_shf x y (sp_by x z) (sp_bit y (g_subi (clampN x) 1)))))) 1)
 (ansY (u64 (sp_shf x y (sp_by x z) (sp_bit y (g_subi (clampN x) 1)))))
 (failR 301))
 (failR 301))
 (failR 301))
 (failR 301)) := by kernel_rfl
theorem s219 (J : Jmp) (x y z : Nat) : (compY Tryz.prog 15 (fun _ => none) (finY Tryz.prog [.tmp 6] [23]) J [] (bodyC Tryz.f219) (finY Tryz.prog [.tmp 6] [23]) []).run RR2 (setArgs 0 [i64 x, u64 y, u64 z] noFr) (baseH Tryz.prog) =
  (bi (nbeq (okN (PureAt Tryz.prog 256 [(i64 x), (u64 y)] (i64 (sp_sgn x y)))) 1)
 (bi (nbeq (okN (PureAt Tryz.prog 256 [(i64 x), (u64 z)] (i64 (sp_sgn x z)))) 1)
 (bi (nbeq (okN (PureAt Tryz.prog 255 [(mk1 8 (bi (nb (nble (biased 3 (sp_sgn x z)) (biased 3 (sp_sgn x y)))) 1 0))] (u64 (bi (nb (nble (biased 3 (sp_sgn x z)) (biased 3 (sp_sgn x y)))) 1 0)))) 1)
 (ansY (u64 (bi (nb (nble (biased 3 (sp_sgn x z)) (biased 3 (sp_sgn x y)))) 1 0)))
 (failR 301))
 (failR 301))
 (failR 301)) := by kernel_rfl
theorem s197 (J : Jmp) (x y z : Nat) : (compY Tryz.prog 11 (fun _ => none) (finY Tryz.prog [.tmp 6] [23]) J [] (bodyC Tryz.f197) (finY Tryz.prog [.tmp 6] [23]) []).run RR2 (setArgs 0 [i64 x, u64 y, u64 z] noFr) (baseH Tryz.prog) =
  (bi (nbeq (okN (PureAt Tryz.prog 250 [(i64 0), (i64 x), (u64 y), (u64 z)] (u64 (sp_shift 0 x y z)))) 1)
 (ansY (u64 (sp_shift 0 x y z)))
 (failR 301)) := by kernel_rfl
theorem s198 (J : Jmp) (x y z : Nat) : (compY Tryz.prog 11 (fun _ => none) (finY Tryz.prog [.tmp 6] [23]) J [] (bodyC Tryz.f198) (finY Tryz.prog [.tmp 6] [23]) []).run RR2 (setArgs 0 [i64 x, u64 y, u64 z] noFr) (baseH Tryz.prog) =
  (bi (nbeq (okN (PureAt Tryz.prog 250 [(i64 1), (i64 x), (u64 y), (u64 z)] (u64 (sp_shift 1 x y z)))) 1)
 (ansY (u64 (sp_shift 1 x y z)))
 (failR 301)) := by kernel_rfl
theorem s199 (J : Jmp) (x y z : Nat) : (compY Tryz.prog 11 (fun _ => none) (finY Tryz.prog [.tmp 6] [23]) J [] (bodyC Tryz.f199) (finY Tryz.prog [.tmp 6] [23]) []).run RR2 (setArgs 0 [i64 x, u64 y, u64 z] noFr) (baseH Tryz.prog) =
  (bi (nbeq (okN (PureAt Tryz.prog 250 [(i64 2), (i64 x), (u64 y), (u64 z)] (u64 (sp_shift 2 x y z)))) 1)
 (ansY (u64 (sp_shift 2 x y z)))
 (failR 301)) := by kernel_rfl
theorem s151 (J : Jmp) (o x y z : Nat) : (compY Tryz.prog 92 (fun _ => none) (finY Tryz.prog [.tmp 8] [23]) J [] (bodyC Tryz.f151) (finY Tryz.prog [.tmp 8] [23]) []).run RQ (setArgs 0 [i64 o, i64 x, u64 y, u64 z] noFr) (baseH Tryz.prog) =
  (bi (nbeq (bi (nbeq o 5) 1 0) 1)
 (bi (nbeq (okN (PureAt Tryz.prog 206 [(i64 x), (u64 y), (u64 z)] (u64 (sp_and x y z)))) 1)
 (ansY (u64 (sp_and x y z)))
 (failR 301))
 (bi (nbeq (bi (nbeq o 6) 1 0) 1)
 (bi (nbeq (okN (PureAt Tryz.prog 207 [(i64 x), (u64 y), (u64 z)] (u64 (sp_or x y z)))) 1)
 (ansY (u64 (sp_or x y z)))
 (failR 301))
 (bi (nbeq (bi (nbeq o 7) 1 0) 1)
 (bi (nbeq (okN (PureAt Tryz.prog 208 [(i64 x), (u64 y), (u64 z)] (u64 (sp_xor x y z)))) 1)
 (ansY (u64 (sp_xor x y z)))
 (failR 301))
 (bi (nbeq (bi (nbeq o 8) 1 0) 1)
 (bi (nbeq (okN (PureAt Tryz.prog 209 [(i64 x), (u64 y), (u64 z)] (u64 (sp_add x y z)))) 1)
 (ansY (u64 (sp_add x y z)))
 (failR 301))
 (bi (nbeq (bi (nbeq o 9) 1 0) 1)
 (bi (nbeq (okN (PureAt Tryz.prog 210 [(i64 x), (u64 y), (u64 z)] (u64 (sp_sub x y z)))) 1)
 (ansY (u64 (sp_sub x y z)))
 (failR 301))
 (bi (nbeq (bi (nbeq o 10) 1 0) 1)
 (bi (nbeq (okN (PureAt Tryz.prog 211 [(i64 x), (u64 y), (u64 z)] (u64 (sp_mul x y z)))) 1)
 (ansY (u64 (sp_mul x y z)))
 (failR 301))
 (bi (nbeq (bi (nbeq o 11) 1 0) 1)
 (bi (nbeq (okN (PureAt Tryz.prog 212 [(i64 x), (u64 y), (u64 z)] (u64 (sp_div x y z)))) 1)
 (ansY (u64 (sp_div x y z)))
 (failR 301))
 (bi (nbeq (bi (nbeq o 12) 1 0) 1)
 (bi (nbeq (okN (PureAt Tryz.prog 213 [(i64 x), (u64 y), (u64 z)] (u64 (sp_rem x y z)))) 1)
 (ansY (u64 (sp_rem x y z)))
 (failR 301))
 (bi (nbeq (bi (nbeq o 13) 1 0) 1)
 (bi (nbeq (okN (PureAt Tryz.prog 214 [(i64 x), (u64 y), (u64 z)] (u64 (sp_shl x y z)))) 1)
 (ansY (u64 (sp_shl x y z)))
 (failR 301))
 (bi (nbeq (bi (nbeq o 14) 1 0) 1)
 (bi (nbeq (okN (PureAt Tryz.prog 215 [(i64 x), (u64 y), (u64 z)] (u64 (sp_shr x y z)))) 1)
 (ansY (u64 (sp_shr x y z)))
 (failR 301))
 (bi (nbeq (bi (nbeq o 15) 1 0) 1)
 (bi (nbeq (okN (PureAt Tryz.prog 216 [(i64 x), (u64 y), (u64 z)] (u64 (sp_sar x y z)))) 1)
 (ansY (u64 (sp_sar x y z)))
 (failR 301))
 (bi (nbeq (bi (nbeq o 16) 1 0) 1)
 (bi (nbeq (okN (PureAt Tryz.prog 217 [(i64 x), (u64 y), (u64 z)] (u64 (sp_eq x y z)))) 1)
 (ansY (u64 (sp_eq x y z)))
 (failR 301))
 (bi (nbeq (bi (nbeq o 17) 1 0) 1)
 (bi (nbeq (okN (PureAt Tryz.prog 218 [(i64 x), (u64 y), (u64 z)] (u64 (sp_ult x y z)))) 1)
 (ansY (u64 (sp_ult x y z)))
 (failR 301))
 (bi (nbeq (okN (PureAt Tryz.prog 219 [(i64 x), (u64 y), (u64 z)] (u64 (sp_slt x y z)))) 1)
 (ansY (u64 (sp_slt x y z)))
 (failR 301))))))))))))))) := by kernel_rfl
theorem s149 (J : Jmp) (o r v w y : Nat) : (compY Tryz.prog 36 (fun _ => none) (finY Tryz.prog [.tmp 10] [23]) J [] (bodyC Tryz.f149) (finY Tryz.prog [.tmp 10] [23]) []).run RQ (setArgs 0 [i64 o, i64 r, u64 v, i64 w, u64 y] noFr) (baseH Tryz.prog) =
  (bi (nbeq (bi (nbeq o 3) 1 0) 1)
 (bi (nbeq (okN (PureAt Tryz.prog 202 [(i64 w), (u64 y)] (u64 (sp_not w y)))) 1)
 (ansY (u64 (sp_not w y)))
 (failR 301))
 (bi (nbeq (bi (nbeq o 4) 1 0) 1)
 (bi (nbeq (okN (PureAt Tryz.prog 203 [(i64 w), (u64 y)] (u64 (sp_ngt w y)))) 1)
 (ansY (u64 (sp_ngt w y)))
 (failR 301))
 (bi (nbeq (bi (nbeq o 21) 1 0) 1)
 (bi (nbeq (okN (PureAt Tryz.prog 204 [(i64 (cnvN 7 3 v)), (i64 r), (u64 y)] (u64 (sp_ext (cnvN 7 3 v) r y)))) 1)
 (ansY (u64 (sp_ext (cnvN 7 3 v) r y)))
 (failR 301))
 (bi (nbeq (bi (nbeq o 23) 1 0) 1)
 (bi (nbeq (okN (PureAt Tryz.prog 205 [(i64 w), (i64 r), (u64 y)] (u64 (sp_sxt w r y)))) 1)
 (ansY (u64 (sp_sxt w r y)))
 (failR 301))
 (ansY (u64 y)))))) := by kernel_rfl
theorem body203 : Tryz.f203.body = some (bodyC Tryz.f203) := by kernel_rfl
theorem fn203 : Tryz.prog.funcs[203]? = some Tryz.f203 := by kernel_rfl
theorem nt203 : Tryz.f203.ntmps = 10 := by kernel_rfl
theorem rs203 : Tryz.f203.results.toList = [.tmp 4] := by kernel_rfl
theorem body207 : Tryz.f207.body = some (bodyC Tryz.f207) := by kernel_rfl
theorem fn207 : Tryz.prog.funcs[207]? = some Tryz.f207 := by kernel_rfl
theorem nt207 : Tryz.f207.ntmps = 17 := by kernel_rfl
theorem rs207 : Tryz.f207.results.toList = [.tmp 6] := by kernel_rfl
theorem body208 : Tryz.f208.body = some (bodyC Tryz.f208) := by kernel_rfl
theorem fn208 : Tryz.prog.funcs[208]? = some Tryz.f208 := by kernel_rfl
theorem nt208 : Tryz.f208.ntmps = 16 := by kernel_rfl
theorem rs208 : Tryz.f208.results.toList = [.tmp 6] := by kernel_rfl
theorem body210 : Tryz.f210.body = some (bodyC Tryz.f210) := by kernel_rfl
theorem fn210 : Tryz.prog.funcs[210]? = some Tryz.f210 := by kernel_rfl
theorem nt210 : Tryz.f210.ntmps = 13 := by kernel_rfl
theorem rs210 : Tryz.f210.results.toList = [.tmp 6] := by kernel_rfl
theorem body212 : Tryz.f212.body = some (bodyC Tryz.f212) := by kernel_rfl
theorem fn212 : Tryz.prog.funcs[212]? = some Tryz.f212 := by kernel_rfl
theorem nt212 : Tryz.f212.ntmps = 26 := by kernel_rfl
theorem rs212 : Tryz.f212.results.toList = [.tmp 6] := by kernel_rfl
theorem body213 : Tryz.f213.body = some (bodyC Tryz.f213) := by kernel_rfl
theorem fn213 : Tryz.prog.funcs[213]? = some Tryz.f213 := by kernel_rfl
theorem nt213 : Tryz.f213.ntmps = 27 := by kernel_rfl
theorem rs213 : Tryz.f213.results.toList = [.tmp 6] := by kernel_rfl
theorem body214 : Tryz.f214.body = some (bodyC Tryz.f214) := by kernel_rfl
theorem fn214 : Tryz.prog.funcs[214]? = some Tryz.f214 := by kernel_rfl
theorem nt214 : Tryz.f214.ntmps = 14 := by kernel_rfl
theorem rs214 : Tryz.f214.results.toList = [.tmp 6] := by kernel_rfl
theorem body215 : Tryz.f215.body = some (bodyC Tryz.f215) := by kernel_rfl
theorem fn215 : Tryz.prog.funcs[215]? = some Tryz.f215 := by kernel_rfl
theorem nt215 : Tryz.f215.ntmps = 13 := by kernel_rfl
theorem rs215 : Tryz.f215.results.toList = [.tmp 6] := by kernel_rfl
theorem body216 : Tryz.f216.body = some (bodyC Tryz.f216) := by kernel_rfl
theorem fn216 : Tryz.prog.funcs[216]? = some Tryz.f216 := by kernel_rfl
theorem nt216 : Tryz.f216.ntmps = 18 := by kernel_rfl
theorem rs216 : Tryz.f216.results.toList = [.tmp 6] := by kernel_rfl
theorem body219 : Tryz.f219.body = some (bodyC Tryz.f219) := by kernel_rfl
theorem fn219 : Tryz.prog.funcs[219]? = some Tryz.f219 := by kernel_rfl
theorem nt219 : Tryz.f219.ntmps = 15 := by kernel_rfl
theorem rs219 : Tryz.f219.results.toList = [.tmp 6] := by kernel_rfl
theorem body197 : Tryz.f197.body = some (bodyC Tryz.f197) := by kernel_rfl
theorem fn197 : Tryz.prog.funcs[197]? = some Tryz.f197 := by kernel_rfl
theorem nt197 : Tryz.f197.ntmps = 11 := by kernel_rfl
theorem rs197 : Tryz.f197.results.toList = [.tmp 6] := by kernel_rfl
theorem body198 : Tryz.f198.body = some (bodyC Tryz.f198) := by kernel_rfl
theorem fn198 : Tryz.prog.funcs[198]? = some Tryz.f198 := by kernel_rfl
theorem nt198 : Tryz.f198.ntmps = 11 := by kernel_rfl
theorem rs198 : Tryz.f198.results.toList = [.tmp 6] := by kernel_rfl
theorem body199 : Tryz.f199.body = some (bodyC Tryz.f199) := by kernel_rfl
theorem fn199 : Tryz.prog.funcs[199]? = some Tryz.f199 := by kernel_rfl
theorem nt199 : Tryz.f199.ntmps = 11 := by kernel_rfl
theorem rs199 : Tryz.f199.results.toList = [.tmp 6] := by kernel_rfl
theorem body151 : Tryz.f151.body = some (bodyC Tryz.f151) := by kernel_rfl
theorem fn151 : Tryz.prog.funcs[151]? = some Tryz.f151 := by kernel_rfl
theorem nt151 : Tryz.f151.ntmps = 92 := by kernel_rfl
theorem rs151 : Tryz.f151.results.toList = [.tmp 8] := by kernel_rfl
theorem body149 : Tryz.f149.body = some (bodyC Tryz.f149) := by kernel_rfl
theorem fn149 : Tryz.prog.funcs[149]? = some Tryz.f149 := by kernel_rfl
theorem nt149 : Tryz.f149.ntmps = 36 := by kernel_rfl
theorem rs149 : Tryz.f149.results.toList = [.tmp 10] := by kernel_rfl
theorem not_val {x y : Nat} (hx : x < 2 ^ 64) (hy : y < 2 ^ 64) : sp_not x y = 2 ^ clampN x - 1 - y % 2 ^ clampN x := not_mod (clamp_range hx).2 hy
theorem not64 {x : Nat} (y : Nat) (hx : x < 2 ^ 64) : sp_not x y < 2 ^ 64 := cut64 _ hx
theorem and64 {x : Nat} (y z : Nat) (hx : x < 2 ^ 64) : sp_and x y z < 2 ^ 64 := cut64 _ hx
theorem pure203 (x y : Nat) (hx : x < 2 ^ 64) (hy : y < 2 ^ 64) : PureAt Tryz.prog 203 [i64 x, u64 y] (u64 (sp_ngt x y)) := by
  refine pure_fn mixed globs fn203 body203 nt203 rs203 RR2_ok (fun _ => none) [23] 0 ((s203 _ x y).trans ?_)
  obtain ⟨h1, h2⟩ := clamp_range hx
  rw [okN_bi (pure202 x y hx hy), okN_bi (pure209 x _ _ hx (not64 _ hx) (by decide))]
  have e : sp_add x (sp_not x y) 1 = sp_ngt x y := by
    rw [not_val hx hy]
    exact neg_mod h2 hy
  rw [e]
theorem pure207 (x y z : Nat) (hx : x < 2 ^ 64) (hy : y < 2 ^ 64) (hz : z < 2 ^ 64) : PureAt Tryz.prog 207 [i64 x, u64 y, u64 z] (u64 (sp_or x y z)) := by
  refine pure_fn mixed globs fn207 body207 nt207 rs207 RR2_ok (fun _ => none) [23] 0 ((s207 _ x y z).trans ?_)
  obtain ⟨h1, h2⟩ := clamp_range hx
  have hm : ∀ a, a % 2 ^ clampN x < 2 ^ clampN x := fun a => Nat.mod_lt _ (Nat.two_pow_pos _)
  rw [okN_bi (pure202 x y hx hy), okN_bi (pure202 x z hx hz), okN_bi (pure206 x _ _ hx (not64 _ hx) (not64 _ hx)), okN_bi (pure202 x _ hx (and64 _ _ hx))]
  have e : sp_not x (sp_and x (sp_not x y) (sp_not x z)) = sp_or x y z := by
    rw [not_val hx (and64 _ _ hx), not_val hx hy, not_val hx hz]
    have hl : (2 ^ clampN x - 1 - y % 2 ^ clampN x) &&& (2 ^ clampN x - 1 - z % 2 ^ clampN x) < 2 ^ clampN x := Nat.and_lt_two_pow _ (by have := Nat.two_pow_pos (clampN x); omega)
    have ea : sp_and x (2 ^ clampN x - 1 - y % 2 ^ clampN x) (2 ^ clampN x - 1 - z % 2 ^ clampN x) = (2 ^ clampN x - 1 - y % 2 ^ clampN x) &&& (2 ^ clampN x - 1 - z % 2 ^ clampN x) := Nat.mod_eq_of_lt hl
    rw [ea, Nat.mod_eq_of_lt hl, or_not (hm y) (hm z)]
    exact (Nat.or_mod_two_pow).symm
  rw [e]
theorem pure208 (x y z : Nat) (hx : x < 2 ^ 64) (hy : y < 2 ^ 64) (hz : z < 2 ^ 64) : PureAt Tryz.prog 208 [i64 x, u64 y, u64 z] (u64 (sp_xor x y z)) := by
  refine pure_fn mixed globs fn208 body208 nt208 rs208 RR2_ok (fun _ => none) [23] 0 ((s208 _ x y z).trans ?_)
  obtain ⟨h1, h2⟩ := clamp_range hx
  have hm : ∀ a, a % 2 ^ clampN x < 2 ^ clampN x := fun a => Nat.mod_lt _ (Nat.two_pow_pos _)
  rw [okN_bi (pure207 x y z hx hy hz), okN_bi (pure206 x y z hx hy hz), g_subu_eq]
  have eo : sp_or x y z = y % 2 ^ clampN x ||| z % 2 ^ clampN x := Nat.or_mod_two_pow
  have ea : sp_and x y z = y % 2 ^ clampN x &&& z % 2 ^ clampN x := Nat.and_mod_two_pow
  have ex : sp_xor x y z = y % 2 ^ clampN x ^^^ z % 2 ^ clampN x := Nat.xor_mod_two_pow
  have h := or_sub_and (hm y) (hm z)
  have hle : y % 2 ^ clampN x &&& z % 2 ^ clampN x ≤ y % 2 ^ clampN x ||| z % 2 ^ clampN x := Nat.le_trans Nat.and_le_left Nat.left_le_or
  have hlt : y % 2 ^ clampN x ||| z % 2 ^ clampN x < 2 ^ 64 := Nat.lt_of_lt_of_le (Nat.or_lt_two_pow (hm y) (hm z)) (Nat.pow_le_pow_right (by decide) h2)
  rw [eo, ea, ex, ← h]
  exact congrArg (fun n => ansY (u64 n)) (by omega)
theorem pure210 (x y z : Nat) (hx : x < 2 ^ 64) (hy : y < 2 ^ 64) (hz : z < 2 ^ 64) : PureAt Tryz.prog 210 [i64 x, u64 y, u64 z] (u64 (sp_sub x y z)) := by
  refine pure_fn mixed globs fn210 body210 nt210 rs210 RR2_ok (fun _ => none) [23] 0 ((s210 _ x y z).trans ?_)
  obtain ⟨h1, h2⟩ := clamp_range hx
  rw [okN_bi (pure203 x z hx hz), okN_bi (pure209 x y (sp_ngt x z) hx hy (cut64 _ hx))]
  have e : sp_add x y (sp_ngt x z) = sp_sub x y z := by
    show (y + (2 ^ 64 - z) % 2 ^ clampN x) % 2 ^ clampN x = (y + 2 ^ 64 - z) % 2 ^ clampN x
    rw [Nat.add_mod_mod]
    congr 1; omega
  rw [e]
theorem pure212 (x y z : Nat) (hx : x < 2 ^ 64) (hy : y < 2 ^ 64) (hz : z < 2 ^ 64) : PureAt Tryz.prog 212 [i64 x, u64 y, u64 z] (u64 (sp_div x y z)) := by
  refine pure_fn mixed globs fn212 body212 nt212 rs212 RR2_ok (fun _ => none) [23] 0 ((s212 _ x y z).trans ?_)
  obtain ⟨h1, h2⟩ := clamp_range hx
  rw [okN_bi (pure32 x z hx hz), okN_bi (pure222 x hx), okN_bi (pure32 x y hx hy), okN_bi (pure32 x z hx hz), bl_bi, nbeq_dec, bi_dec]
  unfold sp_div
  by_cases h : cutN x z = 0
  · rw [if_pos h, if_pos h]
  · rw [if_neg h, if_neg h]
    exact okN_bi (pure252 (cutN x y) (cutN x z) (cut64 _ hx) (cut64 _ hx) (by omega)) _ _
theorem pure213 (x y z : Nat) (hx : x < 2 ^ 64) (hy : y < 2 ^ 64) (hz : z < 2 ^ 64) : PureAt Tryz.prog 213 [i64 x, u64 y, u64 z] (u64 (sp_rem x y z)) := by
  refine pure_fn mixed globs fn213 body213 nt213 rs213 RR2_ok (fun _ => none) [23] 0 ((s213 _ x y z).trans ?_)
  obtain ⟨h1, h2⟩ := clamp_range hx
  rw [okN_bi (pure32 x z hx hz), okN_bi (pure32 x y hx hy), okN_bi (pure32 x z hx hz), bl_bi, nbeq_dec, bi_dec]
  unfold sp_rem
  by_cases h : cutN x z = 0
  · rw [if_pos h, if_pos h]
  · rw [if_neg h, if_neg h, okN_bi (pure32 x y hx hy)]
    exact okN_bi (pure252 (cutN x y) (cutN x z) (cut64 _ hx) (cut64 _ hx) (by omega)) _ _
theorem shf_dn {x y n z i : Nat} (hx : x < 2 ^ 64) (hn : n ≤ 64) (hi : i < clampN x) (hy : y < 2 ^ 64) : shf x y n z i = if i + n < clampN x then btN y (i + n) else z := by
  obtain ⟨h1, h2⟩ := clamp_range hx
  unfold shf
  rw [addi_le (show i + n < 2 ^ 64 by omega), sbit hy (by omega)]
  by_cases h : i + n < clampN x
  · rw [if_pos h, if_pos (by omega)]
  · rw [if_neg h, if_neg (by omega)]
theorem shf_up {x y n i : Nat} (hx : x < 2 ^ 64) (hn : n ≤ 64) (hi : i < clampN x) (hy : y < 2 ^ 64) : shf x y (g_subi 0 n) 0 i = if n ≤ i then btN y (i - n) else 0 := by
  obtain ⟨h1, h2⟩ := clamp_range hx
  unfold shf
  by_cases h : n ≤ i
  · have e : g_addi i (g_subi 0 n) = i - n := by rw [g_addi_eq, g_subi_eq]; omega
    rw [e, if_pos h, sbit hy (by omega), if_pos (by omega)]
  · have e : g_addi i (g_subi 0 n) = 2 ^ 64 - (n - i) := by rw [g_addi_eq, g_subi_eq]; omega
    rw [e, if_neg h, if_pos (by omega)]
    unfold sp_bit
    rw [if_neg (by omega)]
theorem by_le (x z : Nat) : sp_by x z ≤ 64 := Nat.min_le_right _ _
theorem by_eq {x z : Nat} (h : cutN x z < 64) : sp_by x z = cutN x z := by unfold sp_by; omega
theorem pure254' (x y : Nat) (hx : x < 2 ^ 64) (hy : y < 2 ^ 64) : PureAt Tryz.prog 254 [i64 x, u64 y] (i64 (sp_by x y)) := pure254 x y hx hy
theorem pure253' (x y b z : Nat) (hx : x < 2 ^ 64) (hy : y < 2 ^ 64) (hz : z < 2) : PureAt Tryz.prog 253 [i64 x, u64 y, i64 b, u64 z] (u64 (sp_shf x y b z)) := pure253 x y b z hx hy hz
theorem pure214 (x y z : Nat) (hx : x < 2 ^ 64) (hy : y < 2 ^ 64) (hz : z < 2 ^ 64) : PureAt Tryz.prog 214 [i64 x, u64 y, u64 z] (u64 (sp_shl x y z)) := by
  refine pure_fn mixed globs fn214 body214 nt214 rs214 RR2_ok (fun _ => none) [23] 0 ((s214 _ x y z).trans ?_)
  obtain ⟨h1, h2⟩ := clamp_range hx
  rw [okN_bi (pure254' x z hx hz), okN_bi (pure253' x y _ 0 hx hy (by decide))]
  have e : sp_shf x y (g_subi 0 (sp_by x z)) 0 = sp_shl x y z := by
    unfold sp_shf
    rw [bld_congr fun i hi => shf_up hx (by_le x z) hi hy, shl_bld]
    unfold sp_shl
    by_cases h : clampN x ≤ cutN x z
    · rw [if_pos h]
      have hn : clampN x ≤ sp_by x z := by unfold sp_by; omega
      obtain ⟨d, hd⟩ := pow_dvd hn
      rw [hd, Nat.mul_left_comm]
      exact Nat.mul_mod_right _ _
    · rw [if_neg h, by_eq (by omega)]
      show _ = y % 2 ^ clampN x * 2 ^ cutN x z % 2 ^ clampN x
      rw [Nat.mod_mul_mod]
  rw [e]
theorem lshr_val {x y z : Nat} (hx : x < 2 ^ 64) (hy : y < 2 ^ 64) : bld (shf x y (sp_by x z) 0) (clampN x) = sp_shr x y z := by
  obtain ⟨h1, h2⟩ := clamp_range hx
  have hm : cutN x y < 2 ^ clampN x := Nat.mod_lt _ (Nat.two_pow_pos _)
  rw [bld_congr fun i hi => (shf_dn hx (by_le x z) hi hy).trans (show _ = if i + sp_by x z < clampN x then btN (cutN x y) (i + sp_by x z) else 0 by
    split
    · next h => exact (bt_mod h).symm
    · rfl), lshr_bld hm]
  unfold sp_shr
  by_cases h : clampN x ≤ cutN x z
  · rw [if_pos h]
    exact Nat.div_eq_of_lt (Nat.lt_of_lt_of_le hm (Nat.pow_le_pow_right (by decide) (by unfold sp_by; omega)))
  · rw [if_neg h, by_eq (by omega)]
theorem pure215 (x y z : Nat) (hx : x < 2 ^ 64) (hy : y < 2 ^ 64) (hz : z < 2 ^ 64) : PureAt Tryz.prog 215 [i64 x, u64 y, u64 z] (u64 (sp_shr x y z)) := by
  refine pure_fn mixed globs fn215 body215 nt215 rs215 RR2_ok (fun _ => none) [23] 0 ((s215 _ x y z).trans ?_)
  obtain ⟨h1, h2⟩ := clamp_range hx
  rw [okN_bi (pure254' x z hx hz), okN_bi (pure253' x y _ 0 hx hy (by decide))]
  have e : sp_shf x y (sp_by x z) 0 = sp_shr x y z := lshr_val hx hy
  rw [e]
theorem pure216 (x y z : Nat) (hx : x < 2 ^ 64) (hy : y < 2 ^ 64) (hz : z < 2 ^ 64) : PureAt Tryz.prog 216 [i64 x, u64 y, u64 z] (u64 (sp_sar x y z)) := by
  refine pure_fn mixed globs fn216 body216 nt216 rs216 RR2_ok (fun _ => none) [23] 0 ((s216 _ x y z).trans ?_)
  obtain ⟨h1, h2⟩ := clamp_range hx
  rw [okN_bi (pure254' x z hx hz), okN_bi (pure74 x), subi_le h1 (by omega), okN_bi (pure75b y _ hy (by omega)), okN_bi (pure253' x y _ _ hx hy (sbit_lt _ _)), sbit hy (by omega)]
  have e : sp_shf x y (sp_by x z) (btN y (clampN x - 1)) = sp_sar x y z := by
    unfold sp_shf sp_sar
    rw [neg_top y hx]
    by_cases ht : btN y (clampN x - 1) = 1
    · rw [if_pos (decide_eq_true ht), bld_congr fun i hi => shf_dn hx (by_le x z) hi hy]
      by_cases h : clampN x ≤ cutN x z
      · rw [if_pos h]
        have hn : clampN x ≤ sp_by x z := by unfold sp_by; omega
        rw [bld_congr (g := fun _ => 1) fun i hi => by rw [if_neg (by omega), ht], ones_bld]; rfl
      · rw [if_neg h, by_eq (by omega), ashr_bld h1 h2 (by omega)]; rfl
    · have h0 : btN y (clampN x - 1) = 0 := by have := bt_lt y (clampN x - 1); omega
      rw [if_neg (by simpa using ht), h0]
      exact lshr_val hx hy
  rw [e]
theorem pure219 (x y z : Nat) (hx : x < 2 ^ 64) (hy : y < 2 ^ 64) (hz : z < 2 ^ 64) : PureAt Tryz.prog 219 [i64 x, u64 y, u64 z] (u64 (sp_slt x y z)) := by
  refine pure_fn mixed globs fn219 body219 nt219 rs219 RR2_ok (fun _ => none) [23] 0 ((s219 _ x y z).trans ?_)
  obtain ⟨h1, h2⟩ := clamp_range hx
  rw [okN_bi (pure256 x _ hx hy), okN_bi (pure256 x _ hx hz)]
  rw [okN_bi (pure255 (nb (nble (biased 3 (sp_sgn x z)) (biased 3 (sp_sgn x y))))), lt_bi, biased3, biased3]
  rfl
theorem pure197 (x y z : Nat) (hx : x < 2 ^ 64) : PureAt Tryz.prog 197 [i64 x, u64 y, u64 z] (u64 (sp_shl x y z)) := by
  refine pure_fn mixed globs fn197 body197 nt197 rs197 RR2_ok (fun _ => none) [23] 0 ((s197 _ x y z).trans ?_)
  exact okN_bi (pure250 0 x y z (by decide) hx) _ _
theorem pure198 (x y z : Nat) (hx : x < 2 ^ 64) : PureAt Tryz.prog 198 [i64 x, u64 y, u64 z] (u64 (sp_shr x y z)) := by
  refine pure_fn mixed globs fn198 body198 nt198 rs198 RR2_ok (fun _ => none) [23] 0 ((s198 _ x y z).trans ?_)
  exact okN_bi (pure250 1 x y z (by decide) hx) _ _
theorem pure199 (x y z : Nat) (hx : x < 2 ^ 64) : PureAt Tryz.prog 199 [i64 x, u64 y, u64 z] (u64 (sp_sar x y z)) := by
  refine pure_fn mixed globs fn199 body199 nt199 rs199 RR2_ok (fun _ => none) [23] 0 ((s199 _ x y z).trans ?_)
  exact okN_bi (pure250 2 x y z (by decide) hx) _ _
theorem ans_ite (c : Prop) [Decidable c] (a b : Nat) : ansY (u64 (if c then a else b)) = if c then ansY (u64 a) else ansY (u64 b) := by split <;> rfl
theorem pure151 (o x y z : Nat) (hx : x < 2 ^ 64) (hy : y < 2 ^ 64) (hz : z < 2 ^ 64) : PureAt Tryz.prog 151 [i64 o, i64 x, u64 y, u64 z] (u64 (sp_bin o x y z)) := by
  refine pure_fn mixed globs fn151 body151 nt151 rs151 RQ_ok (fun _ => none) [23] 0 ((s151 _ o x y z).trans ?_)
  rw [okN_bi (pure206 x y z hx hy hz), okN_bi (pure207 x y z hx hy hz), okN_bi (pure208 x y z hx hy hz), okN_bi (pure209 x y z hx hy hz), okN_bi (pure210 x y z hx hy hz), okN_bi (pure211 x y z hx hy hz), okN_bi (pure212 x y z hx hy hz), okN_bi (pure213 x y z hx hy hz), okN_bi (pure214 x y z hx hy hz), okN_bi (pure215 x y z hx hy hz), okN_bi (pure216 x y z hx hy hz), okN_bi (pure217 x y z hx hy hz), okN_bi (pure218 x y z hx hy hz), okN_bi (pure219 x y z hx hy hz)]
  simp only [bl_bi]
  simp only [nbeq_dec, bi_dec]
  unfold sp_bin
  simp only [ans_ite]
end Go.Eng
namespace Go.Eng
open Go.RowKit Go.Proofs
set_option maxRecDepth 4000
theorem s143 (J : Jmp) (o x y z : Nat) : (compY Tryz.prog 95 (fun _ => none) (finY Tryz.prog [.tmp 8] [23]) J [] (bodyC Tryz.f143) (finY Tryz.prog [.tmp 8] [23]) []).run RO (setArgs 0 [i64 o, i64 x, u64 y, u64 z] noFr) (baseH Tryz.prog) =
  (bi (nbeq (bi (nbeq o 5) 1 0) 1)
 (bi (nbeq (okN (PureAt Tryz.prog 189 [(i64 x), (u64 y), (u64 z)] (u64 (sp_and x y z)))) 1)
 (ansY (u64 (sp_and x y z)))
 (failR 301))
 (bi (nbeq (bi (nbeq o 6) 1 0) 1)
 (bi (nbeq (okN (PureAt Tryz.prog 190 [(i64 x), (u64 y), (u64 z)] (u64 (sp_or x y z)))) 1)
 (ansY (u64 (sp_or x y z)))
 (failR 301))
 (bi (nbeq (bi (nbeq o 7) 1 0) 1)
 (bi (nbeq (okN (PureAt Tryz.prog 191 [(i64 x), (u64 y), (u64 z)] (u64 (sp_xor x y z)))) 1)
 (ansY (u64 (sp_xor x y z)))
 (failR 301))
 (bi (nbeq (bi (nbeq o 8) 1 0) 1)
 (bi (nbeq (okN (PureAt Tryz.prog 192 [(i64 x), (u64 y), (u64 z)] (u64 (sp_add x y z)))) 1)
 (ansY (u64 (sp_add x y z)))
 (failR 301))
 (bi (nbeq (bi (nbeq o 9) 1 0) 1)
 (bi (nbeq (okN (PureAt Tryz.prog 193 [(i64 x), (u64 y), (u64 z)] (u64 (sp_sub x y z)))) 1)
 (ansY (u64 (sp_sub x y z)))
 (failR 301))
 (bi (nbeq (bi (nbeq o 10) 1 0) 1)
 (bi (nbeq (okN (PureAt Tryz.prog 194 [(i64 x), (u64 y), (u64 z)] (u64 (sp_mul x y z)))) 1)
 (ansY (u64 (sp_mul x y z)))
 (failR 301))
 (bi (nbeq (bi (nbeq o 11) 1 0) 1)
 (bi (nbeq (okN (PureAt Tryz.prog 195 [(i64 x), (u64 y), (u64 z)] (u64 (sp_div x y z)))) 1)
 (ansY (u64 (sp_div x y z)))
 (failR 301))
 (bi (nbeq (bi (nbeq o 12) 1 0) 1)
 (bi (nbeq (okN (PureAt Tryz.prog 196 [(i64 x), (u64 y), (u64 z)] (u64 (sp_rem x y z)))) 1)
 (ansY (u64 (sp_rem x y z)))
 (failR 301))
 (bi (nbeq (bi (nbeq o 13) 1 0) 1)
 (bi (nbeq (okN (PureAt Tryz.prog 197 [(i64 x), (u64 y), (u64 z)] (u64 (sp_shl x y z)))) 1)
 (ansY (u64 (sp_shl x y z)))
 (failR 301))
 (bi (nbeq (bi (nbeq o 14) 1 0) 1)
 (bi (nbeq (okN (PureAt Tryz.prog 198 [(i64 x), (u64 y), (u64 z)] (u64 (sp_shr x y z)))) 1)
 (ansY (u64 (sp_shr x y z)))
 (failR 301))
 (bi (nbeq (bi (nbeq o 15) 1 0) 1)
 (bi (nbeq (okN (PureAt Tryz.prog 199 [(i64 x), (u64 y), (u64 z)] (u64 (sp_sar x y z)))) 1)
 (ansY (u64 (sp_sar x y z)))
 (failR 301))
 (bi (nbeq (bi (nbeq o 16) 1 0) 1)
 (bi (nbeq (okN (PureAt Tryz.prog 72 [(i64 x), (u64 y)] (aggV [(i64 x), (u64 (cutN x y))]))) 1)
 (bi (nbeq (okN (PureAt Tryz.prog 72 [(i64 x), (u64 z)] (aggV [(i64 x), (u64 (cutN x z))]))) 1)
 (bi (nbeq (bi (bi (nbeq x x) (bi (nbeq (cutN x y) (cutN x z)) true false) false) 1 0) 1)
 (ansY (u64 1))
 (ansY (u64 0)))
 (failR 301))
 (failR 301))
 (bi (nbeq (bi (nbeq o 17) 1 0) 1)
 (bi (nbeq (okN (PureAt Tryz.prog 200 [(i64 x), (u64 y), (u64 z)] (u64 (sp_ult x y z)))) 1)
 (ansY (u64 (sp_ult x y z)))
 (failR 301))
 (bi (nbeq (okN (PureAt Tryz.prog 201 [(i64 x), (u64 y), (u64 z)] (u64 (sp_slt x y z)))) 1)
 (ansY (u64 (sp_slt x y z)))
 (failR 301))))))))))))))) := by kernel_rfl
theorem s73_3 (J : Jmp) (r v w0 a0 : Nat) : (compY Tryz.prog 105 (fun _ => none) (finY Tryz.prog [.tmp 8] [23]) J [] (bodyC Tryz.f73) (finY Tryz.prog [.tmp 8] [23]) []).run RO (setArgs 0 [i64 3, i64 r, u64 v, slP 1 2 [aggV [i64 w0, u64 a0]]] noFr) (baseH Tryz.prog) =
  (bi (nbeq (okN (PureAt Tryz.prog 138 [(i64 r), (u64 a0)] (u64 (sp_not r a0)))) 1)
 (ansY (u64 (sp_not r a0)))
 (failR 301)) := by kernel_rfl
theorem s73_4 (J : Jmp) (r v w0 a0 : Nat) : (compY Tryz.prog 105 (fun _ => none) (finY Tryz.prog [.tmp 8] [23]) J [] (bodyC Tryz.f73) (finY Tryz.prog [.tmp 8] [23]) []).run RO (setArgs 0 [i64 4, i64 r, u64 v, slP 1 2 [aggV [i64 w0, u64 a0]]] noFr) (baseH Tryz.prog) =
  (bi (nbeq (okN (PureAt Tryz.prog 139 [(i64 r), (u64 a0)] (u64 (sp_ngt r a0)))) 1)
 (ansY (u64 (sp_ngt r a0)))
 (failR 301)) := by kernel_rfl
theorem s73_21 (J : Jmp) (r v w0 a0 : Nat) : (compY Tryz.prog 105 (fun _ => none) (finY Tryz.prog [.tmp 8] [23]) J [] (bodyC Tryz.f73) (finY Tryz.prog [.tmp 8] [23]) []).run RO (setArgs 0 [i64 21, i64 r, u64 v, slP 1 2 [aggV [i64 w0, u64 a0]]] noFr) (baseH Tryz.prog) =
  (bi (nbeq (okN (PureAt Tryz.prog 141 [(i64 (cnvN 7 3 v)), (i64 r), (u64 a0)] (u64 (sp_ext (cnvN 7 3 v) r a0)))) 1)
 (ansY (u64 (sp_ext (cnvN 7 3 v) r a0)))
 (failR 301)) := by kernel_rfl
theorem s73_22 (J : Jmp) (r v w0 a0 : Nat) : (compY Tryz.prog 105 (fun _ => none) (finY Tryz.prog [.tmp 8] [23]) J [] (bodyC Tryz.f73) (finY Tryz.prog [.tmp 8] [23]) []).run RO (setArgs 0 [i64 22, i64 r, u64 v, slP 1 2 [aggV [i64 w0, u64 a0]]] noFr) (baseH Tryz.prog) =
  (ansY (u64 a0)) := by kernel_rfl
theorem s73_23 (J : Jmp) (r v w0 a0 : Nat) : (compY Tryz.prog 105 (fun _ => none) (finY Tryz.prog [.tmp 8] [23]) J [] (bodyC Tryz.f73) (finY Tryz.prog [.tmp 8] [23]) []).run RO (setArgs 0 [i64 23, i64 r, u64 v, slP 1 2 [aggV [i64 w0, u64 a0]]] noFr) (baseH Tryz.prog) =
  (bi (nbeq (okN (PureAt Tryz.prog 142 [(i64 w0), (i64 r), (u64 a0)] (u64 (sp_sxt w0 r a0)))) 1)
 (ansY (u64 (sp_sxt w0 r a0)))
 (failR 301)) := by kernel_rfl
theorem s73_2 (J : Jmp) (r v : Nat) : (compY Tryz.prog 105 (fun _ => none) (finY Tryz.prog [.tmp 8] [23]) J [] (bodyC Tryz.f73) (finY Tryz.prog [.tmp 8] [23]) []).run RO (setArgs 0 [i64 2, i64 r, u64 v, slP 1 2 []] noFr) (baseH Tryz.prog) = ansY (u64 v) := by kernel_rfl
theorem s73_19 (J : Jmp) (r v w0 a0 w1 a1 w2 a2 : Nat) : (compY Tryz.prog 105 (fun _ => none) (finY Tryz.prog [.tmp 8] [23]) J [] (bodyC Tryz.f73) (finY Tryz.prog [.tmp 8] [23]) []).run RO (setArgs 0 [i64 19, i64 r, u64 v, slP 1 2 [aggV [i64 w0, u64 a0], aggV [i64 w1, u64 a1], aggV [i64 w2, u64 a2]]] noFr) (baseH Tryz.prog) = bi (nbeq (bi (nbeq a0 1) 1 0) 1) (ansY (u64 a1)) (ansY (u64 a2)) := by kernel_rfl
theorem s73_20 (J : Jmp) (r v w0 a0 w1 a1 : Nat) : (compY Tryz.prog 105 (fun _ => none) (finY Tryz.prog [.tmp 8] [23]) J [] (bodyC Tryz.f73) (finY Tryz.prog [.tmp 8] [23]) []).run RO (setArgs 0 [i64 20, i64 r, u64 v, slP 1 2 [aggV [i64 w0, u64 a0], aggV [i64 w1, u64 a1]]] noFr) (baseH Tryz.prog) = bi (nbeq (okN (PureAt Tryz.prog 140 [(i64 w0), (i64 w1), (u64 a0), (u64 a1)] (u64 (sp_cat w0 w1 a0 a1)))) 1) (ansY (u64 (sp_cat w0 w1 a0 a1))) (failR 301) := by kernel_rfl
theorem s73_5 (J : Jmp) (r v w0 a0 w1 a1 : Nat) : (compY Tryz.prog 105 (fun _ => none) (finY Tryz.prog [.tmp 8] [23]) J [] (bodyC Tryz.f73) (finY Tryz.prog [.tmp 8] [23]) []).run RO (setArgs 0 [i64 5, i64 r, u64 v, slP 1 2 [aggV [i64 w0, u64 a0], aggV [i64 w1, u64 a1]]] noFr) (baseH Tryz.prog) = bi (nbeq (okN (PureAt Tryz.prog 143 [(i64 5), (i64 w0), (u64 a0), (u64 a1)] (u64 (sp_bin 5 w0 a0 a1)))) 1) (ansY (u64 (sp_bin 5 w0 a0 a1))) (failR 301) := by kernel_rfl
theorem s73_6 (J : Jmp) (r v w0 a0 w1 a1 : Nat) : (compY Tryz.prog 105 (fun _ => none) (finY Tryz.prog [.tmp 8] [23]) J [] (bodyC Tryz.f73) (finY Tryz.prog [.tmp 8] [23]) []).run RO (setArgs 0 [i64 6, i64 r, u64 v, slP 1 2 [aggV [i64 w0, u64 a0], aggV [i64 w1, u64 a1]]] noFr) (baseH Tryz.prog) = bi (nbeq (okN (PureAt Tryz.prog 143 [(i64 6), (i64 w0), (u64 a0), (u64 a1)] (u64 (sp_bin 6 w0 a0 a1)))) 1) (ansY (u64 (sp_bin 6 w0 a0 a1))) (failR 301) := by kernel_rfl
theorem s73_7 (J : Jmp) (r v w0 a0 w1 a1 : Nat) : (compY Tryz.prog 105 (fun _ => none) (finY Tryz.prog [.tmp 8] [23]) J [] (bodyC Tryz.f73) (finY Tryz.prog [.tmp 8] [23]) []).run RO (setArgs 0 [i64 7, i64 r, u64 v, slP 1 2 [aggV [i64 w0, u64 a0], aggV [i64 w1, u64 a1]]] noFr) (baseH Tryz.prog) = bi (nbeq (okN (PureAt Tryz.prog 143 [(i64 7), (i64 w0), (u64 a0), (u64 a1)] (u64 (sp_bin 7 w0 a0 a1)))) 1) (ansY (u64 (sp_bin 7 w0 a0 a1))) (failR 301) := by kernel_rfl
theorem s73_8 (J : Jmp) (r v w0 a0 w1 a1 : Nat) : (compY Tryz.prog 105 (fun _ => none) (finY Tryz.prog [.tmp 8] [23]) J [] (bodyC Tryz.f73) (finY Tryz.prog [.tmp 8] [23]) []).run RO (setArgs 0 [i64 8, i64 r, u64 v, slP 1 2 [aggV [i64 w0, u64 a0], aggV [i64 w1, u64 a1]]] noFr) (baseH Tryz.prog) = bi (nbeq (okN (PureAt Tryz.prog 143 [(i64 8), (i64 w0), (u64 a0), (u64 a1)] (u64 (sp_bin 8 w0 a0 a1)))) 1) (ansY (u64 (sp_bin 8 w0 a0 a1))) (failR 301) := by kernel_rfl
theorem s73_9 (J : Jmp) (r v w0 a0 w1 a1 : Nat) : (compY Tryz.prog 105 (fun _ => none) (finY Tryz.prog [.tmp 8] [23]) J [] (bodyC Tryz.f73) (finY Tryz.prog [.tmp 8] [23]) []).run RO (setArgs 0 [i64 9, i64 r, u64 v, slP 1 2 [aggV [i64 w0, u64 a0], aggV [i64 w1, u64 a1]]] noFr) (baseH Tryz.prog) = bi (nbeq (okN (PureAt Tryz.prog 143 [(i64 9), (i64 w0), (u64 a0), (u64 a1)] (u64 (sp_bin 9 w0 a0 a1)))) 1) (ansY (u64 (sp_bin 9 w0 a0 a1))) (failR 301) := by kernel_rfl
theorem s73_10 (J : Jmp) (r v w0 a0 w1 a1 : Nat) : (compY Tryz.prog 105 (fun _ => none) (finY Tryz.prog [.tmp 8] [23]) J [] (bodyC Tryz.f73) (finY Tryz.prog [.tmp 8] [23]) []).run RO (setArgs 0 [i64 10, i64 r, u64 v, slP 1 2 [aggV [i64 w0, u64 a0], aggV [i64 w1, u64 a1]]] noFr) (baseH Tryz.prog) = bi (nbeq (okN (PureAt Tryz.prog 143 [(i64 10), (i64 w0), (u64 a0), (u64 a1)] (u64 (sp_bin 10 w0 a0 a1)))) 1) (ansY (u64 (sp_bin 10 w0 a0 a1))) (failR 301) := by kernel_rfl
theorem s73_11 (J : Jmp) (r v w0 a0 w1 a1 : Nat) : (compY Tryz.prog 105 (fun _ => none) (finY Tryz.prog [.tmp 8] [23]) J [] (bodyC Tryz.f73) (finY Tryz.prog [.tmp 8] [23]) []).run RO (setArgs 0 [i64 11, i64 r, u64 v, slP 1 2 [aggV [i64 w0, u64 a0], aggV [i64 w1, u64 a1]]] noFr) (baseH Tryz.prog) = bi (nbeq (okN (PureAt Tryz.prog 143 [(i64 11), (i64 w0), (u64 a0), (u64 a1)] (u64 (sp_bin 11 w0 a0 a1)))) 1) (ansY (u64 (sp_bin 11 w0 a0 a1))) (failR 301) := by kernel_rfl
theorem s73_12 (J : Jmp) (r v w0 a0 w1 a1 : Nat) : (compY Tryz.prog 105 (fun _ => none) (finY Tryz.prog [.tmp 8] [23]) J [] (bodyC Tryz.f73) (finY Tryz.prog [.tmp 8] [23]) []).run RO (setArgs 0 [i64 12, i64 r, u64 v, slP 1 2 [aggV [i64 w0, u64 a0], aggV [i64 w1, u64 a1]]] noFr) (baseH Tryz.prog) = bi (nbeq (okN (PureAt Tryz.prog 143 [(i64 12), (i64 w0), (u64 a0), (u64 a1)] (u64 (sp_bin 12 w0 a0 a1)))) 1) (ansY (u64 (sp_bin 12 w0 a0 a1))) (failR 301) := by kernel_rfl
theorem s73_13 (J : Jmp) (r v w0 a0 w1 a1 : Nat) : (compY Tryz.prog 105 (fun _ => none) (finY Tryz.prog [.tmp 8] [23]) J [] (bodyC Tryz.f73) (finY Tryz.prog [.tmp 8] [23]) []).run RO (setArgs 0 [i64 13, i64 r, u64 v, slP 1 2 [aggV [i64 w0, u64 a0], aggV [i64 w1, u64 a1]]] noFr) (baseH Tryz.prog) = bi (nbeq (okN (PureAt Tryz.prog 143 [(i64 13), (i64 w0), (u64 a0), (u64 a1)] (u64 (sp_bin 13 w0 a0 a1)))) 1) (ansY (u64 (sp_bin 13 w0 a0 a1))) (failR 301) := by kernel_rfl
theorem s73_14 (J : Jmp) (r v w0 a0 w1 a1 : Nat) : (compY Tryz.prog 105 (fun _ => none) (finY Tryz.prog [.tmp 8] [23]) J [] (bodyC Tryz.f73) (finY Tryz.prog [.tmp 8] [23]) []).run RO (setArgs 0 [i64 14, i64 r, u64 v, slP 1 2 [aggV [i64 w0, u64 a0], aggV [i64 w1, u64 a1]]] noFr) (baseH Tryz.prog) = bi (nbeq (okN (PureAt Tryz.prog 143 [(i64 14), (i64 w0), (u64 a0), (u64 a1)] (u64 (sp_bin 14 w0 a0 a1)))) 1) (ansY (u64 (sp_bin 14 w0 a0 a1))) (failR 301) := by kernel_rfl
theorem s73_15 (J : Jmp) (r v w0 a0 w1 a1 : Nat) : (compY Tryz.prog 105 (fun _ => none) (finY Tryz.prog [.tmp 8] [23]) J [] (bodyC Tryz.f73) (finY Tryz.prog [.tmp 8] [23]) []).run RO (setArgs 0 [i64 15, i64 r, u64 v, slP 1 2 [aggV [i64 w0, u64 a0], aggV [i64 w1, u64 a1]]] noFr) (baseH Tryz.prog) = bi (nbeq (okN (PureAt Tryz.prog 143 [(i64 15), (i64 w0), (u64 a0), (u64 a1)] (u64 (sp_bin 15 w0 a0 a1)))) 1) (ansY (u64 (sp_bin 15 w0 a0 a1))) (failR 301) := by kernel_rfl
theorem s73_16 (J : Jmp) (r v w0 a0 w1 a1 : Nat) : (compY Tryz.prog 105 (fun _ => none) (finY Tryz.prog [.tmp 8] [23]) J [] (bodyC Tryz.f73) (finY Tryz.prog [.tmp 8] [23]) []).run RO (setArgs 0 [i64 16, i64 r, u64 v, slP 1 2 [aggV [i64 w0, u64 a0], aggV [i64 w1, u64 a1]]] noFr) (baseH Tryz.prog) = bi (nbeq (okN (PureAt Tryz.prog 143 [(i64 16), (i64 w0), (u64 a0), (u64 a1)] (u64 (sp_bin 16 w0 a0 a1)))) 1) (ansY (u64 (sp_bin 16 w0 a0 a1))) (failR 301) := by kernel_rfl
theorem s73_17 (J : Jmp) (r v w0 a0 w1 a1 : Nat) : (compY Tryz.prog 105 (fun _ => none) (finY Tryz.prog [.tmp 8] [23]) J [] (bodyC Tryz.f73) (finY Tryz.prog [.tmp 8] [23]) []).run RO (setArgs 0 [i64 17, i64 r, u64 v, slP 1 2 [aggV [i64 w0, u64 a0], aggV [i64 w1, u64 a1]]] noFr) (baseH Tryz.prog) = bi (nbeq (okN (PureAt Tryz.prog 143 [(i64 17), (i64 w0), (u64 a0), (u64 a1)] (u64 (sp_bin 17 w0 a0 a1)))) 1) (ansY (u64 (sp_bin 17 w0 a0 a1))) (failR 301) := by kernel_rfl
theorem s73_18 (J : Jmp) (r v w0 a0 w1 a1 : Nat) : (compY Tryz.prog 105 (fun _ => none) (finY Tryz.prog [.tmp 8] [23]) J [] (bodyC Tryz.f73) (finY Tryz.prog [.tmp 8] [23]) []).run RO (setArgs 0 [i64 18, i64 r, u64 v, slP 1 2 [aggV [i64 w0, u64 a0], aggV [i64 w1, u64 a1]]] noFr) (baseH Tryz.prog) = bi (nbeq (okN (PureAt Tryz.prog 143 [(i64 18), (i64 w0), (u64 a0), (u64 a1)] (u64 (sp_bin 18 w0 a0 a1)))) 1) (ansY (u64 (sp_bin 18 w0 a0 a1))) (failR 301) := by kernel_rfl
theorem body143 : Tryz.f143.body = some (bodyC Tryz.f143) := by kernel_rfl
theorem fn143 : Tryz.prog.funcs[143]? = some Tryz.f143 := by kernel_rfl
theorem nt143 : Tryz.f143.ntmps = 95 := by kernel_rfl
theorem rs143 : Tryz.f143.results.toList = [.tmp 8] := by kernel_rfl
theorem body73 : Tryz.f73.body = some (bodyC Tryz.f73) := by kernel_rfl
theorem fn73 : Tryz.prog.funcs[73]? = some Tryz.f73 := by kernel_rfl
theorem nt73 : Tryz.f73.ntmps = 105 := by kernel_rfl
theorem rs73 : Tryz.f73.results.toList = [.tmp 8] := by kernel_rfl
theorem pure143 (o x y z : Nat) (hx : x < 2 ^ 64) (hy : y < 2 ^ 64) (hz : z < 2 ^ 64) : PureAt Tryz.prog 143 [i64 o, i64 x, u64 y, u64 z] (u64 (sp_bin o x y z)) := by
  refine pure_fn mixed globs fn143 body143 nt143 rs143 RO_ok (fun _ => none) [23] 0 ((s143 _ o x y z).trans ?_)
  rw [okN_bi (pure189 x y z hx), okN_bi (pure190 x y z hx), okN_bi (pure191 x y z hx), okN_bi (pure192 x y z hx), okN_bi (pure193 x y z hx), okN_bi (pure194 x y z hx), okN_bi (pure195 x y z hx), okN_bi (pure196 x y z hx), okN_bi (pure197 x y z hx), okN_bi (pure198 x y z hx), okN_bi (pure199 x y z hx), okN_bi (pure72 x y hx), okN_bi (pure72 x z hx), okN_bi (pure200 x y z hx), okN_bi (pure201 x y z hx hy hz)]
  have e16 : bi (nbeq (bi (bi (nbeq x x) (bi (nbeq (cutN x y) (cutN x z)) true false) false) 1 0) 1) (ansY (u64 1)) (ansY (u64 0)) = ansY (u64 (sp_eq x y z)) := by
    rw [nbeq_refl, bi_tt, bl_bi, nbeq_dec]
    unfold sp_eq
    by_cases h : cutN x y = cutN x z
    · rw [decide_eq_true h, if_pos h]; rfl
    · rw [decide_eq_false h, if_neg h]; rfl
  rw [e16]
  simp only [bl_bi]
  simp only [nbeq_dec, bi_dec]
  unfold sp_bin
  simp only [ans_ite]
/-- an operator with one operand -/
noncomputable def sp_one (o r v w y : Nat) : Nat := if o = 3 then sp_not w y else if o = 4 then sp_ngt w y else if o = 21 then sp_ext v r y else if o = 23 then sp_sxt w r y else y
theorem pure149 (o r v w y : Nat) (hr : r < 2 ^ 64) (hv : v < 2 ^ 64) (hw : w < 2 ^ 64) (hy : y < 2 ^ 64) : PureAt Tryz.prog 149 [i64 o, i64 r, u64 v, i64 w, u64 y] (u64 (sp_one o r v w y)) := by
  refine pure_fn mixed globs fn149 body149 nt149 rs149 RQ_ok (fun _ => none) [23] 0 ((s149 _ o r v w y).trans ?_)
  rw [cnv73 hv, okN_bi (pure202 w y hw hy), okN_bi (pure203 w y hw hy), okN_bi (pure204 v r y hv hr hy), okN_bi (pure205 w r y hw hr hy)]
  simp only [bl_bi]
  simp only [nbeq_dec, bi_dec]
  unfold sp_one
  simp only [ans_ite]
/-- a word: width and value -/
def wdA (x : Nat × Nat) : AV := aggV [i64 x.1, u64 x.2]
noncomputable def sp_cmp (o r v : Nat) : List (Nat × Nat) → Nat
  | [] => v
  | [x] => sp_one o r v x.1 x.2
  | [x, y] => if o = 20 then sp_cat x.1 y.1 x.2 y.2 else sp_bin o x.1 x.2 y.2
  | [x, y, z] => if x.2 = 1 then y.2 else z.2
  | _ => 0
/-- operators that have a value, with their operands -/
def OpA (o r n : Nat) (ws : List (Nat × Nat)) : Prop := (n = 0 ∧ o = 2) ∨ (n = 1 ∧ (o = 3 ∨ o = 4 ∨ o = 21 ∨ o = 22 ∨ o = 23) ∧ (o = 3 ∨ o = 4 → ∀ x ∈ ws, r = x.1)) ∨ (n = 2 ∧ (o = 20 ∨ (5 ≤ o ∧ o ≤ 18))) ∨ (n = 3 ∧ o = 19)
def W64 (ws : List (Nat × Nat)) : Prop := ∀ x ∈ ws, x.1 < 2 ^ 64 ∧ x.2 < 2 ^ 64
theorem pure73 (o r v : Nat) (ws : List (Nat × Nat)) (hr : r < 2 ^ 64) (hv : v < 2 ^ 64) (hws : W64 ws) (ho : OpA o r ws.length ws) : PureAt Tryz.prog 73 [i64 o, i64 r, u64 v, slP 1 2 (ws.map wdA)] (u64 (sp_cmp o r v ws)) := by
  match ws, hws, ho with
  | [], _, ho =>
    obtain rfl : o = 2 := by rcases ho with ⟨_, h⟩ | ⟨h, _⟩ | ⟨h, _⟩ | ⟨h, _⟩ <;> first | exact h | cases h
    show PureAt Tryz.prog 73 [i64 2, i64 r, u64 v, slP 1 2 []] (u64 v)
    exact pure_fn mixed globs fn73 body73 nt73 rs73 RO_ok (fun _ => none) [23] 0 (s73_2 _ r v)
  | [(w0, a0)], hws, ho =>
    obtain ⟨h1, h2⟩ := hws _ (List.mem_singleton.2 rfl)
    obtain ⟨h3, h4⟩ : (o = 3 ∨ o = 4 ∨ o = 21 ∨ o = 22 ∨ o = 23) ∧ (o = 3 ∨ o = 4 → r = w0) := by
      rcases ho with ⟨h, _⟩ | ⟨_, h, h'⟩ | ⟨h, _⟩ | ⟨h, _⟩
      · cases h
      · exact ⟨h, fun e => h' e _ (List.mem_singleton.2 rfl)⟩
      · cases h
      · cases h
    rcases h3 with rfl | rfl | rfl | rfl | rfl
    · obtain rfl := h4 (.inl rfl)
      show PureAt Tryz.prog 73 [i64 3, i64 r, u64 v, slP 1 2 [aggV [i64 r, u64 a0]]] (u64 (sp_not r a0))
      refine pure_fn mixed globs fn73 body73 nt73 rs73 RO_ok (fun _ => none) [23] 0 ((s73_3 _ r v r a0).trans ?_)
      exact okN_bi (pure138 r a0 hr) _ _
    · obtain rfl := h4 (.inr rfl)
      show PureAt Tryz.prog 73 [i64 4, i64 r, u64 v, slP 1 2 [aggV [i64 r, u64 a0]]] (u64 (sp_ngt r a0))
      refine pure_fn mixed globs fn73 body73 nt73 rs73 RO_ok (fun _ => none) [23] 0 ((s73_4 _ r v r a0).trans ?_)
      exact okN_bi (pure139 r a0 hr) _ _
    · show PureAt Tryz.prog 73 [i64 21, i64 r, u64 v, slP 1 2 [aggV [i64 w0, u64 a0]]] (u64 (sp_ext v r a0))
      refine pure_fn mixed globs fn73 body73 nt73 rs73 RO_ok (fun _ => none) [23] 0 ((s73_21 _ r v w0 a0).trans ?_)
      rw [cnv73 hv]
      exact okN_bi (pure141 v r a0 hv hr h2) _ _
    · show PureAt Tryz.prog 73 [i64 22, i64 r, u64 v, slP 1 2 [aggV [i64 w0, u64 a0]]] (u64 (a0))
      exact pure_fn mixed globs fn73 body73 nt73 rs73 RO_ok (fun _ => none) [23] 0 (s73_22 _ r v w0 a0)
    · show PureAt Tryz.prog 73 [i64 23, i64 r, u64 v, slP 1 2 [aggV [i64 w0, u64 a0]]] (u64 (sp_sxt w0 r a0))
      refine pure_fn mixed globs fn73 body73 nt73 rs73 RO_ok (fun _ => none) [23] 0 ((s73_23 _ r v w0 a0).trans ?_)
      exact okN_bi (pure142 w0 r a0 h1 hr h2) _ _
  | [(w0, a0), (w1, a1)], hws, ho =>
    obtain ⟨h1, h2⟩ := hws (w0, a0) (by simp)
    obtain ⟨h3, h4⟩ := hws (w1, a1) (by simp)
    have h5 : o = 20 ∨ (5 ≤ o ∧ o ≤ 18) := by
      rcases ho with ⟨h, _⟩ | ⟨h, _⟩ | ⟨_, h⟩ | ⟨h, _⟩
      · cases h
      · cases h
      · exact h
      · cases h
    rcases h5 with rfl | ⟨h5, h6⟩
    · show PureAt Tryz.prog 73 [i64 20, i64 r, u64 v, slP 1 2 [aggV [i64 w0, u64 a0], aggV [i64 w1, u64 a1]]] (u64 (sp_cat w0 w1 a0 a1))
      refine pure_fn mixed globs fn73 body73 nt73 rs73 RO_ok (fun _ => none) [23] 0 ((s73_20 _ r v w0 a0 w1 a1).trans ?_)
      exact okN_bi (pure140 w0 w1 a0 a1 h1 h3) _ _
    · have e : sp_cmp o r v [(w0, a0), (w1, a1)] = sp_bin o w0 a0 a1 := if_neg (by omega)
      rw [e]
      have h7 : o = 5 ∨ o = 6 ∨ o = 7 ∨ o = 8 ∨ o = 9 ∨ o = 10 ∨ o = 11 ∨ o = 12 ∨ o = 13 ∨ o = 14 ∨ o = 15 ∨ o = 16 ∨ o = 17 ∨ o = 18 := by omega
      rcases h7 with rfl | rfl | rfl | rfl | rfl | rfl | rfl | rfl | rfl | rfl | rfl | rfl | rfl | rfl
      · show PureAt Tryz.prog 73 [i64 5, i64 r, u64 v, slP 1 2 [aggV [i64 w0, u64 a0], aggV [i64 w1, u64 a1]]] (u64 (sp_bin 5 w0 a0 a1))
        refine pure_fn mixed globs fn73 body73 nt73 rs73 RO_ok (fun _ => none) [23] 0 ((s73_5 _ r v w0 a0 w1 a1).trans ?_)
        exact okN_bi (pure143 5 w0 a0 a1 h1 h2 h4) _ _
      · show PureAt Tryz.prog 73 [i64 6, i64 r, u64 v, slP 1 2 [aggV [i64 w0, u64 a0], aggV [i64 w1, u64 a1]]] (u64 (sp_bin 6 w0 a0 a1))
        refine pure_fn mixed globs fn73 body73 nt73 rs73 RO_ok (fun _ => none) [23] 0 ((s73_6 _ r v w0 a0 w1 a1).trans ?_)
        exact okN_bi (pure143 6 w0 a0 a1 h1 h2 h4) _ _
      · show PureAt Tryz.prog 73 [i64 7, i64 r, u64 v, slP 1 2 [aggV [i64 w0, u64 a0], aggV [i64 w1, u64 a1]]] (u64 (sp_bin 7 w0 a0 a1))
        refine pure_fn mixed globs fn73 body73 nt73 rs73 RO_ok (fun _ => none) [23] 0 ((s73_7 _ r v w0 a0 w1 a1).trans ?_)
        exact okN_bi (pure143 7 w0 a0 a1 h1 h2 h4) _ _
      · show PureAt Tryz.prog 73 [i64 8, i64 r, u64 v, slP 1 2 [aggV [i64 w0, u64 a0], aggV [i64 w1, u64 a1]]] (u64 (sp_bin 8 w0 a0 a1))
        refine pure_fn mixed globs fn73 body73 nt73 rs73 RO_ok (fun _ => none) [23] 0 ((s73_8 _ r v w0 a0 w1 a1).trans ?_)
        exact okN_bi (pure143 8 w0 a0 a1 h1 h2 h4) _ _
      · show PureAt Tryz.prog 73 [i64 9, i64 r, u64 v, slP 1 2 [aggV [i64 w0, u64 a0], aggV [i64 w1, u64 a1]]] (u64 (sp_bin 9 w0 a0 a1))
        refine pure_fn mixed globs fn73 body73 nt73 rs73 RO_ok (fun _ => none) [23] 0 ((s73_9 _ r v w0 a0 w1 a1).trans ?_)
        exact okN_bi (pure143 9 w0 a0 a1 h1 h2 h4) _ _
      · show PureAt Tryz.prog 73 [i64 10, i64 r, u64 v, slP 1 2 [aggV [i64 w0, u64 a0], aggV [i64 w1, u64 a1]]] (u64 (sp_bin 10 w0 a0 a1))
        refine pure_fn mixed globs fn73 body73 nt73 rs73 RO_ok (fun _ => none) [23] 0 ((s73_10 _ r v w0 a0 w1 a1).trans ?_)
        exact okN_bi (pure143 10 w0 a0 a1 h1 h2 h4) _ _
      · show PureAt Tryz.prog 73 [i64 11, i64 r, u64 v, slP 1 2 [aggV [i64 w0, u64 a0], aggV [i64 w1, u64 a1]]] (u64 (sp_bin 11 w0 a0 a1))
        refine pure_fn mixed globs fn73 body73 nt73 rs73 RO_ok (fun _ => none) [23] 0 ((s73_11 _ r v w0 a0 w1 a1).trans ?_)
        exact okN_bi (pure143 11 w0 a0 a1 h1 h2 h4) _ _
      · show PureAt Tryz.prog 73 [i64 12, i64 r, u64 v, slP 1 2 [aggV [i64 w0, u64 a0], aggV [i64 w1, u64 a1]]] (u64 (sp_bin 12 w0 a0 a1))
        refine pure_fn mixed globs fn73 body73 nt73 rs73 RO_ok (fun _ => none) [23] 0 ((s73_12 _ r v w0 a0 w1 a1).trans ?_)
        exact okN_bi (pure143 12 w0 a0 a1 h1 h2 h4) _ _
      · show PureAt Tryz.prog 73 [i64 13, i64 r, u64 v, slP 1 2 [aggV [i64 w0, u64 a0], aggV [i64 w1, u64 a1]]] (u64 (sp_bin 13 w0 a0 a1))
        refine pure_fn mixed globs fn73 body73 nt73 rs73 RO_ok (fun _ => none) [23] 0 ((s73_13 _ r v w0 a0 w1 a1).trans ?_)
        exact okN_bi (pure143 13 w0 a0 a1 h1 h2 h4) _ _
      · show PureAt Tryz.prog 73 [i64 14, i64 r, u64 v, slP 1 2 [aggV [i64 w0, u64 a0], aggV [i64 w1, u64 a1]]] (u64 (sp_bin 14 w0 a0 a1))
        refine pure_fn mixed globs fn73 body73 nt73 rs73 RO_ok (fun _ => none) [23] 0 ((s73_14 _ r v w0 a0 w1 a1).trans ?_)
        exact okN_bi (pure143 14 w0 a0 a1 h1 h2 h4) _ _
      · show PureAt Tryz.prog 73 [i64 15, i64 r, u64 v, slP 1 2 [aggV [i64 w0, u64 a0], aggV [i64 w1, u64 a1]]] (u64 (sp_bin 15 w0 a0 a1))
        refine pure_fn mixed globs fn73 body73 nt73 rs73 RO_ok (fun _ => none) [23] 0 ((s73_15 _ r v w0 a0 w1 a1).trans ?_)
        exact okN_bi (pure143 15 w0 a0 a1 h1 h2 h4) _ _
      · show PureAt Tryz.prog 73 [i64 16, i64 r, u64 v, slP 1 2 [aggV [i64 w0, u64 a0], aggV [i64 w1, u64 a1]]] (u64 (sp_bin 16 w0 a0 a1))
        refine pure_fn mixed globs fn73 body73 nt73 rs73 RO_ok (fun _ => none) [23] 0 ((s73_16 _ r v w0 a0 w1 a1).trans ?_)
        exact okN_bi (pure143 16 w0 a0 a1 h1 h2 h4) _ _
      · show PureAt Tryz.prog 73 [i64 17, i64 r, u64 v, slP 1 2 [aggV [i64 w0, u64 a0], aggV [i64 w1, u64 a1]]] (u64 (sp_bin 17 w0 a0 a1))
        refine pure_fn mixed globs fn73 body73 nt73 rs73 RO_ok (fun _ => none) [23] 0 ((s73_17 _ r v w0 a0 w1 a1).trans ?_)
        exact okN_bi (pure143 17 w0 a0 a1 h1 h2 h4) _ _
      · show PureAt Tryz.prog 73 [i64 18, i64 r, u64 v, slP 1 2 [aggV [i64 w0, u64 a0], aggV [i64 w1, u64 a1]]] (u64 (sp_bin 18 w0 a0 a1))
        refine pure_fn mixed globs fn73 body73 nt73 rs73 RO_ok (fun _ => none) [23] 0 ((s73_18 _ r v w0 a0 w1 a1).trans ?_)
        exact okN_bi (pure143 18 w0 a0 a1 h1 h2 h4) _ _
  | [(w0, a0), (w1, a1), (w2, a2)], hws, ho =>
    obtain rfl : o = 19 := by rcases ho with ⟨h, _⟩ | ⟨h, _⟩ | ⟨h, _⟩ | ⟨_, h⟩ <;> first | exact h | cases h
    show PureAt Tryz.prog 73 [i64 19, i64 r, u64 v, slP 1 2 [aggV [i64 w0, u64 a0], aggV [i64 w1, u64 a1], aggV [i64 w2, u64 a2]]] (u64 (if a0 = 1 then a1 else a2))
    refine pure_fn mixed globs fn73 body73 nt73 rs73 RO_ok (fun _ => none) [23] 0 ((s73_19 _ r v w0 a0 w1 a1 w2 a2).trans ?_)
    rw [bl_bi, nbeq_dec, bi_dec, ← ans_ite]
  | _ :: _ :: _ :: _ :: _, _, ho => rcases ho with ⟨h, _⟩ | ⟨h, _⟩ | ⟨h, _⟩ | ⟨h, _⟩ <;> simp at h
end Go.Eng
