/- A part of the proof that the evaluator in GnC, and the driver in GnZ, answer as the model does; no conditions. -/
import Derived.Test.YtfbgcggkgelaaaaGreatDoorGnS3
namespace Go.Eng
open Go.RowKit

/-! ### whole numbers -/
theorem kMod_0 : kMod 0 = 256 := by decide
theorem kMod_1 : kMod 1 = 65536 := by decide
theorem kMod_2 : kMod 2 = 4294967296 := by decide
theorem kMod_3 : kMod 3 = 18446744073709551616 := by decide
theorem kMod_4 : kMod 4 = 256 := by decide
theorem kMod_5 : kMod 5 = 65536 := by decide
theorem kMod_6 : kMod 6 = 4294967296 := by decide
theorem kMod_7 : kMod 7 = 18446744073709551616 := by decide
theorem kHalf_0 : kHalf 0 = 128 := by decide
theorem kHalf_1 : kHalf 1 = 32768 := by decide
theorem kHalf_2 : kHalf 2 = 2147483648 := by decide
theorem kHalf_3 : kHalf 3 = 9223372036854775808 := by decide
theorem kHalf_4 : kHalf 4 = 256 := by decide
theorem kHalf_5 : kHalf 5 = 65536 := by decide
theorem kHalf_6 : kHalf 6 = 4294967296 := by decide
theorem kHalf_7 : kHalf 7 = 18446744073709551616 := by decide
theorem valI_lt {c p : Nat} (h : p < kHalf c) : valI c p = p := by
  unfold valI isNeg; rw [ble_false.2 h]; rfl
theorem valI_ge {c p : Nat} (h : kHalf c ≤ p) : valI c p = (p : Int) - kMod c := by
  unfold valI isNeg; rw [ble_true.2 h]; rfl
theorem isNeg_true {c p : Nat} : isNeg c p = true ↔ kHalf c ≤ p := ble_true
theorem isNeg_false {c p : Nat} : isNeg c p = false ↔ p < kHalf c := ble_false
/-- the eight kinds, one by one -/
theorem kinds {p : Nat → Prop} (h0 : p 0) (h1 : p 1) (h2 : p 2) (h3 : p 3) (h4 : p 4) (h5 : p 5) (h6 : p 6) (h7 : p 7) {c : Nat} (hc : c < 8) : p c := by
  match c, hc with
  | 0, _ => exact h0
  | 1, _ => exact h1
  | 2, _ => exact h2
  | 3, _ => exact h3
  | 4, _ => exact h4
  | 5, _ => exact h5
  | 6, _ => exact h6
  | 7, _ => exact h7
theorem kMod_pos {c : Nat} : 0 < kMod c := Nat.two_pow_pos _
theorem kHalf_le {c : Nat} (hc : c < 8) : kHalf c ≤ kMod c ∧ kMod c ≤ 2 * kHalf c := by
  refine kinds (p := fun c => kHalf c ≤ kMod c ∧ kMod c ≤ 2 * kHalf c) ?_ ?_ ?_ ?_ ?_ ?_ ?_ ?_ hc <;>
    simp only [kMod_0, kMod_1, kMod_2, kMod_3, kMod_4, kMod_5, kMod_6, kMod_7, kHalf_0, kHalf_1, kHalf_2, kHalf_3, kHalf_4, kHalf_5, kHalf_6, kHalf_7] <;> omega
theorem wrap_mod {c : Nat} (hc : c < 8) (x : Int) : (kOf c).wrap x = valI c (x % (kMod c : Int)).toNat := by
  refine kinds (p := fun c => (kOf c).wrap x = valI c (x % (kMod c : Int)).toNat) ?_ ?_ ?_ ?_ ?_ ?_ ?_ ?_ hc
  all_goals
    unfold valI isNeg
    simp only [kOf, IntKind.wrap, IntKind.bits, IntKind.signed, kMod_0, kMod_1, kMod_2, kMod_3, kMod_4, kMod_5, kMod_6, kMod_7, kHalf_0, kHalf_1, kHalf_2, kHalf_3, kHalf_4, kHalf_5, kHalf_6, kHalf_7, Bool.true_and, Bool.false_and, decide_eq_true_eq, nble_eq, nbeq_eq, gt_eq, gt2_eq, Nat.ble_eq, Bool.false_eq_true, if_false, Int.reducePow, Nat.reduceSub]
    split <;> (try split) <;> omega
theorem kHalf_or {c : Nat} (hc : c < 8) : kHalf c = kMod c ∨ kMod c = 2 * kHalf c :=
  kinds (p := fun c => kHalf c = kMod c ∨ kMod c = 2 * kHalf c) (by decide) (by decide) (by decide) (by decide) (by decide) (by decide) (by decide) (by decide) hc
theorem bits_kOf {c : Nat} (hc : c < 8) : (kOf c).bits = kBits c := by
  refine kinds (p := fun c => (kOf c).bits = kBits c) ?_ ?_ ?_ ?_ ?_ ?_ ?_ ?_ hc <;> decide
theorem mod_lt' {c : Nat} (x : Int) : (x % (kMod c : Int)).toNat < kMod c := by
  have h1 := Int.emod_lt_of_pos x (show (0:Int) < kMod c from by exact_mod_cast kMod_pos)
  have h2 := Int.emod_nonneg x (show ((kMod c : Nat) : Int) ≠ 0 from by have := @kMod_pos c; omega)
  omega
/-- the number itself, up to the modulus -/
theorem valI_mod (c p : Nat) : valI c p % (kMod c : Int) = (p : Int) % (kMod c : Int) := by
  unfold valI
  split
  · rw [Int.sub_emod_right]
  · rfl
theorem valI_mod' {c p : Nat} (h : p < kMod c) : valI c p % (kMod c : Int) = (p : Int) := by
  rw [valI_mod, Int.emod_eq_of_lt (by omega) (by exact_mod_cast h)]
theorem valI_nat {c : Nat} (hc : c < 8) (x : Int) {n : Nat} (h : x % (kMod c : Int) = (n : Int)) : (kOf c).wrap x = valI c n := by
  rw [wrap_mod hc, h]; rfl
section two
variable {c a b : Nat}
theorem add_val (hc : c < 8) (ha : a < kMod c) (hb : b < kMod c) : (kOf c).wrap (valI c a + valI c b) = valI c (Nat.mod (Nat.add a b) (kMod c)) :=
  valI_nat hc _ (by rw [Int.add_emod, valI_mod' ha, valI_mod' hb]; exact_mod_cast rfl)
theorem mul_val (hc : c < 8) (ha : a < kMod c) (hb : b < kMod c) : (kOf c).wrap (valI c a * valI c b) = valI c (Nat.mod (Nat.mul a b) (kMod c)) :=
  valI_nat hc _ (by rw [Int.mul_emod, valI_mod' ha, valI_mod' hb]; exact_mod_cast rfl)
theorem sub_val (hc : c < 8) (ha : a < kMod c) (hb : b < kMod c) : (kOf c).wrap (valI c a - valI c b) = valI c (Nat.mod (Nat.sub (Nat.add a (kMod c)) b) (kMod c)) :=
  valI_nat hc _ (by
    rw [Int.sub_emod, valI_mod' ha, valI_mod' hb]
    have e : ((Nat.sub (Nat.add a (kMod c)) b : Nat) : Int) = (a : Int) - b + kMod c := by
      show (((a + kMod c) - b : Nat) : Int) = _
      omega
    have e2 : ((Nat.mod (Nat.sub (Nat.add a (kMod c)) b) (kMod c) : Nat) : Int) = ((Nat.sub (Nat.add a (kMod c)) b : Nat) : Int) % (kMod c : Int) := by exact_mod_cast rfl
    rw [e2, e, Int.add_emod_right])
theorem cmp_val (hc : c < 8) (ha : a < kMod c) (hb : b < kMod c) : (valI c a ≤ valI c b) ↔ biased c a ≤ biased c b := by
  revert ha hb
  refine kinds (p := fun c => a < kMod c → b < kMod c → ((valI c a ≤ valI c b) ↔ biased c a ≤ biased c b)) ?_ ?_ ?_ ?_ ?_ ?_ ?_ ?_ hc
  all_goals
    intro ha hb
    have e1 : ∀ x m, Nat.mod x m = x % m := fun _ _ => rfl
    have e2 : ∀ x m, Nat.add x m = x + m := fun _ _ => rfl
    unfold valI isNeg biased
    simp only [kMod_0, kMod_1, kMod_2, kMod_3, kMod_4, kMod_5, kMod_6, kMod_7, kHalf_0, kHalf_1, kHalf_2, kHalf_3, kHalf_4, kHalf_5, kHalf_6, kHalf_7, nble_eq, nbeq_eq, gt_eq, gt2_eq, Nat.ble_eq, e1, e2] at ha hb ⊢
    split <;> split <;> omega
theorem eq_val (hc : c < 8) (ha : a < kMod c) (hb : b < kMod c) : (valI c a = valI c b) ↔ a = b := by
  constructor
  · intro h
    have := congrArg (· % (kMod c : Int)) h
    simp only [valI_mod' ha, valI_mod' hb] at this
    omega
  · intro h; rw [h]
theorem bv_val (hc : c < 8) (ha : a < kMod c) : (BitVec.ofInt (kOf c).bits (valI c a)).toNat = a := by
  rw [BitVec.toNat_ofInt, bits_kOf hc]
  have : ((2 ^ kBits c : Nat) : Int) = (kMod c : Int) := rfl
  rw [this, valI_mod' ha]; rfl
theorem back_val (hc : c < 8) (n : Nat) (hn : n < kMod c) : (kOf c).wrap (n : Int) = valI c n :=
  valI_nat hc _ (Int.emod_eq_of_lt (by omega) (by exact_mod_cast hn))
theorem neg_val (hc : c < 8) {q : Nat} (hq : q ≤ kMod c) : (kOf c).wrap (-(q : Int)) = valI c (negN c q) :=
  valI_nat hc _ (by
    have e : ((Nat.sub (kMod c) q : Nat) : Int) = -(q : Int) + kMod c := by show ((kMod c - q : Nat) : Int) = _; omega
    have e2 : ((negN c q : Nat) : Int) = ((Nat.sub (kMod c) q : Nat) : Int) % (kMod c : Int) := by unfold negN; rw [gt_eq]; exact_mod_cast rfl
    rw [e2, e, Int.add_emod_right])
/-- sign and size -/
theorem val_sign (hc : c < 8) (ha : a < kMod c) : valI c a = (if isNeg c a then -(magn c a : Int) else (magn c a : Int)) ∧ magn c a ≤ kMod c ∧ (isNeg c a = true → magn c a ≤ kHalf c ∧ 0 < magn c a) ∧ (isNeg c a = false → magn c a < kHalf c) := by
  unfold magn
  cases h : isNeg c a
  · have := isNeg_false.1 h
    simp [valI_lt this]; omega
  · have h1 := isNeg_true.1 h
    have h2 := kHalf_le hc
    have e : ∀ x y, Nat.sub x y = x - y := fun _ _ => rfl
    simp [valI_ge h1, e]; omega
theorem div_le' (m n : Nat) : Nat.div m n ≤ m := Nat.div_le_self m n
theorem quo_val (hc : c < 8) (ha : a < kMod c) (hb : b < kMod c) : (kOf c).wrap ((valI c a).tdiv (valI c b)) = valI c (quoN c a b) := by
  obtain ⟨ea, la, _, _⟩ := val_sign hc ha
  obtain ⟨eb, lb, _, _⟩ := val_sign hc hb
  have hq : Nat.div (magn c a) (magn c b) ≤ kMod c := Nat.le_trans (div_le' _ _) la
  have hd : ((magn c a : Int)).tdiv (magn c b : Int) = ((Nat.div (magn c a) (magn c b) : Nat) : Int) := rfl
  have hplus : (kOf c).wrap ((Nat.div (magn c a) (magn c b) : Nat) : Int) = valI c (Nat.mod (Nat.div (magn c a) (magn c b)) (kMod c)) := valI_nat hc _ (by exact_mod_cast rfl)
  unfold quoN
  rw [ea, eb]
  cases isNeg c a <;> cases isNeg c b
  · simp only [Bool.false_eq_true, if_false, xb, bi_false]; rw [hd]; exact hplus
  · simp only [Bool.false_eq_true, if_false, if_true, xb, bi_false, bi_true]; rw [Int.tdiv_neg, hd]; exact neg_val hc hq
  · simp only [Bool.false_eq_true, if_false, if_true, xb, bi_false, bi_true]; rw [Int.neg_tdiv, hd]; exact neg_val hc hq
  · simp only [if_true, xb, bi_false, bi_true]; rw [Int.neg_tdiv_neg, hd]; exact hplus
theorem rem_val (hc : c < 8) (ha : a < kMod c) (hb : b < kMod c) (h0 : b ≠ 0) : (valI c a).tmod (valI c b) = valI c (remN c a b) ∧ remN c a b < kMod c := by
  obtain ⟨ea, la, na, pa⟩ := val_sign hc ha
  obtain ⟨eb, lb, nb, pb⟩ := val_sign hc hb
  have hk := kHalf_le hc
  have hmb : 0 < magn c b := by
    cases h : isNeg c b
    · unfold magn; rw [h]; show 0 < b; omega
    · exact (nb h).2
  have hmod : ((magn c a : Int)).tmod (magn c b : Int) = ((Nat.mod (magn c a) (magn c b) : Nat) : Int) := rfl
  have hmm : Nat.mod (magn c a) (magn c b) < magn c b := Nat.mod_lt _ hmb
  have hle : Nat.mod (magn c a) (magn c b) ≤ magn c a := Nat.mod_le _ _
  have hbh : magn c b ≤ kHalf c := by
    cases h : isNeg c b
    · exact Nat.le_of_lt (pb h)
    · exact (nb h).1
  have habs : (valI c a).tmod (valI c b) = (valI c a).tmod (magn c b : Int) := by
    rw [eb]; cases isNeg c b <;> simp
  unfold remN
  rw [habs]
  have e1 : ∀ x m, Nat.mod x m = x % m := fun _ _ => rfl
  have e2 : ∀ x y, Nat.sub x y = x - y := fun _ _ => rfl
  cases h : isNeg c a
  · rw [h] at ea
    simp only [Bool.false_eq_true, if_false] at ea
    rw [ea, hmod, bi_false]
    have := pa h
    refine ⟨(valI_lt (by omega)).symm, by omega⟩
  · rw [h] at ea
    simp only [if_true] at ea
    rw [ea, Int.neg_tmod, hmod, bi_true]
    have h1 := na h
    have h2 := isNeg_true.1 h
    have h3 := kHalf_or hc
    generalize hr : Nat.mod (magn c a) (magn c b) = r at *
    unfold negN
    rw [gt_eq, e1, e2]
    by_cases hz : r = 0
    · subst hz
      simp only [Nat.sub_zero, Nat.mod_self]
      exact ⟨by rw [valI_lt (by have := @kMod_pos c; omega)]; simp, kMod_pos⟩
    · rw [Nat.mod_eq_of_lt (by omega)]
      refine ⟨?_, by omega⟩
      rw [valI_ge (by omega)]
      omega
end two
end Go.Eng
