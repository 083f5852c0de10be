
/- A part of the proof that the evaluator in GnC, and the driver in GnZ, answer as the model does; no conditions. -/
import Derived.Test.YtfmoohdaimlggaaGreatDoorGnV
namespace Go.Eng
/-! arithmetic on words: what both sides compute -/
/-- bit i -/
def btN (x i : Nat) : Nat := x / 2 ^ i % 2
theorem bt_lt (x i : Nat) : btN x i < 2 := Nat.mod_lt _ (by decide)
theorem bt_test (x i : Nat) : x.testBit i = decide (btN x i = 1) := by
  unfold btN
  rw [Nat.testBit_eq_decide_div_mod_eq]
/-- a number out of its bits -/
def bld (f : Nat → Nat) : Nat → Nat
  | 0 => 0
  | n + 1 => bld f n ||| (2 ^ n * f n)
theorem bld_test (f : Nat → Nat) (hf : ∀ i, f i < 2) : ∀ n i, (bld f n).testBit i = (decide (i < n) && decide (f i = 1)) := by
  intro n
  induction n with
  | zero => intro i; simp [bld]
  | succ n ih =>
    intro i
    rw [bld, Nat.testBit_or, ih, Nat.testBit_two_pow_mul]
    have h2 : f n = 0 ∨ f n = 1 := by have := hf n; omega
    by_cases h1 : i < n
    · have : ¬ n ≤ i := by omega
      simp [h1, this, show i < n + 1 by omega]
    · by_cases h3 : i = n
      · subst h3
        rcases h2 with h | h <;> simp [h]
      · have h4 : n ≤ i := by omega
        have h5 : i - n ≠ 0 := by omega
        have h6 : ¬ i < n + 1 := by omega
        have : (f n).testBit (i - n) = false := by
          rcases h2 with h | h
          · rw [h]; simp
          · rw [h]; exact Nat.testBit_lt_two_pow (Nat.one_lt_two_pow h5)
        simp [h1, h4, h6, this]
/-- the numbers whose bits are these -/
theorem bld_eq (f : Nat → Nat) (hf : ∀ i, f i < 2) {n x : Nat} (hx : x < 2 ^ n) (h : ∀ i, i < n → btN x i = f i) : bld f n = x := by
  refine Nat.eq_of_testBit_eq fun i => ?_
  rw [bld_test f hf]
  by_cases hi : i < n
  · rw [bt_test, h i hi]; simp [hi]
  · rw [Nat.testBit_lt_two_pow (Nat.lt_of_lt_of_le hx (Nat.pow_le_pow_right (by decide) (by omega)))]
    simp [hi]
theorem bt_mod {x n i : Nat} (hi : i < n) : btN (x % 2 ^ n) i = btN x i := by
  have h1 : (x % 2 ^ n).testBit i = x.testBit i := by rw [Nat.testBit_mod_two_pow]; simp [hi]
  rw [bt_test, bt_test, decide_eq_decide] at h1
  have a := bt_lt (x % 2 ^ n) i
  have b := bt_lt x i
  omega
theorem bt_and (x y i : Nat) : btN (x &&& y) i = btN x i * btN y i := by
  have h : (x &&& y).testBit i = (x.testBit i && y.testBit i) := Nat.testBit_and ..
  rw [bt_test, bt_test, bt_test] at h
  have a := bt_lt (x &&& y) i
  have b := bt_lt x i
  have c := bt_lt y i
  have hb : btN x i = 0 ∨ btN x i = 1 := by omega
  have hc : btN y i = 0 ∨ btN y i = 1 := by omega
  rcases hb with hb | hb <;> rcases hc with hc | hc <;> rw [hb, hc] at h ⊢ <;> simp at h <;> omega
theorem bt_one {x i : Nat} (h : x.testBit i = true) : btN x i = 1 := by rw [bt_test] at h; exact of_decide_eq_true h
theorem bt_zero {x i : Nat} (h : x.testBit i = false) : btN x i = 0 := by
  rw [bt_test] at h
  have := of_decide_eq_false h
  have := bt_lt x i
  omega
theorem and_bld (a b n : Nat) : bld (fun i => btN a i * btN b i) n = (a &&& b) % 2 ^ n := by
  refine bld_eq _ (fun i => ?_) (Nat.mod_lt _ (Nat.two_pow_pos n)) fun i hi => by rw [bt_mod hi, bt_and]
  have h1 := bt_lt a i
  have h2 := bt_lt b i
  have hb : btN a i = 0 ∨ btN a i = 1 := by omega
  rcases hb with h | h <;> rw [h] <;> omega
theorem bld_self (x n : Nat) : bld (btN x) n = x % 2 ^ n :=
  bld_eq _ (bt_lt x) (Nat.mod_lt _ (Nat.two_pow_pos n)) fun i hi => bt_mod hi
theorem or_not {x y n : Nat} (hx : x < 2 ^ n) (hy : y < 2 ^ n) : 2 ^ n - 1 - ((2 ^ n - 1 - x) &&& (2 ^ n - 1 - y)) = x ||| y := by
  have h1 : (2 ^ n - 1 - x) &&& (2 ^ n - 1 - y) < 2 ^ n := Nat.and_lt_two_pow _ (by have := Nat.two_pow_pos n; omega)
  refine Nat.eq_of_testBit_eq fun i => ?_
  have e : 2 ^ n - 1 - ((2 ^ n - 1 - x) &&& (2 ^ n - 1 - y)) = 2 ^ n - (((2 ^ n - 1 - x) &&& (2 ^ n - 1 - y)) + 1) := by omega
  have e1 : 2 ^ n - 1 - x = 2 ^ n - (x + 1) := by omega
  have e2 : 2 ^ n - 1 - y = 2 ^ n - (y + 1) := by omega
  rw [e, Nat.testBit_two_pow_sub_succ h1, Nat.testBit_and, e1, e2, Nat.testBit_two_pow_sub_succ hx, Nat.testBit_two_pow_sub_succ hy, Nat.testBit_or]
  by_cases hi : i < n
  · simp only [hi, decide_true, Bool.true_and]
    cases x.testBit i <;> cases y.testBit i <;> rfl
  · rw [Nat.testBit_lt_two_pow (Nat.lt_of_lt_of_le hx (Nat.pow_le_pow_right (by decide) (by omega))), Nat.testBit_lt_two_pow (Nat.lt_of_lt_of_le hy (Nat.pow_le_pow_right (by decide) (by omega)))]
    simp [hi]
theorem or_sub_and {x y n : Nat} (hx : x < 2 ^ n) (hy : y < 2 ^ n) : (x ||| y) - (x &&& y) = x ^^^ y := by
  have h1 : x ^^^ y < 2 ^ n := Nat.xor_lt_two_pow hx hy
  have h2 : x &&& y < 2 ^ n := Nat.and_lt_two_pow _ hy
  have hd : (x ^^^ y) &&& (x &&& y) = 0 := by
    refine Nat.eq_of_testBit_eq fun i => ?_
    rw [Nat.testBit_and, Nat.testBit_xor, Nat.testBit_and, Nat.zero_testBit]
    cases x.testBit i <;> cases y.testBit i <;> rfl
  have ho : (x ^^^ y) ||| (x &&& y) = x ||| y := by
    refine Nat.eq_of_testBit_eq fun i => ?_
    rw [Nat.testBit_or, Nat.testBit_xor, Nat.testBit_and, Nat.testBit_or]
    cases x.testBit i <;> cases y.testBit i <;> rfl
  have hp : 2 ^ (n + 1) = 2 ^ n * 2 := Nat.pow_succ 2 n
  have hb := BitVec.add_eq_or_of_and_eq_zero (BitVec.ofNat (n + 1) (x ^^^ y)) (BitVec.ofNat (n + 1) (x &&& y)) (by
    refine BitVec.eq_of_toNat_eq ?_
    rw [BitVec.toNat_and, BitVec.toNat_ofNat, BitVec.toNat_ofNat, Nat.mod_eq_of_lt (by omega), Nat.mod_eq_of_lt (by omega), hd]; simp)
  have hn := congrArg BitVec.toNat hb
  rw [BitVec.toNat_add, BitVec.toNat_or, BitVec.toNat_ofNat, BitVec.toNat_ofNat, Nat.mod_eq_of_lt (show x ^^^ y < 2 ^ (n + 1) by omega), Nat.mod_eq_of_lt (show x &&& y < 2 ^ (n + 1) by omega), Nat.mod_eq_of_lt (show (x ^^^ y) + (x &&& y) < 2 ^ (n + 1) by omega), ho] at hn
  omega
/-- a sum, carried from bit to bit -/
theorem add_step (a b i : Nat) : btN a i + btN b i + (a % 2 ^ i + b % 2 ^ i) / 2 ^ i = btN (a + b) i + 2 * ((a % 2 ^ (i + 1) + b % 2 ^ (i + 1)) / 2 ^ (i + 1)) := by
  have ha : a % 2 ^ (i + 1) = a % 2 ^ i + 2 ^ i * btN a i := by rw [Nat.pow_succ, Nat.mod_mul]; rfl
  have hb : b % 2 ^ (i + 1) = b % 2 ^ i + 2 ^ i * btN b i := by rw [Nat.pow_succ, Nat.mod_mul]; rfl
  have hp := Nat.two_pow_pos i
  generalize ea : a % 2 ^ i = x at *
  generalize eb : b % 2 ^ i = y at *
  have h1 : (a % 2 ^ (i + 1) + b % 2 ^ (i + 1)) / 2 ^ i = btN a i + btN b i + (x + y) / 2 ^ i := by
    rw [ha, hb, show x + 2 ^ i * btN a i + (y + 2 ^ i * btN b i) = x + y + 2 ^ i * (btN a i + btN b i) by rw [Nat.mul_add]; omega, Nat.add_mul_div_left _ _ hp, Nat.add_comm]
  have h2 : btN (a + b) i = (a % 2 ^ (i + 1) + b % 2 ^ (i + 1)) / 2 ^ i % 2 := by
    have e : (a + b) % 2 ^ (i + 1) = (a % 2 ^ (i + 1) + b % 2 ^ (i + 1)) % 2 ^ (i + 1) := Nat.add_mod _ _ _
    have key : ∀ s, btN s i = btN (s % 2 ^ (i + 1)) i := fun s => (bt_mod (Nat.lt_succ_self i)).symm
    rw [key (a + b), e, ← key]; rfl
  have h3 : (a % 2 ^ (i + 1) + b % 2 ^ (i + 1)) / 2 ^ (i + 1) = (a % 2 ^ (i + 1) + b % 2 ^ (i + 1)) / 2 ^ i / 2 := by
    rw [Nat.div_div_eq_div_mul, ← Nat.pow_succ]
  rw [h2, h3, ← h1]
  omega
end Go.Eng
namespace Go.Eng
/-! arithmetic on words: differences, products, quotients, shifts, signs -/
/-- two numbers of n bits with the same bits -/
theorem eq_of_test {x y n : Nat} (hx : x < 2 ^ n) (hy : y < 2 ^ n) (h : ∀ i, i < n → x.testBit i = y.testBit i) : x = y := by
  refine Nat.eq_of_testBit_eq fun i => ?_
  by_cases hi : i < n
  · exact h i hi
  · rw [Nat.testBit_lt_two_pow (Nat.lt_of_lt_of_le hx (Nat.pow_le_pow_right (by decide) (by omega))), Nat.testBit_lt_two_pow (Nat.lt_of_lt_of_le hy (Nat.pow_le_pow_right (by decide) (by omega)))]
theorem pow_dvd {a b : Nat} (h : a ≤ b) : (2 : Nat) ^ a ∣ 2 ^ b := Nat.pow_dvd_pow 2 h
theorem mod64 {w : Nat} (hw : w ≤ 64) (x : Nat) : x % 2 ^ 64 % 2 ^ w = x % 2 ^ w := Nat.mod_mod_of_dvd x (pow_dvd hw)
/-- the negative of a number -/
theorem neg_mod {b w : Nat} (hw : w ≤ 64) (hb : b < 2 ^ 64) : (2 ^ w - 1 - b % 2 ^ w + 1) % 2 ^ w = (2 ^ 64 - b) % 2 ^ w := by
  have hp := Nat.two_pow_pos w
  have hm := Nat.mod_lt b hp
  obtain ⟨q, hq⟩ := pow_dvd hw
  have e : b = 2 ^ w * (b / 2 ^ w) + b % 2 ^ w := (Nat.div_add_mod b _).symm
  have hlt : b / 2 ^ w < q := by
    rw [hq] at hb
    exact Nat.div_lt_of_lt_mul hb
  have h2 : 2 ^ 64 - b = (2 ^ w - b % 2 ^ w) + 2 ^ w * (q - 1 - b / 2 ^ w) := by
    have h3 : 2 ^ w * q = 2 ^ w * (q - 1 - b / 2 ^ w) + 2 ^ w * (b / 2 ^ w) + 2 ^ w := by
      rw [← Nat.mul_add, ← Nat.mul_succ]
      congr 1
      omega
    generalize 2 ^ w * (q - 1 - b / 2 ^ w) = s at *
    generalize 2 ^ w * (b / 2 ^ w) = t at *
    omega
  rw [h2, Nat.add_mul_mod_self_left]
  congr 1
  omega
/-- a product, by doubling from the highest bit down -/
def mulS (a b w i : Nat) : Nat := a * (b % 2 ^ w / 2 ^ i) % 2 ^ w
theorem mulS_top (a b w : Nat) : mulS a b w w = 0 := by
  unfold mulS
  rw [Nat.div_eq_of_lt (Nat.mod_lt _ (Nat.two_pow_pos w))]; simp
theorem mulS_zero (a b w : Nat) : mulS a b w 0 = a * b % 2 ^ w := by
  unfold mulS
  rw [Nat.pow_zero, Nat.div_one, Nat.mul_mod_mod]
theorem half_bit (x i : Nat) : x / 2 ^ i = 2 * (x / 2 ^ (i + 1)) + btN x i := by
  unfold btN
  rw [Nat.pow_succ, ← Nat.div_div_eq_div_mul]
  omega
theorem mulS_step {a b w i : Nat} (hi : i < w) : mulS a b w i = if btN b i = 1 then ((mulS a b w (i + 1) + mulS a b w (i + 1)) % 2 ^ w + a) % 2 ^ w else (mulS a b w (i + 1) + mulS a b w (i + 1)) % 2 ^ w := by
  have e : b % 2 ^ w / 2 ^ i = 2 * (b % 2 ^ w / 2 ^ (i + 1)) + btN b i := by rw [half_bit, bt_mod hi]
  unfold mulS
  rw [e]
  generalize b % 2 ^ w / 2 ^ (i + 1) = q
  have hb := bt_lt b i
  have h2 : a * q % 2 ^ w + a * q % 2 ^ w = 2 * (a * q % 2 ^ w) := by omega
  split
  · next h =>
    rw [h, h2, Nat.mod_add_mod, Nat.mul_add, Nat.mul_one]
    rw [Nat.add_mod, Nat.mul_left_comm, Nat.mul_mod 2 (a * q), Nat.add_mod (2 * (a * q % 2 ^ w)), Nat.mul_mod 2 (a * q % 2 ^ w), Nat.mod_mod]
  · next h =>
    rw [show btN b i = 0 by omega, h2, Nat.add_zero, Nat.mul_left_comm, Nat.mul_mod 2 (a * q), Nat.mul_mod 2 (a * q % 2 ^ w), Nat.mod_mod]
/-- a quotient, bit by bit from the highest one down -/
def divR (a b i : Nat) : Nat := a / 2 ^ i % b
def divQ (a b i : Nat) : Nat := a / 2 ^ i / b * 2 ^ i
theorem div_step {a b i : Nat} (hb : 0 < b) : (b ≤ 2 * divR a b (i + 1) + btN a i → divR a b i = 2 * divR a b (i + 1) + btN a i - b ∧ divQ a b i = divQ a b (i + 1) ||| 2 ^ i) ∧
    (¬ b ≤ 2 * divR a b (i + 1) + btN a i → divR a b i = 2 * divR a b (i + 1) + btN a i ∧ divQ a b i = divQ a b (i + 1)) := by
  have e := half_bit a i
  have hr : divR a b (i + 1) < b := Nat.mod_lt _ hb
  have hbit := bt_lt a i
  unfold divR divQ at *
  rw [e]
  generalize a / 2 ^ (i + 1) = x at *
  generalize btN a i = t at *
  have ex : x = b * (x / b) + x % b := (Nat.div_add_mod x b).symm
  generalize hq : x / b = q at *
  generalize hr' : x % b = r at *
  have e2 : 2 * x + t = (2 * r + t) + b * (2 * q) := by rw [ex, Nat.mul_add, Nat.mul_left_comm]; omega
  have hp := Nat.two_pow_pos i
  have e3 : q * 2 ^ (i + 1) = 2 * q * 2 ^ i := by rw [Nat.pow_succ, Nat.mul_comm 2 q, Nat.mul_assoc, Nat.mul_comm 2]
  refine ⟨fun h => ?_, fun h => ?_⟩
  · have e4 : 2 * x + t = (2 * r + t - b) + b * (2 * q + 1) := by rw [Nat.mul_add, Nat.mul_one]; omega
    rw [e4, Nat.add_mul_mod_self_left, Nat.mod_eq_of_lt (by omega), Nat.add_mul_div_left _ _ hb, Nat.div_eq_of_lt (show 2 * r + t - b < b by omega), Nat.zero_add]
    refine ⟨rfl, ?_⟩
    rw [e3]
    have : (2 * q + 1) * 2 ^ i = 2 ^ (i + 1) * q + 2 ^ i := by rw [Nat.add_mul, Nat.one_mul, Nat.pow_succ, Nat.mul_comm (2 ^ i) 2, Nat.mul_assoc, Nat.mul_assoc, Nat.mul_comm q]
    rw [this, Nat.two_pow_add_eq_or_of_lt (Nat.pow_lt_pow_right (by decide) (by omega)), Nat.pow_succ, Nat.mul_comm (2 ^ i) 2, Nat.mul_assoc, Nat.mul_comm (2 ^ i) q, ← Nat.mul_assoc]
  · rw [e2, Nat.add_mul_mod_self_left, Nat.mod_eq_of_lt (by omega), Nat.add_mul_div_left _ _ hb, Nat.div_eq_of_lt (show 2 * r + t < b by omega), Nat.zero_add]
    exact ⟨rfl, e3.symm⟩
theorem divR_top {a b : Nat} (ha : a < 2 ^ 64) : divR a b 64 = 0 := by unfold divR; rw [Nat.div_eq_of_lt ha]; exact Nat.zero_mod b
theorem divQ_top {a b : Nat} (ha : a < 2 ^ 64) : divQ a b 64 = 0 := by unfold divQ; rw [Nat.div_eq_of_lt ha]; simp
theorem divR_zero (a b : Nat) : divR a b 0 = a % b := by unfold divR; simp
theorem divQ_zero (a b : Nat) : divQ a b 0 = a / b := by unfold divQ; simp
/-- shifts -/
theorem shl_bld {a n w : Nat} : bld (fun i => if n ≤ i then btN a (i - n) else 0) w = a * 2 ^ n % 2 ^ w := by
  refine bld_eq _ (fun i => by split; exact bt_lt _ _; decide) (Nat.mod_lt _ (Nat.two_pow_pos w)) fun i hi => ?_
  rw [bt_mod hi]
  have h : (a * 2 ^ n).testBit i = (decide (n ≤ i) && a.testBit (i - n)) := by rw [Nat.mul_comm, Nat.testBit_two_pow_mul]
  by_cases hn : n ≤ i
  · rw [if_pos hn]
    rw [decide_eq_true hn, Bool.true_and, bt_test, bt_test, decide_eq_decide] at h
    have := bt_lt (a * 2 ^ n) i
    have := bt_lt a (i - n)
    omega
  · rw [if_neg hn]
    rw [decide_eq_false hn, Bool.false_and] at h
    exact bt_zero h
theorem bt_shr (a n i : Nat) : btN (a / 2 ^ n) i = btN a (i + n) := by
  unfold btN
  rw [Nat.div_div_eq_div_mul, ← Nat.pow_add, Nat.add_comm]
theorem bt_big {a w i : Nat} (ha : a < 2 ^ w) (hi : w ≤ i) : btN a i = 0 := by
  unfold btN
  rw [Nat.div_eq_of_lt (Nat.lt_of_lt_of_le ha (Nat.pow_le_pow_right (by decide) hi))]
theorem lshr_bld {a n w : Nat} (ha : a < 2 ^ w) : bld (fun i => if i + n < w then btN a (i + n) else 0) w = a / 2 ^ n := by
  refine bld_eq _ (fun i => by split; exact bt_lt _ _; decide) (Nat.lt_of_le_of_lt (Nat.div_le_self _ _) ha) fun i hi => ?_
  rw [bt_shr]
  split
  · rfl
  · exact bt_big ha (by omega)
theorem bt_not {x w i : Nat} (hx : x < 2 ^ w) (hi : i < w) : btN (2 ^ w - 1 - x) i = 1 - btN x i := by
  have h : (2 ^ w - (x + 1)).testBit i = (decide (i < w) && !x.testBit i) := Nat.testBit_two_pow_sub_succ hx i
  rw [show 2 ^ w - (x + 1) = 2 ^ w - 1 - x by omega, decide_eq_true hi, Bool.true_and, bt_test, bt_test] at h
  have h1 := bt_lt (2 ^ w - 1 - x) i
  have h2 := bt_lt x i
  by_cases h3 : btN x i = 1
  · rw [h3] at h ⊢
    simp at h; omega
  · have h4 : btN x i = 0 := by omega
    rw [h4] at h ⊢
    simp at h; omega
/-- a number as one with a sign, of 64 bits -/
def sgN (w x : Nat) : Nat := if 2 ^ (w - 1) ≤ x % 2 ^ w then x % 2 ^ w + (2 ^ 64 - 2 ^ w) else x % 2 ^ w
theorem pow_pred {w : Nat} (h : 1 ≤ w) : 2 ^ w = 2 * 2 ^ (w - 1) := by
  obtain ⟨k, rfl⟩ : ∃ k, w = k + 1 := ⟨w - 1, by omega⟩
  rw [Nat.pow_succ]; simp; omega
theorem sgN_lt {w x : Nat} (h : w ≤ 64) : sgN w x < 2 ^ 64 := by
  unfold sgN
  have hm := Nat.mod_lt x (Nat.two_pow_pos w)
  have hp : (2 : Nat) ^ w ≤ 2 ^ 64 := Nat.pow_le_pow_right (by decide) h
  split <;> omega
/-- whether the highest bit stands -/
theorem top_bit {w x : Nat} (h1 : 1 ≤ w) : 2 ^ (w - 1) ≤ x % 2 ^ w ↔ btN x (w - 1) = 1 := by
  have hm := Nat.mod_lt x (Nat.two_pow_pos w)
  rw [← bt_mod (show w - 1 < w by omega)]
  have hp := pow_pred h1
  generalize x % 2 ^ w = y at *
  unfold btN
  have hq := Nat.two_pow_pos (w - 1)
  constructor
  · intro h
    have h2 : y / 2 ^ (w - 1) = 1 := by
      refine Nat.le_antisymm (Nat.le_of_lt_succ (Nat.div_lt_of_lt_mul (by omega))) ((Nat.le_div_iff_mul_le hq).2 (by omega))
    rw [h2]
  · intro h
    refine Nat.le_of_not_lt fun h2 => ?_
    rw [Nat.div_eq_of_lt h2] at h
    cases h
theorem bt_sg {w x i : Nat} (h1 : 1 ≤ w) (hw : w ≤ 64) (hi : i < 64) : btN (sgN w x) i = if i < w then btN x i else btN x (w - 1) := by
  have hm := Nat.mod_lt x (Nat.two_pow_pos w)
  have hq : (2 : Nat) ^ 64 - 2 ^ w = 2 ^ w * (2 ^ (64 - w) - 1) := by rw [Nat.mul_sub, ← Nat.pow_add, Nat.mul_one]; congr 2; omega
  unfold sgN
  split
  · next h =>
    have ht := (top_bit h1).1 h
    rw [hq, Nat.add_comm]
    have hb : (2 ^ w * (2 ^ (64 - w) - 1) + x % 2 ^ w).testBit i = if i < w then (x % 2 ^ w).testBit i else (2 ^ (64 - w) - 1).testBit (i - w) := Nat.testBit_two_pow_mul_add _ hm i
    split
    · next hi2 =>
      rw [if_pos hi2] at hb
      rw [show btN x i = btN (x % 2 ^ w) i from (bt_mod hi2).symm]
      rw [bt_test, bt_test, decide_eq_decide] at hb
      have := bt_lt (2 ^ w * (2 ^ (64 - w) - 1) + x % 2 ^ w) i
      have := bt_lt (x % 2 ^ w) i
      omega
    · next hi2 =>
      rw [if_neg hi2, Nat.testBit_two_pow_sub_one, decide_eq_true (show i - w < 64 - w by omega)] at hb
      rw [bt_one hb, ht]
  · next h =>
    have ht : btN x (w - 1) = 0 := by
      have := bt_lt x (w - 1)
      have h2 : ¬ btN x (w - 1) = 1 := fun e => h ((top_bit h1).2 e)
      omega
    split
    · next hi2 => exact bt_mod hi2
    · next hi2 => rw [ht]; exact bt_big hm (by omega)
/-- what is widened with its sign -/
theorem sext_bld {w x n : Nat} (h1 : 1 ≤ w) (hw : w ≤ 64) (hn : n ≤ 64) : bld (fun i => btN x (min i (w - 1))) n = sgN w x % 2 ^ n := by
  refine bld_eq _ (fun i => bt_lt _ _) (Nat.mod_lt _ (Nat.two_pow_pos n)) fun i hi => ?_
  rw [bt_mod hi, bt_sg h1 hw (by omega)]
  split
  · congr 1; omega
  · congr 1; omega
/-- a number with a sign, shifted down -/
def sarN (x n : Nat) : Nat := if 2 ^ 63 ≤ x then 2 ^ 64 - 1 - (2 ^ 64 - 1 - x) / 2 ^ n else x / 2 ^ n
theorem bt_sar {x n i : Nat} (hx : x < 2 ^ 64) (hi : i < 64) : btN (sarN x n) i = if i + n < 64 then btN x (i + n) else btN x 63 := by
  have h63 : 2 ^ 63 ≤ x ↔ btN x 63 = 1 := by
    have := top_bit (w := 64) (x := x) (by decide)
    rw [Nat.mod_eq_of_lt hx] at this
    exact this
  unfold sarN
  split
  · next h =>
    have ht := h63.1 h
    have hle : (2 ^ 64 - 1 - x) / 2 ^ n < 2 ^ 64 := Nat.lt_of_le_of_lt (Nat.div_le_self _ _) (by omega)
    rw [bt_not hle hi, bt_shr]
    split
    · next h2 =>
      rw [bt_not hx h2]
      have := bt_lt x (i + n)
      omega
    · next h2 => rw [bt_big (show 2 ^ 64 - 1 - x < 2 ^ 64 by omega) (show 64 ≤ i + n by omega), ht]
  · next h =>
    have ht : btN x 63 = 0 := by
      have := bt_lt x 63
      have h2 : ¬ btN x 63 = 1 := fun e => h (h63.2 e)
      omega
    rw [bt_shr]
    split
    · rfl
    · rw [ht]; exact bt_big hx (by omega)
theorem ashr_bld {w x n : Nat} (h1 : 1 ≤ w) (hw : w ≤ 64) (hn : n < w) : bld (fun i => if i + n < w then btN x (i + n) else btN x (w - 1)) w = sarN (sgN w x) n % 2 ^ w := by
  refine bld_eq _ (fun i => by split <;> exact bt_lt _ _) (Nat.mod_lt _ (Nat.two_pow_pos w)) fun i hi => ?_
  rw [bt_mod hi, bt_sar (sgN_lt hw) (by omega)]
  split
  · next h2 => rw [bt_sg h1 hw h2]
  · next h2 =>
    rw [bt_sg h1 hw (by decide), if_neg (show ¬ i + n < w by omega)]
    split
    · congr 1; omega
    · rfl
theorem ones_bld (n : Nat) : bld (fun _ => 1) n = 2 ^ n - 1 := by
  refine bld_eq _ (fun i => by decide) (by have := Nat.two_pow_pos n; omega) fun i hi => bt_one (by rw [Nat.testBit_two_pow_sub_one]; exact decide_eq_true hi)
theorem bld_congr {f g : Nat → Nat} {n : Nat} (h : ∀ i, i < n → f i = g i) : bld f n = bld g n := by
  induction n with
  | zero => rfl
  | succ n ih => rw [bld, bld, ih fun i hi => h i (by omega), h n (by omega)]
/-- bits from another place on -/
theorem extract_bld (x low n : Nat) : bld (fun i => btN x (low + i)) n = x / 2 ^ low % 2 ^ n := by
  refine bld_eq _ (fun i => bt_lt _ _) (Nat.mod_lt _ (Nat.two_pow_pos n)) fun i hi => ?_
  rw [bt_mod hi, bt_shr, Nat.add_comm]
end Go.Eng
namespace Go.Eng
/-! the gates of the operations on words, and what they compute -/
noncomputable section
def g_and (a b : Nat) : Nat := gt2 (fun a b => a.land b) a b
def g_or (a b : Nat) : Nat := gt2 (fun a b => a.lor b) a b
def g_xor (a b : Nat) : Nat := gt2 (fun a b => a.xor b) a b
def g_andn (a b : Nat) : Nat := gt2 (fun a b => a.land ((kMod (kCode IntKind.u64)).pred.sub b)) a b
def g_addi (a b : Nat) : Nat := gt2 (fun a b => (a.add b).mod (kMod (kCode IntKind.i64))) a b
def g_addu (a b : Nat) : Nat := gt2 (fun a b => (a.add b).mod (kMod (kCode IntKind.u64))) a b
def g_subi (a b : Nat) : Nat := gt2 (fun a b => ((a.add (kMod (kCode IntKind.i64))).sub b).mod (kMod (kCode IntKind.i64))) a b
def g_subu (a b : Nat) : Nat := gt2 (fun a b => ((a.add (kMod (kCode IntKind.u64))).sub b).mod (kMod (kCode IntKind.u64))) a b
def g_mulu (a b : Nat) : Nat := gt2 (fun a b => (a.mul b).mod (kMod (kCode IntKind.u64))) a b
def g_quo (a b : Nat) : Nat := gt2 (fun a b => quoN (kCode IntKind.u64) a b) a b
def g_rem (a b : Nat) : Nat := gt2 (fun a b => remN (kCode IntKind.u64) a b) a b
end
theorem km3 : kMod (kCode IntKind.i64) = 2 ^ 64 := by decide +kernel
theorem km7 : kMod (kCode IntKind.u64) = 2 ^ 64 := by decide +kernel
theorem km3' : kMod 3 = 2 ^ 64 := by decide +kernel
theorem km7' : kMod 7 = 2 ^ 64 := by decide +kernel
theorem kh7' : kHalf 7 = 2 ^ 64 := by decide +kernel
theorem kh3' : kHalf 3 = 2 ^ 63 := by decide +kernel
theorem kb3' : kBits 3 = 64 := by decide +kernel
theorem kb7' : kBits 7 = 64 := by decide +kernel
theorem g_and_eq (a b : Nat) : g_and a b = a &&& b := gt2_eq _ _ _
theorem g_or_eq (a b : Nat) : g_or a b = a ||| b := gt2_eq _ _ _
theorem g_xor_eq (a b : Nat) : g_xor a b = a ^^^ b := gt2_eq _ _ _
theorem g_addi_eq (a b : Nat) : g_addi a b = (a + b) % 2 ^ 64 := by rw [g_addi, gt2_eq, km3]; rfl
theorem g_addu_eq (a b : Nat) : g_addu a b = (a + b) % 2 ^ 64 := by rw [g_addu, gt2_eq, km7]; rfl
theorem g_subi_eq (a b : Nat) : g_subi a b = (a + 2 ^ 64 - b) % 2 ^ 64 := by rw [g_subi, gt2_eq, km3]; rfl
theorem g_subu_eq (a b : Nat) : g_subu a b = (a + 2 ^ 64 - b) % 2 ^ 64 := by rw [g_subu, gt2_eq, km7]; rfl
theorem g_mulu_eq (a b : Nat) : g_mulu a b = a * b % 2 ^ 64 := by rw [g_mulu, gt2_eq, km7]; rfl
theorem g_andn_eq {a b : Nat} : g_andn a b = a &&& (2 ^ 64 - 1 - b) := by rw [g_andn, gt2_eq, km7]; rfl
theorem isNeg7 {a : Nat} (h : a < 2 ^ 64) : isNeg 7 a = false := by unfold isNeg; rw [kh7']; exact nble_f (by omega)
theorem g_quo_eq {a b : Nat} (ha : a < 2 ^ 64) (hb : b < 2 ^ 64) : g_quo a b = a / b := by
  rw [g_quo, gt2_eq]
  show quoN 7 a b = _
  unfold quoN magn
  rw [isNeg7 ha, isNeg7 hb, km7']
  show a / b % 2 ^ 64 = _
  exact Nat.mod_eq_of_lt (Nat.lt_of_le_of_lt (Nat.div_le_self _ _) ha)
theorem g_rem_eq {a b : Nat} (ha : a < 2 ^ 64) (hb : b < 2 ^ 64) : g_rem a b = a % b := by
  rw [g_rem, gt2_eq]
  show remN 7 a b = _
  unfold remN magn
  rw [isNeg7 ha, isNeg7 hb]
  rfl
theorem shl7_eq {a n : Nat} (hn : n < 64) : shlN 7 a n = a * 2 ^ n % 2 ^ 64 := by
  unfold shlN
  rw [gt2_eq, kb7', km7', nble_f (show ¬ 64 ≤ n by omega), bi_ff]
  show (a <<< n) % 2 ^ 64 = _
  rw [Nat.shiftLeft_eq]
theorem shr7_eq {a n : Nat} (ha : a < 2 ^ 64) : shrN 7 a n = a / 2 ^ n := by
  unfold shrN
  rw [gt2_eq, isNeg7 ha, kb7', bi_ff, nble_dec]
  by_cases h : 64 ≤ n
  · rw [decide_eq_true h, bi_tt]
    exact (Nat.div_eq_of_lt (Nat.lt_of_lt_of_le ha (Nat.pow_le_pow_right (by decide) h))).symm
  · rw [decide_eq_false h, bi_ff]
    exact Nat.shiftRight_eq_div_pow a n
theorem shr3_eq {a n : Nat} (hn : n < 64) : shrN 3 a n = sarN a n := by
  unfold shrN sarN isNeg
  rw [gt2_eq, kh3', kb3', km3', nble_f (show ¬ 64 ≤ n by omega), bi_ff, bi_ff, nble_dec]
  by_cases h : 2 ^ 63 ≤ a
  · rw [decide_eq_true h, bi_tt, if_pos h]
    show 2 ^ 64 - 1 - ((2 ^ 64 - 1 - a) >>> n) = _
    rw [Nat.shiftRight_eq_div_pow]
  · rw [decide_eq_false h, bi_ff, if_neg h]
    exact Nat.shiftRight_eq_div_pow a n
theorem cnv73 {a : Nat} (h : a < 2 ^ 64) : cnvN 7 3 a = a := by
  unfold cnvN
  rw [gt_eq, isNeg7 h, bi_ff, km3']
  exact Nat.mod_eq_of_lt h
theorem biased7 {a : Nat} (h : a < 2 ^ 64) : biased 7 a = a := by
  have e : biased 7 a = (a + kHalf 7) % kMod 7 := gt_eq _ a
  rw [e, kh7', km7', Nat.add_mod_right]
  exact Nat.mod_eq_of_lt h
theorem negN_eq (a : Nat) : negN 7 a = (2 ^ 64 - a) % 2 ^ 64 := by
  unfold negN; rw [gt_eq, km7']; rfl
theorem negN3_eq (a : Nat) : negN 3 a = (2 ^ 64 - a) % 2 ^ 64 := by
  unfold negN; rw [gt_eq, km3']; rfl
theorem addi1 {i : Nat} (h : i < 2 ^ 63) : g_addi i 1 = i + 1 := by rw [g_addi_eq]; omega
theorem subi_le {a b : Nat} (h : b ≤ a) (ha : a < 2 ^ 64) : g_subi a b = a - b := by rw [g_subi_eq]; omega
theorem addi_le {a b : Nat} (h : a + b < 2 ^ 64) : g_addi a b = a + b := by rw [g_addi_eq]; omega
/-- a bit that is put at a place -/
theorem put_bit {f : Nat → Nat} (hf : ∀ i, f i < 2) {i : Nat} (hi : i < 64) : g_or (bld f i) (shlN 7 (f i) i) = bld f (i + 1) := by
  rw [g_or_eq, shl7_eq hi, bld, Nat.mul_comm]
  have h2 : f i = 0 ∨ f i = 1 := by have := hf i; omega
  have hp : 2 ^ i < 2 ^ 64 := Nat.pow_lt_pow_right (by decide) hi
  rcases h2 with h | h <;> rw [h]
  · simp
  · rw [Nat.mul_one, Nat.mod_eq_of_lt hp]
theorem keep_bit {f : Nat → Nat} {i : Nat} (h : f i = 0) : bld f (i + 1) = bld f i := by rw [bld, h]; simp
/-- a loop that counts up -/
theorem walkN {n : Nat} {L : Nat → Nat → RL} {A : RL} (hend : ∀ k, L (k + 1) n = A) (hstep : ∀ k i, i < n → L (k + 1) i = L k (i + 1)) : ∀ k i, i + k = n → L (k + 1) i = A := by
  intro k
  induction k with
  | zero => intro i hi; rw [show i = n by omega]; exact hend 0
  | succ k ih => intro i hi; rw [hstep _ _ (by omega)]; exact ih (i + 1) (by omega)
end Go.Eng
