/- A part of the proof that the evaluator in GnC, and the driver in GnZ, answer as the model does; no conditions. -/
import Derived.Test.YtfbgcggkgelaaaaGreatDoorGnS5
namespace Go.Eng
open Go.RowKit

/-! ### strings as numbers -/
theorem bytesN_from (l : List UInt8) (n : Nat) : l.foldl (fun n b => Nat.add (Nat.mul n 256) b.toNat) n = n * 256 ^ l.length + bytesN l := by
  unfold bytesN
  induction l generalizing n with
  | nil => simp
  | cons a l ih =>
    simp only [List.foldl_cons, List.length_cons]
    rw [ih, ih (Nat.add (Nat.mul 0 256) a.toNat)]
    show (n * 256 + a.toNat) * 256 ^ l.length + _ = n * 256 ^ (l.length + 1) + ((0 * 256 + a.toNat) * 256 ^ l.length + _)
    rw [Nat.pow_succ]
    simp only [Nat.add_mul, Nat.zero_mul, Nat.zero_add]
    have : n * 256 * 256 ^ l.length = n * (256 ^ l.length * 256) := by rw [Nat.mul_assoc, Nat.mul_comm 256]
    omega
theorem bytesN_nil : bytesN [] = 0 := rfl
theorem bytesN_cons (a : UInt8) (l : List UInt8) : bytesN (a :: l) = a.toNat * 256 ^ l.length + bytesN l := by
  show l.foldl _ (Nat.add (Nat.mul 0 256) a.toNat) = _
  rw [bytesN_from]
  show (0 * 256 + a.toNat) * _ + _ = _
  simp
theorem bytesN_lt (l : List UInt8) : bytesN l < 256 ^ l.length := by
  induction l with
  | nil => simp [bytesN_nil]
  | cons a l ih =>
    rw [bytesN_cons, List.length_cons, Nat.pow_succ]
    have h1 : a.toNat ≤ 255 := by have := a.toNat_lt; omega
    have h2 : a.toNat * 256 ^ l.length ≤ 255 * 256 ^ l.length := Nat.mul_le_mul_right _ h1
    omega
theorem bytesN_append (x y : List UInt8) : bytesN (x ++ y) = bytesN x * 256 ^ y.length + bytesN y := by
  induction x with
  | nil => simp [bytesN_nil]
  | cons a x ih =>
    rw [List.cons_append, bytesN_cons, bytesN_cons, ih, List.length_append, Nat.pow_add, Nat.add_mul, Nat.mul_assoc]
    omega
theorem bytesN_inj {x y : List UInt8} (hl : x.length = y.length) (h : bytesN x = bytesN y) : x = y := by
  induction x generalizing y with
  | nil => cases y with
    | nil => rfl
    | cons b y => simp at hl
  | cons a x ih => cases y with
    | nil => simp at hl
    | cons b y =>
      have hl' : x.length = y.length := by simpa using hl
      rw [bytesN_cons, bytesN_cons, hl'] at h
      have h1 := bytesN_lt x; have h2 := bytesN_lt y
      rw [hl'] at h1
      have hpos : 0 < 256 ^ y.length := Nat.pow_pos (by omega)
      have e : a.toNat = b.toNat := by
        have e1 := congrArg (· / 256 ^ y.length) h
        simp only [Nat.mul_comm _ (256 ^ y.length), Nat.mul_add_div hpos, Nat.div_eq_of_lt h1, Nat.div_eq_of_lt h2, Nat.add_zero] at e1
        exact e1
      have e' : a = b := UInt8.toNat_inj.1 e
      subst e'
      rw [ih hl' (by omega)]
theorem bytes_eq (x y : List UInt8) : bi (nbeq x.length y.length) (nbeq (bytesN x) (bytesN y)) false = decide (x = y) := by
  by_cases h : x = y
  · subst h; simp
  · have : decide (x = y) = false := by simpa using h
    rw [this]
    cases hl : nbeq x.length y.length
    · rfl
    · cases hn : nbeq (bytesN x) (bytesN y)
      · rfl
      · exact absurd (bytesN_inj (beq_true.1 hl) (beq_true.1 hn)) h
/-- the order of words is the order of the numbers, each filled up to one length -/
theorem bytes_less (x y : List UInt8) : Op.bytesLess x y = decide (bytesN x * 256 ^ y.length < bytesN y * 256 ^ x.length ∨ (bytesN x * 256 ^ y.length = bytesN y * 256 ^ x.length ∧ x.length < y.length)) := by
  induction x generalizing y with
  | nil => cases y with
    | nil => simp [Op.bytesLess, bytesN_nil]
    | cons b y =>
      simp only [Op.bytesLess, bytesN_nil, Nat.zero_mul, List.length_nil, Nat.pow_zero, Nat.mul_one, List.length_cons]
      rw [eq_comm, decide_eq_true_eq]
      omega
  | cons a x ih => cases y with
    | nil => simp [Op.bytesLess, bytesN_nil]
    | cons b y =>
      simp only [Op.bytesLess, ih, bytesN_cons, List.length_cons]
      have hx := bytesN_lt x; have hy := bytesN_lt y
      generalize bytesN x = X at *
      generalize bytesN y = Y at *
      have ex : (a.toNat * 256 ^ x.length + X) * 256 ^ (y.length + 1) = a.toNat * (256 * 256 ^ x.length * 256 ^ y.length) + 256 * (X * 256 ^ y.length) := by
        rw [Nat.pow_succ, Nat.add_mul]
        congr 1
        · rw [Nat.mul_assoc]; congr 1; rw [Nat.mul_comm (256 ^ y.length) 256, ← Nat.mul_assoc, Nat.mul_comm (256 ^ x.length) 256]
        · rw [Nat.mul_comm (256 ^ y.length) 256, ← Nat.mul_assoc, Nat.mul_comm X 256, Nat.mul_assoc]
      have ey : (b.toNat * 256 ^ y.length + Y) * 256 ^ (x.length + 1) = b.toNat * (256 * 256 ^ x.length * 256 ^ y.length) + 256 * (Y * 256 ^ x.length) := by
        rw [Nat.pow_succ, Nat.add_mul]
        congr 1
        · rw [Nat.mul_assoc]; congr 1; rw [Nat.mul_comm (256 ^ x.length) 256, ← Nat.mul_assoc, Nat.mul_comm (256 ^ y.length) 256, Nat.mul_assoc, Nat.mul_comm (256 ^ y.length), ← Nat.mul_assoc]
        · rw [Nat.mul_comm (256 ^ x.length) 256, ← Nat.mul_assoc, Nat.mul_comm Y 256, Nat.mul_assoc]
      rw [ex, ey]
      have gx : 256 * (X * 256 ^ y.length) < 256 * 256 ^ x.length * 256 ^ y.length := by
        rw [Nat.mul_assoc]; exact Nat.mul_lt_mul_of_pos_left (Nat.mul_lt_mul_of_pos_right hx (Nat.pow_pos (by omega))) (by omega)
      have gy : 256 * (Y * 256 ^ x.length) < 256 * 256 ^ x.length * 256 ^ y.length := by
        rw [Nat.mul_assoc, Nat.mul_comm (256 ^ x.length)]; exact Nat.mul_lt_mul_of_pos_left (Nat.mul_lt_mul_of_pos_right hy (Nat.pow_pos (by omega))) (by omega)
      generalize 256 * 256 ^ x.length * 256 ^ y.length = M at *
      generalize X * 256 ^ y.length = U at *
      generalize Y * 256 ^ x.length = V at *
      rcases Nat.lt_trichotomy a.toNat b.toNat with h | h | h
      · have hab : decide (a < b) = true := by simpa [UInt8.lt_iff_toNat_lt] using h
        have : a.toNat * M + M ≤ b.toNat * M := by
          have := Nat.mul_le_mul_right M (show a.toNat + 1 ≤ b.toNat by omega)
          rw [Nat.add_mul] at this; omega
        rw [hab, Bool.true_or, eq_comm, decide_eq_true_eq]
        left; omega
      · have he : a = b := UInt8.toNat_inj.1 h
        subst he
        have hab : decide (a < a) = false := by simp
        rw [hab, Bool.false_or, beq_self_eq_true, Bool.true_and]
        rw [Bool.eq_iff_iff, decide_eq_true_eq, decide_eq_true_eq]
        omega
      · have hab : decide (a < b) = false := by simp [UInt8.lt_iff_toNat_lt]; omega
        have hne : (a == b) = false := by
          rw [beq_eq_false_iff_ne]; intro e; subst e; omega
        have : b.toNat * M + M ≤ a.toNat * M := by
          have := Nat.mul_le_mul_right M (show b.toNat + 1 ≤ a.toNat by omega)
          rw [Nat.add_mul] at this; omega
        rw [hab, hne, Bool.false_or, Bool.false_and, eq_comm, decide_eq_false_iff_not]
        omega
end Go.Eng
