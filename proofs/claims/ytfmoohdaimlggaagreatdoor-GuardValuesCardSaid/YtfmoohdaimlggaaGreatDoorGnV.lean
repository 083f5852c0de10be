
/- A part of the proof that the evaluator in GnC, and the driver in GnZ, answer as the model does; no conditions. -/
import Derived.Test.YtfmoohdaimlggaaGreatDoorGnTs
namespace Go.Eng
open Go.RowKit
/-! what the texts about functions on terms use -/
theorem nth1 (a : AV) : nthL [a] 0 = a := rfl
theorem cells_tm (t : Tm) : (bi (nbeq (tmA t).1 15) (tmA t).6 [tmA t]) = [i64 t.op, i64 t.w, u64 t.v, stA t.nq t.np, slP t.p 5 (t.as.map tmA)] := by
  cases t
  rw [tmA_mk]; rfl
theorem cells_i64 (n : Nat) : (bi (nbeq (i64 n).1 15) (i64 n).6 [i64 n]) = [i64 n] := rfl
theorem n5_0 (a b c d e : AV) : nthL [a, b, c, d, e] 0 = a := rfl
theorem n5_1 (a b c d e : AV) : nthL [a, b, c, d, e] (Nat.succ 0) = b := rfl
theorem n5_1' (a b c d e : AV) : nthL [a, b, c, d, e] 1 = b := rfl
theorem n5_2 (a b c d e : AV) : nthL [a, b, c, d, e] (Nat.succ 0).succ = c := rfl
theorem n5_3 (a b c d e : AV) : nthL [a, b, c, d, e] (Nat.succ 0).succ.succ = d := rfl
theorem n5_4 (a b c d e : AV) : nthL [a, b, c, d, e] (Nat.succ 0).succ.succ.succ = e := rfl
theorem tg_i (n : Nat) : tagIs 3 (i64 n) = true := rfl
theorem tg_u (n : Nat) : tagIs 7 (u64 n) = true := rfl
theorem tg_s (q n : Nat) : tagIs 9 (stA q n) = true := rfl
theorem tg_l (p : Nat) (l : List AV) : tagIs 37 (slP p 5 l) = true := rfl
theorem i64_p (n : Nat) : (i64 n).2 = n := rfl
theorem u64_p (n : Nat) : (u64 n).2 = n := rfl
theorem stA_p (q n : Nat) : (stA q n).2 = n := rfl
theorem stA_q (q n : Nat) : (stA q n).3 = q := rfl
theorem slP_p (p r : Nat) (l : List AV) : (slP p r l).2 = p := rfl
theorem slP_cs (p r : Nat) (l : List AV) : (slP p r l).6 = l := rfl
theorem mk_u64 (n : Nat) : (⟨7, n, 0, 0, 0, []⟩ : AV) = u64 n := rfl
theorem mk_stA (q n : Nat) : (⟨9, n, q, 0, 0, []⟩ : AV) = stA q n := rfl
theorem mk_agg (cs : List AV) : (⟨15, 0, 0, 0, 0, cs⟩ : AV) = aggV cs := rfl
theorem ansY_bi (c : Bool) (a b : AV) : bi c (ansY a) (ansY b) = ansY (bi c a b) := by cases c <;> rfl
theorem i64_bi (c : Bool) (a b : Nat) : bi c (i64 a) (i64 b) = i64 (bi c a b) := by cases c <;> rfl
theorem b0 (c : Bool) {α : Type} (x y : α) : bi (nbeq (bi c 1 0) 0) x y = bi c y x := by cases c <;> rfl
theorem bS (c : Bool) {α : Type} (x y : α) : bi (nbeq (Nat.sub 1 (bi c 1 0)) 1) x y = bi c y x := by cases c <;> rfl
theorem nble_f {x y : Nat} (h : ¬ x ≤ y) : nble x y = false := by rw [← Bool.not_eq_true, ble_true]; exact h
theorem nble_t {x y : Nat} (h : x ≤ y) : nble x y = true := ble_true.2 h
theorem nbeq_dec (x y : Nat) : nbeq x y = decide (x = y) := by rw [Bool.eq_iff_iff, beq_true, decide_eq_true_eq]
theorem nble_dec (x y : Nat) : nble x y = decide (x ≤ y) := by rw [Bool.eq_iff_iff, ble_true, decide_eq_true_eq]
theorem bi_if (c : Bool) {α : Type} (x y : α) : bi c x y = if c = true then x else y := by cases c <;> rfl
theorem biased3 {x : Nat} : biased 3 x = (x + 2 ^ 63) % 2 ^ 64 := gt_eq _ x
theorem biased3s {x : Nat} (h : x < 2 ^ 63) : biased 3 x = x + 2 ^ 63 := by rw [biased3]; omega
theorem cnv_mod (a : Nat) (h : a < 2 ^ 64) : cnvN 3 7 a = a := by
  unfold cnvN
  rw [gt_eq]
  have e : kMod 7 = 2 ^ 64 := by decide +kernel
  have e3 : kMod 3 = 2 ^ 64 := by decide +kernel
  rw [e, e3]
  cases isNeg 3 a
  · rw [bi_false]; exact Nat.mod_eq_of_lt h
  · rw [bi_true]
    have h1 : ∀ b m : Nat, Nat.mod (Nat.add a b) m = (a + b) % m := fun _ _ => rfl
    have h2 : Nat.sub (Nat.mul (2 ^ 64) (2 ^ 64)) (2 ^ 64) = 2 ^ 64 * (2 ^ 64 - 1) := by decide +kernel
    rw [h2, h1, Nat.add_mul_mod_self_left]
    exact Nat.mod_eq_of_lt h
/-- a loop that appends -/
theorem walkA {α : Type} (X : List α) (f : α → AV) (L : Nat → Nat → Nat → List AV → RL) (fin : Nat → List AV → RL) (hX : X.length ≤ 1000) (hend : ∀ k p acc, acc.length ≤ 1000 → L (k + 1) X.length p acc = fin p acc)
    (hstep : ∀ k i p acc (h : i < X.length), acc.length = i → L (k + 1) i p acc = L k (i + 1) 1 (acc ++ [f X[i]])) : ∀ k i p, i + k = X.length → L (k + 1) i p ((X.take i).map f) = fin (if k = 0 then p else 1) (X.map f) := by
  intro k
  induction k with
  | zero =>
    intro i p hi
    have e : i = X.length := by omega
    subst e
    rw [List.take_length, hend _ _ _ (by rw [List.length_map]; exact hX)]; rfl
  | succ k ih =>
    intro i p hi
    have hlt : i < X.length := by omega
    rw [hstep _ _ _ _ hlt (by rw [List.length_map, List.length_take]; omega), take_snoc f X i hlt, ih (i + 1) 1 (by omega)]
    rw [if_neg (show ¬ k + 1 = 0 by omega)]
    split <;> rfl
end Go.Eng
