/- A part of the proof that the evaluator in GnC, and the driver in GnZ, answer as the model does; no conditions. -/
import Derived.Test.YtfbgcggkgelaaaaGreatDoorGnS4
namespace Go.Eng
open Go.RowKit
variable {P : Program} {w0 : World} {H : Hp} {φ : Ph} {c : Kont} {w : World}

/-- an operator of two operands as the code carries it out -/
def BinY (P : Program) (op : BinOp) (t : TypeId) (x y : Operand) (va vb : Value) (w : World) (v : Value) (w' : World) : Prop :=
  (do eqGuard op t x y va vb; binOp op t va vb : Sem Value).run P w = .ok v w'
theorem guard_int {op : BinOp} {t : TypeId} {x y : Operand} {k k' : IntKind} {m n : Int} (w : World) : (eqGuard op t x y (.int k m) (.int k' n)).run P w = .ok () w := by
  unfold eqGuard; cases op <;> rfl
theorem binY_int {op : BinOp} {t : TypeId} {x y : Operand} {k k' : IntKind} {m n : Int} {v : Value} (h : (binOp op t (.int k m) (.int k' n)).run P w = .ok v w) : BinY P op t x y (.int k m) (.int k' n) w v w := by
  simp only [BinY, Sem.run_bind, guard_int, Result.andThen_ok, h]
theorem vr_int {k p : Nat} (hk : k < 8) (hp : p < kMod k) : VR φ (mk1 k p) (.int (kOf k) (valI k p)) := .int k p 0 0 [] hk hp
theorem vr_bool (b : Bool) : VR φ (bV b) (.bool b) := .bool b 0 0 []
theorem int2_out {Y : Value → World → Prop} {k : Nat} {f : Box (Nat → Nat → AV)} {a b : AV} {va vb : Value} (hk : k < 8) (ha : VR φ a va) (hb : VR φ b vb) (hr : HR P w0 H φ w) (hok : AllOk ((int2 k f).run a b H c))
    (h : ∀ x y, x < kMod k → y < kMod k → va = .int (kOf k) (valI k x) → vb = .int (kOf k) (valI k y) → ∃ val, Y val w ∧ VR φ (f.run x y) val) : Out P w0 Y H φ ((int2 k f).run a b H c) c := by
  refine Out.bi hok fun h1 hok => Out.bi hok fun h2 hok => ?_
  obtain ⟨e1, l1, _⟩ := ha.of_int hk (beq_true.1 h1)
  obtain ⟨e2, l2, _⟩ := hb.of_int hk (beq_true.1 h2)
  obtain ⟨val, hy, hv⟩ := h a.p b.p l1 l2 e1 e2
  exact Out.same hr hv hy
theorem int2z_out {Y : Value → World → Prop} {k : Nat} {f : Box (Nat → Nat → AV)} {a b : AV} {va vb : Value} (hk : k < 8) (ha : VR φ a va) (hb : VR φ b vb) (hr : HR P w0 H φ w) (hok : AllOk ((int2z k f).run a b H c))
    (h : ∀ x y, x < kMod k → y < kMod k → y ≠ 0 → va = .int (kOf k) (valI k x) → vb = .int (kOf k) (valI k y) → ∃ val, Y val w ∧ VR φ (f.run x y) val) : Out P w0 Y H φ ((int2z k f).run a b H c) c := by
  refine Out.bi hok fun h1 hok => Out.bi hok fun h2 hok => ?_
  obtain ⟨e1, l1, _⟩ := ha.of_int hk (beq_true.1 h1)
  obtain ⟨e2, l2, _⟩ := hb.of_int hk (beq_true.1 h2)
  refine Out.bi2 hok (fun _ hok => (failR_bad hok).elim) fun h0 _ => ?_
  obtain ⟨val, hy, hv⟩ := h a.p b.p l1 l2 (beq_false.1 h0) e1 e2
  exact Out.same hr hv hy
theorem nb_eq (b : Bool) : nb b = !b := by cases b <;> rfl
theorem and_lt {c a b : Nat} (ha : a < kMod c) : Nat.land a b < kMod c := Nat.lt_of_le_of_lt (Nat.and_le_left) ha
theorem or_lt {c a b : Nat} (ha : a < kMod c) (hb : b < kMod c) : Nat.lor a b < kMod c := Nat.or_lt_two_pow ha hb
theorem xor_lt {c a b : Nat} (ha : a < kMod c) (hb : b < kMod c) : Nat.xor a b < kMod c := Nat.xor_lt_two_pow ha hb
theorem val_ne0 {c b : Nat} (hc : c < 8) (hb : b < kMod c) (h : b ≠ 0) : valI c b ≠ 0 := by
  have h0 : valI c 0 = 0 := by
    refine kinds (p := fun c => valI c 0 = 0) ?_ ?_ ?_ ?_ ?_ ?_ ?_ ?_ hc <;> decide +kernel
  intro he
  exact h ((eq_val hc hb (kMod_pos (c := c))).1 (he.trans h0.symm))

theorem intC_out {op : BinOp} {k : Nat} {t : TypeId} {x y : Operand} {f : Box (AV → AV → Hp → Kont → RL)} {a b : AV} {va vb : Value} (hk : k < 8) (hf : intC op k = some f) (ha : VR φ a va) (hb : VR φ b vb) (hr : HR P w0 H φ w)
    (hok : AllOk (f.run a b H c)) : Out P w0 (BinY P op t x y va vb w) H φ (f.run a b H c) c := by
  have ar : ∀ (g : Nat → Nat → Nat) (val : Int → Int → Int), (∀ m n, (binOp op t (.int (kOf k) m) (.int (kOf k) n)).run P w = .ok (.int (kOf k) (val m n)) w) →
      (∀ p q, p < kMod k → q < kMod k → val (valI k p) (valI k q) = valI k (g p q) ∧ g p q < kMod k) → f = int2 k ⟨fun a b => mk1 k (g a b)⟩ →
      Out P w0 (BinY P op t x y va vb w) H φ (f.run a b H c) c := by
    intro g val h1 h2 hf'
    subst hf'
    refine int2_out hk ha hb hr hok fun p q hp hq e1 e2 => ⟨_, ?_, vr_int hk (h2 p q hp hq).2⟩
    subst e1 e2
    rw [← (h2 p q hp hq).1]
    exact binY_int (h1 _ _)
  have cm : ∀ (g : Nat → Nat → Bool) (val : Int → Int → Bool), (∀ m n, (binOp op t (.int (kOf k) m) (.int (kOf k) n)).run P w = .ok (.bool (val m n)) w) →
      (∀ p q, p < kMod k → q < kMod k → val (valI k p) (valI k q) = g p q) → f = int2 k ⟨fun a b => bV (g a b)⟩ →
      Out P w0 (BinY P op t x y va vb w) H φ (f.run a b H c) c := by
    intro g val h1 h2 hf'
    subst hf'
    refine int2_out hk ha hb hr hok fun p q hp hq e1 e2 => ⟨_, ?_, vr_bool _⟩
    subst e1 e2
    rw [← h2 p q hp hq]
    exact binY_int (h1 _ _)
  have mlt : ∀ n, Nat.mod n (kMod k) < kMod k := fun n => Nat.mod_lt _ kMod_pos
  cases op <;> simp only [intC, gt2_eq, Option.some.injEq, reduceCtorEq] at hf
  case add => exact ar _ (fun m n => (kOf k).wrap (m + n)) (fun _ _ => by simp [binOp, Op.intArith]) (fun p q hp hq => ⟨add_val hk hp hq, mlt _⟩) hf.symm
  case sub => exact ar _ (fun m n => (kOf k).wrap (m - n)) (fun _ _ => by simp [binOp, Op.intArith]) (fun p q hp hq => ⟨sub_val hk hp hq, mlt _⟩) hf.symm
  case mul => exact ar _ (fun m n => (kOf k).wrap (m * n)) (fun _ _ => by simp [binOp, Op.intArith]) (fun p q hp hq => ⟨mul_val hk hp hq, mlt _⟩) hf.symm
  case and => exact ar _ (fun m n => (kOf k).wrap ((BitVec.ofInt (kOf k).bits m &&& BitVec.ofInt (kOf k).bits n).toNat : Int)) (fun _ _ => by simp [binOp, Op.intBits]) (fun p q hp hq => ⟨by rw [BitVec.toNat_and, bv_val hk hp, bv_val hk hq]; exact back_val hk _ (and_lt hp), and_lt hp⟩) hf.symm
  case or => exact ar _ (fun m n => (kOf k).wrap ((BitVec.ofInt (kOf k).bits m ||| BitVec.ofInt (kOf k).bits n).toNat : Int)) (fun _ _ => by simp [binOp, Op.intBits]) (fun p q hp hq => ⟨by rw [BitVec.toNat_or, bv_val hk hp, bv_val hk hq]; exact back_val hk _ (or_lt hp hq), or_lt hp hq⟩) hf.symm
  case xor => exact ar _ (fun m n => (kOf k).wrap ((BitVec.ofInt (kOf k).bits m ^^^ BitVec.ofInt (kOf k).bits n).toNat : Int)) (fun _ _ => by simp [binOp, Op.intBits]) (fun p q hp hq => ⟨by rw [BitVec.toNat_xor, bv_val hk hp, bv_val hk hq]; exact back_val hk _ (xor_lt hp hq), xor_lt hp hq⟩) hf.symm
  case andNot => exact ar _ (fun m n => (kOf k).wrap ((BitVec.ofInt (kOf k).bits m &&& ~~~BitVec.ofInt (kOf k).bits n).toNat : Int)) (fun _ _ => by simp [binOp, Op.intBits]) (fun p q hp hq => ⟨by rw [BitVec.toNat_and, BitVec.toNat_not, bv_val hk hp, bv_val hk hq, bits_kOf hk]; exact back_val hk _ (and_lt hp), and_lt hp⟩) hf.symm
  case eql => exact cm _ (fun m n => m == n) (fun _ _ => by simp [binOp, Op.intCmp]) (fun p q hp hq => by rw [Bool.eq_iff_iff, beq_iff_eq, beq_true]; exact eq_val hk hp hq) hf.symm
  case neq => exact cm _ (fun m n => m != n) (fun _ _ => by simp [binOp, Op.intCmp]) (fun p q hp hq => by rw [nb_eq, bne]; congr 1; rw [Bool.eq_iff_iff, beq_iff_eq, beq_true]; exact eq_val hk hp hq) hf.symm
  case lss => exact cm _ (fun m n => decide (m < n)) (fun _ _ => by simp [binOp, Op.intCmp]) (fun p q hp hq => by rw [nb_eq, Bool.eq_iff_iff, decide_eq_true_eq, Bool.not_eq_true', ble_false]; have := cmp_val hk hq hp; omega) hf.symm
  case leq => exact cm _ (fun m n => decide (m ≤ n)) (fun _ _ => by simp [binOp, Op.intCmp]) (fun p q hp hq => by rw [Bool.eq_iff_iff, decide_eq_true_eq, ble_true]; exact cmp_val hk hp hq) hf.symm
  case gtr => exact cm _ (fun m n => decide (m > n)) (fun _ _ => by simp [binOp, Op.intCmp]) (fun p q hp hq => by rw [nb_eq, Bool.eq_iff_iff, decide_eq_true_eq, Bool.not_eq_true', ble_false]; have := cmp_val hk hp hq; omega) hf.symm
  case geq => exact cm _ (fun m n => decide (m ≥ n)) (fun _ _ => by simp [binOp, Op.intCmp]) (fun p q hp hq => by rw [Bool.eq_iff_iff, decide_eq_true_eq, ble_true]; exact cmp_val hk hq hp) hf.symm
  case quo =>
    subst hf
    refine int2z_out hk ha hb hr hok fun p q hp hq h0 e1 e2 => ⟨_, ?_, vr_int hk (p := quoN k p q) ?_⟩
    · subst e1 e2
      rw [← quo_val hk hp hq]
      exact binY_int (by simp [binOp, Op.intDiv, val_ne0 hk hq h0])
    · unfold quoN negN
      rw [gt_eq]
      cases xb (isNeg k p) (isNeg k q) <;> exact mlt _
  case rem =>
    subst hf
    refine int2z_out hk ha hb hr hok fun p q hp hq h0 e1 e2 => ⟨_, ?_, vr_int hk (rem_val hk hp hq h0).2⟩
    subst e1 e2
    rw [← (rem_val hk hp hq h0).1]
    exact binY_int (by simp [binOp, Op.intDiv, val_ne0 hk hq h0])
end Go.Eng
