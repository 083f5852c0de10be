/- A part of the proof that the evaluator in GnC, and the driver in GnZ, answer as the model does; no conditions. -/
import Derived.Test.YtfbgcggkgelaaaaGreatDoorGnS6
import Derived.Laws.Strings
import Derived.Laws.Concat
import Derived.Laws.BytesString
namespace Go.Eng
open Go.RowKit
variable {P : Program} {w0 : World} {H : Hp} {φ : Ph} {c : Kont} {w : World}

/-- nothing guards the comparison of such values -/
def noGuard (va vb : Value) : Prop := (match va, vb with | .nilIface, .nilIface => False | .agg _, .agg _ => False | _, _ => True)
theorem binY_of {op : BinOp} {t : TypeId} {x y : Operand} {va vb v : Value} (hg : noGuard va vb) (h : (binOp op t va vb).run P w = .ok v w) : BinY P op t x y va vb w v w := by
  have : (eqGuard op t x y va vb).run P w = .ok () w := by
    unfold eqGuard
    cases op <;> first | rfl | (cases va <;> cases vb <;> first | rfl | exact hg.elim)
  simp only [BinY, Sem.run_bind, this, Result.andThen_ok, h]

/-! ### shifts -/
theorem shl_val {k a n : Nat} (hk : k < 8) (ha : a < kMod k) : (kOf k).wrap (valI k a * 2 ^ min n (kBits k)) = valI k (shlN k a n) ∧ shlN k a n < kMod k := by
  have e2 : ∀ x y, Nat.mod x y = x % y := fun _ _ => rfl
  have e3 : ∀ x y, Nat.shiftLeft x y = x <<< y := fun _ _ => rfl
  have key : ∀ m, ((a * 2 ^ m % kMod k : Nat) : Int) = (valI k a * 2 ^ m) % (kMod k : Int) := by
    intro m
    rw [Int.mul_emod, valI_mod' ha]
    have : ((2:Int) ^ m) = ((2 ^ m : Nat) : Int) := by simp
    rw [this]
    rw [Int.natCast_emod, Int.natCast_mul, Int.mul_emod (a:Int), Int.emod_eq_of_lt (a := (a:Int)) (by omega) (by exact_mod_cast ha)]
  unfold shlN
  rw [gt2_eq]
  cases h : nble (kBits k) n
  · have := ble_false.1 h
    rw [bi_false, Nat.min_eq_left (by omega), e2, e3, Nat.shiftLeft_eq]
    exact ⟨valI_nat hk _ (key n).symm, Nat.mod_lt _ kMod_pos⟩
  · have := ble_true.1 h
    rw [bi_true, Nat.min_eq_right this]
    refine ⟨valI_nat hk _ ?_, kMod_pos⟩
    rw [← key]
    show ((a * kMod k % kMod k : Nat) : Int) = _
    rw [Nat.mul_mod_left]
theorem shr_val {k a n : Nat} (hk : k < 8) (ha : a < kMod k) : (valI k a).fdiv (2 ^ min n (kBits k)) = valI k (shrN k a n) ∧ shrN k a n < kMod k := by
  have e3 : ∀ x y, Nat.shiftRight x y = x >>> y := fun _ _ => rfl
  have e4 : ∀ x y, Nat.sub x y = x - y := fun _ _ => rfl
  have e5 : ∀ x, Nat.pred x = x - 1 := fun _ => rfl
  have hM : kMod k = 2 ^ kBits k := rfl
  have hpos : ∀ m, (0:Int) ≤ 2 ^ m := fun m => by
    have : ((2:Int) ^ m) = ((2 ^ m : Nat) : Int) := by simp
    rw [this]; exact Int.natCast_nonneg _
  have hk2 := kHalf_le hk
  unfold shrN
  rw [gt2_eq]
  cases hn : isNeg k a
  · rw [bi_false]
    have hlt := isNeg_false.1 hn
    rw [valI_lt hlt, Int.fdiv_eq_ediv_of_nonneg _ (hpos _)]
    have hc : ∀ m, (a : Int) / 2 ^ m = ((a / 2 ^ m : Nat) : Int) := fun m => by simp
    rw [hc]
    cases h : nble (kBits k) n
    · have := ble_false.1 h
      rw [bi_false, Nat.min_eq_left (by omega), e3, Nat.shiftRight_eq_div_pow]
      have hle : a / 2 ^ n ≤ a := Nat.div_le_self _ _
      exact ⟨(valI_lt (by omega)).symm, by omega⟩
    · have := ble_true.1 h
      rw [bi_true, Nat.min_eq_right this, ← hM, Nat.div_eq_of_lt ha]
      exact ⟨(valI_lt (by omega)).symm, kMod_pos⟩
  · rw [bi_true]
    have hge := isNeg_true.1 hn
    have hor := kHalf_or hk
    rw [valI_ge hge, Int.fdiv_eq_ediv_of_nonneg _ (hpos _)]
    -- a - M = -(d + 1) with d = M - 1 - a
    have hd : (a : Int) - kMod k = -(((kMod k - 1 - a : Nat) : Int) + 1) := by omega
    have hdiv : ∀ (d m : Nat), (-((d : Int) + 1)) / 2 ^ m = -(((d / 2 ^ m : Nat) : Int) + 1) := by
      intro d m
      have h1 : -((d : Int) + 1) = Int.negSucc d := (Int.negSucc_eq d).symm
      have h2 : ((2:Int) ^ m) = ((2 ^ m : Nat) : Int) := by simp
      have h3 : 0 < 2 ^ m := Nat.two_pow_pos m
      rw [h1, h2, Int.negSucc_ediv _ (by exact_mod_cast h3)]
      simp
      rfl
    rw [hd, hdiv]
    cases h : nble (kBits k) n
    · have := ble_false.1 h
      rw [bi_false, Nat.min_eq_left (by omega), e3, Nat.shiftRight_eq_div_pow, e5, e4, e4]
      have hle : (kMod k - 1 - a) / 2 ^ n ≤ kMod k - 1 - a := Nat.div_le_self _ _
      generalize (kMod k - 1 - a) / 2 ^ n = r at *
      refine ⟨?_, by omega⟩
      rw [valI_ge (by omega)]; omega
    · have := ble_true.1 h
      rw [bi_true, Nat.min_eq_right this, ← hM, Nat.div_eq_of_lt (by omega), e5]
      refine ⟨?_, by omega⟩
      rw [valI_ge (by omega)]; omega
theorem valI_nonneg {k p : Nat} (h : isNeg k p = false) : valI k p = p := valI_lt (isNeg_false.1 h)
theorem sh_out {left : Bool} {t : TypeId} {x y : Operand} {k d : Nat} {a b : AV} {va vb : Value} (hk : k < 8) (hd : d < 8) (ha : VR φ a va) (hb : VR φ b vb) (hr : HR P w0 H φ w) (hok : AllOk ((shC left k d).run a b H c)) :
    Out P w0 (BinY P (bi left .shl .shr) t x y va vb w) H φ ((shC left k d).run a b H c) c := by
  refine Out.bi hok fun h1 hok => Out.bi hok fun h2 hok => Out.bi2 hok (fun _ hok => (failR_bad hok).elim) fun h3 _ => ?_
  obtain ⟨rfl, l1, _⟩ := ha.of_int hk (beq_true.1 h1)
  obtain ⟨rfl, l2, _⟩ := hb.of_int hd (beq_true.1 h2)
  have hy : valI d b.p = (b.p : Int) := valI_nonneg h3
  have hneg : ¬ ((b.p : Int) < 0) := by omega
  cases left
  · refine Out.same hr (vr_int hk (shr_val hk l1).2) (binY_of trivial ?_)
    simp only [bi_false, binOp, Op.shift, hy, hneg, if_false, Int.toNat_natCast, bits_kOf hk, (shr_val hk l1).1]
    rfl
  · refine Out.same hr (vr_int hk (shl_val hk l1).2) (binY_of trivial ?_)
    simp only [bi_true, binOp, Op.shift, hy, hneg, if_false, Int.toNat_natCast, bits_kOf hk, (shl_val hk l1).1]
    rfl

/-! ### Booleans, nil, strings -/
theorem equal_eq (t : TypeId) (x y : Value) : Op.equal t x y = Op.equalIn (9999 + 1) t x y := rfl
theorem equalIn_bool {d : Nat} {t : TypeId} (h : (tyB P t).run = some .bool) (a b : Bool) : (Op.equalIn (d + 1) t (.bool a) (.bool b)).run P w = .ok (a == b) w := by
  simp only [Op.equalIn, Sem.run_bind, run_und h, Result.andThen_ok]; rfl
theorem equalIn_ptr {d : Nat} {t e : TypeId} (h : (tyB P t).run = some (.pointer e)) (a : Option Addr) : (Op.equalIn (d + 1) t (.pointer none) (.pointer a)).run P w = .ok a.isNone w ∧ (Op.equalIn (d + 1) t (.pointer a) (.pointer none)).run P w = .ok a.isNone w := by
  cases a <;> simp only [Op.equalIn, Sem.run_bind, run_und h, Result.andThen_ok] <;> exact ⟨rfl, rfl⟩
theorem equalIn_sl {d : Nat} {t e : TypeId} (h : (tyB P t).run = some (.slice e)) (a : Option Addr) (l k : Nat) : (Op.equalIn (d + 1) t (.slice none 0 0) (.slice a l k)).run P w = .ok a.isNone w ∧ (Op.equalIn (d + 1) t (.slice a l k) (.slice none 0 0)).run P w = .ok a.isNone w := by
  cases a <;> simp only [Op.equalIn, Sem.run_bind, run_und h, Result.andThen_ok] <;> exact ⟨rfl, rfl⟩
theorem equalIn_map {d : Nat} {t k e : TypeId} (h : (tyB P t).run = some (.map k e)) (a : Option Nat) : (Op.equalIn (d + 1) t (.map none) (.map a)).run P w = .ok a.isNone w ∧ (Op.equalIn (d + 1) t (.map a) (.map none)).run P w = .ok a.isNone w := by
  cases a <;> simp only [Op.equalIn, Sem.run_bind, run_und h, Result.andThen_ok] <;> exact ⟨rfl, rfl⟩
theorem equalIn_func {d : Nat} {t : TypeId} {p q : Array TypeId} {v : Bool} (h : (tyB P t).run = some (.func p q v)) : (Op.equalIn (d + 1) t .nilFunc .nilFunc).run P w = .ok true w ∧
    ∀ f x y, (Op.equalIn (d + 1) t .nilFunc (.func f x y)).run P w = .ok false w ∧ (Op.equalIn (d + 1) t (.func f x y) .nilFunc).run P w = .ok false w := by
  refine ⟨?_, fun f x y => ⟨?_, ?_⟩⟩ <;> simp only [Op.equalIn, Sem.run_bind, run_und h, Result.andThen_ok] <;> rfl
theorem eql_of {t : TypeId} {va vb : Value} {b : Bool} (want : Bool) (h : (Op.equal t va vb).run P w = .ok b w)
    (hd : ∀ op, op = BinOp.eql ∨ op = BinOp.neq → binOp op t va vb = (match op with | .eql => (do pure (.bool (← Op.equal t va vb)) : Sem Value) | _ => (do pure (.bool (!(← Op.equal t va vb))) : Sem Value))) :
    (binOp (bi want .eql .neq) t va vb).run P w = .ok (.bool (bi want b !b)) w := by
  cases want
  · rw [bi_false, hd _ (.inr rfl)]
    simp only [Sem.run_bind, h, Result.andThen_ok, bi_false]; rfl
  · rw [bi_true, hd _ (.inl rfl)]
    simp only [Sem.run_bind, h, Result.andThen_ok, bi_true]; rfl
theorem boolEq_out {want : Bool} {t : TypeId} {x y : Operand} {a b : AV} {va vb : Value} (ht : (tyB P t).run = some .bool) (ha : VR φ a va) (hb : VR φ b vb) (hr : HR P w0 H φ w) (hok : AllOk ((boolEqC want).run a b H c)) :
    Out P w0 (BinY P (bi want .eql .neq) t x y va vb w) H φ ((boolEqC want).run a b H c) c := by
  refine Out.bi hok fun h1 hok => Out.bi hok fun h2 _ => ?_
  obtain ⟨p, rfl, e1, _⟩ := ha.of_bool (beq_true.1 h1)
  obtain ⟨q, rfl, e2, _⟩ := hb.of_bool (beq_true.1 h2)
  have hbe : nbeq a.p b.p = (p == q) := by rw [e1, e2]; cases p <;> cases q <;> rfl
  rw [nb_eq, hbe]
  refine Out.same hr (vr_bool _) (binY_of trivial (eql_of want ?_ ?_))
  · exact equalIn_bool ht p q
  · rintro op (rfl | rfl) <;> rfl
/-- what stands for nil and what does not, of one of the kinds that may be nil -/
def nilKind (n m : Nat) (d : TypeDesc) : Prop := (n = 0 ∧ m = 10 ∧ ∃ e, d = .pointer e) ∨ (n = 1 ∧ m = 11 ∧ ∃ e, d = .slice e) ∨ (n = 2 ∧ m = 12 ∧ ∃ k e, d = .map k e) ∨ (n = 3 ∧ m = 13 ∧ ∃ p r v, d = .func p r v)
theorem nilEq_out {want : Bool} {n m : Nat} {d : TypeDesc} {t : TypeId} {x y : Operand} {a b : AV} {va vb : Value} (hd : nilKind n m d) (ht : (tyB P t).run = some d) (ha : VR φ a va) (hb : VR φ b vb) (hr : HR P w0 H φ w) (hok : AllOk ((nilEqC want n m).run a b H c)) :
    Out P w0 (BinY P (bi want .eql .neq) t x y va vb w) H φ ((nilEqC want n m).run a b H c) c := by
  have nilv : ∀ {a : AV} {va : Value}, VR φ a va → bi (nbeq a.tag 17) (nbeq a.p n) false = true → va = (match n with | 0 => .pointer none | 1 => .slice none 0 0 | 2 => .map none | _ => .nilFunc) := by
    intro a va h hh
    cases h17 : nbeq a.tag 17
    · rw [h17] at hh; cases hh
    · rw [h17, bi_true] at hh
      have hp := beq_true.1 hh
      rcases h.of_nil (beq_true.1 h17) with ⟨e, rfl⟩ | ⟨e, rfl⟩ | ⟨e, rfl⟩ | ⟨e, rfl⟩ | ⟨e, rfl⟩ <;> rw [e] at hp <;> subst hp <;> first | rfl | (rcases hd with h | h | h | h <;> exact absurd h.1 (by decide))
  have thev : ∀ {a : AV} {va : Value}, VR φ a va → nbeq a.tag m = true → (match n with | 0 => ∃ p, va = .pointer (some p) | 1 => ∃ p l k, va = .slice (some p) l k | 2 => ∃ p, va = .map (some p) | _ => ∃ f p q, va = .func f p q) := by
    intro a va h hh
    have hm := beq_true.1 hh
    rcases hd with ⟨rfl, rfl, _⟩ | ⟨rfl, rfl, _⟩ | ⟨rfl, rfl, _⟩ | ⟨rfl, rfl, _⟩
    · obtain ⟨p, rfl, _⟩ := h.of_ptr hm; exact ⟨_, rfl⟩
    · obtain ⟨p, k, rfl, _⟩ := h.of_sl hm; exact ⟨_, _, _, rfl⟩
    · obtain ⟨p, rfl, _⟩ := h.of_map hm; exact ⟨_, rfl⟩
    · obtain ⟨p, q, rfl, _⟩ := h.of_fn hm; exact ⟨_, _, _, rfl⟩
  have fin : ∀ (r : Bool), noGuard va vb → (Op.equal t va vb).run P w = .ok r w → (∀ op, op = BinOp.eql ∨ op = BinOp.neq → binOp op t va vb = (match op with | .eql => (do pure (.bool (← Op.equal t va vb)) : Sem Value) | _ => (do pure (.bool (!(← Op.equal t va vb))) : Sem Value))) →
      Out P w0 (BinY P (bi want .eql .neq) t x y va vb w) H φ (c H (bV (bi want r (!r)))) c := by
    intro r hg h1 h2
    exact Out.same hr (vr_bool _) (binY_of hg (eql_of want h1 h2))
  have ft : bV want = bV (bi want true (!true)) := by cases want <;> rfl
  have ff : bV (nb want) = bV (bi want false (!false)) := by cases want <;> rfl
  refine Out.bi2 hok (fun h1 hok => Out.bi2 hok (fun h2 _ => ?_) fun _ hok => Out.bi hok fun h2 _ => ?_) fun _ hok => Out.bi hok fun h1 hok => Out.bi hok fun h2 _ => ?_
  · rw [ft]
    rcases hd with ⟨rfl, rfl, e, rfl⟩ | ⟨rfl, rfl, e, rfl⟩ | ⟨rfl, rfl, k, e, rfl⟩ | ⟨rfl, rfl, k, e, v, rfl⟩
    · have e1 : va = .pointer none := nilv ha h1; have e2 : vb = .pointer none := nilv hb h2
      subst e1 e2
      exact fin true trivial (equalIn_ptr ht none).1 (by rintro op (rfl | rfl) <;> rfl)
    · have e1 : va = .slice none 0 0 := nilv ha h1; have e2 : vb = .slice none 0 0 := nilv hb h2
      subst e1 e2
      exact fin true trivial (equalIn_sl ht none 0 0).1 (by rintro op (rfl | rfl) <;> rfl)
    · have e1 : va = .map none := nilv ha h1; have e2 : vb = .map none := nilv hb h2
      subst e1 e2
      exact fin true trivial (equalIn_map ht none).1 (by rintro op (rfl | rfl) <;> rfl)
    · have e1 : va = .nilFunc := nilv ha h1; have e2 : vb = .nilFunc := nilv hb h2
      subst e1 e2
      exact fin true trivial (equalIn_func ht).1 (by rintro op (rfl | rfl) <;> rfl)
  · rw [ff]
    rcases hd with ⟨rfl, rfl, e, rfl⟩ | ⟨rfl, rfl, e, rfl⟩ | ⟨rfl, rfl, k, e, rfl⟩ | ⟨rfl, rfl, k, e, v, rfl⟩
    · have e1 : va = .pointer none := nilv ha h1; obtain ⟨p, rfl⟩ : ∃ p, vb = .pointer (some p) := thev hb h2
      subst e1
      exact fin false trivial (equalIn_ptr ht (some p)).1 (by rintro op (rfl | rfl) <;> rfl)
    · have e1 : va = .slice none 0 0 := nilv ha h1; obtain ⟨p, l, k, rfl⟩ : ∃ p l k, vb = .slice (some p) l k := thev hb h2
      subst e1
      exact fin false trivial (equalIn_sl ht (some p) l k).1 (by rintro op (rfl | rfl) <;> rfl)
    · have e1 : va = .map none := nilv ha h1; obtain ⟨p, rfl⟩ : ∃ p, vb = .map (some p) := thev hb h2
      subst e1
      exact fin false trivial (equalIn_map ht (some p)).1 (by rintro op (rfl | rfl) <;> rfl)
    · have e1 : va = .nilFunc := nilv ha h1; obtain ⟨f, p, q, rfl⟩ : ∃ f p q, vb = .func f p q := thev hb h2
      subst e1
      exact fin false trivial ((equalIn_func ht).2 f p q).1 (by rintro op (rfl | rfl) <;> rfl)
  · rw [ff]
    rcases hd with ⟨rfl, rfl, e, rfl⟩ | ⟨rfl, rfl, e, rfl⟩ | ⟨rfl, rfl, k, e, rfl⟩ | ⟨rfl, rfl, k, e, v, rfl⟩
    · have e2 : vb = .pointer none := nilv hb h2; obtain ⟨p, rfl⟩ : ∃ p, va = .pointer (some p) := thev ha h1
      subst e2
      exact fin false trivial (equalIn_ptr ht (some p)).2 (by rintro op (rfl | rfl) <;> rfl)
    · have e2 : vb = .slice none 0 0 := nilv hb h2; obtain ⟨p, l, k, rfl⟩ : ∃ p l k, va = .slice (some p) l k := thev ha h1
      subst e2
      exact fin false trivial (equalIn_sl ht (some p) l k).2 (by rintro op (rfl | rfl) <;> rfl)
    · have e2 : vb = .map none := nilv hb h2; obtain ⟨p, rfl⟩ : ∃ p, va = .map (some p) := thev ha h1
      subst e2
      exact fin false trivial (equalIn_map ht (some p)).2 (by rintro op (rfl | rfl) <;> rfl)
    · have e2 : vb = .nilFunc := nilv hb h2; obtain ⟨f, p, q, rfl⟩ : ∃ f p q, va = .func f p q := thev ha h1
      subst e2
      exact fin false trivial ((equalIn_func ht).2 f p q).2 (by rintro op (rfl | rfl) <;> rfl)
theorem vr_str (l : List UInt8) : VR φ ⟨9, bytesN l, l.length, 0, 0, []⟩ (.string ⟨l.toArray⟩) := .str l 0 0 []
theorem strEq_out {want : Bool} {t : TypeId} {x y : Operand} {a b : AV} {va vb : Value} (ha : VR φ a va) (hb : VR φ b vb) (hr : HR P w0 H φ w) (hok : AllOk ((strEqC want).run a b H c)) :
    Out P w0 (BinY P (bi want .eql .neq) t x y va vb w) H φ ((strEqC want).run a b H c) c := by
  refine Out.bi hok fun h1 hok => Out.bi hok fun h2 _ => ?_
  obtain ⟨p, rfl, e1, e1'⟩ := ha.of_str (beq_true.1 h1)
  obtain ⟨q, rfl, e2, e2'⟩ := hb.of_str (beq_true.1 h2)
  have hbe : decide (p = q) = (p == q) := by rw [Bool.eq_iff_iff, decide_eq_true_eq, beq_iff_eq]
  rw [nb_eq, e1, e1', e2, e2', bytes_eq, hbe]
  refine Out.same hr (vr_bool _) (binY_of trivial ?_)
  cases want
  · simp only [bi_false, binOp, Op.stringOp, ByteArray.toList_mk]; rfl
  · simp only [bi_true, binOp, Op.stringOp, ByteArray.toList_mk]; rfl
theorem strLt_eq {a b : AV} {p q : List UInt8} (e1 : a.p = bytesN p) (e1' : a.q = p.length) (e2 : b.p = bytesN q) (e2' : b.q = q.length) : strLt a b = Op.bytesLess p q := by
  unfold strLt
  rw [gt2_eq, gt2_eq]
  unfold strLtN
  rw [bytes_less, e1, e1', e2, e2']
  have em : ∀ x y, Nat.mul x y = x * y := fun _ _ => rfl
  have ep : ∀ x y, Nat.pow x y = x ^ y := fun _ _ => rfl
  simp only [em, ep]
  cases h : nble (Nat.succ (bytesN p * 256 ^ q.length)) (bytesN q * 256 ^ p.length)
  · have h' := ble_false.1 h
    rw [bi_false]
    cases h2 : nbeq (bytesN p * 256 ^ q.length) (bytesN q * 256 ^ p.length)
    · have h2' := beq_false.1 h2
      rw [bi_false, eq_comm, decide_eq_false_iff_not]
      omega
    · have h2' := beq_true.1 h2
      rw [bi_true, Bool.eq_iff_iff, decide_eq_true_eq, ble_true]
      omega
  · have h' := ble_true.1 h
    rw [bi_true, eq_comm, decide_eq_true_eq]
    omega
theorem bytesLess_asymm (p q : List UInt8) : (Op.bytesLess p q || p == q) = !Op.bytesLess q p := by
  rw [bytes_less, bytes_less]
  by_cases h : p = q
  · subst h; simp
  · have hne : (p == q) = false := by simpa using h
    rw [hne, Bool.or_false, Bool.eq_iff_iff, decide_eq_true_eq, Bool.not_eq_true', decide_eq_false_iff_not]
    have hd : bytesN p * 256 ^ q.length = bytesN q * 256 ^ p.length → p.length ≠ q.length := by
      intro e hl
      rw [hl] at e
      exact h (bytesN_inj hl (Nat.eq_of_mul_eq_mul_right (Nat.pow_pos (by omega)) e))
    omega
theorem strCmp_out {op : BinOp} {f : AV → AV → Bool} {t : TypeId} {x y : Operand} {a b : AV} {va vb : Value} (hf : (op = .lss ∧ f = strLt) ∨ (op = .gtr ∧ f = fun a b => strLt b a) ∨ (op = .leq ∧ f = fun a b => nb (strLt b a)) ∨ (op = .geq ∧ f = fun a b => nb (strLt a b)))
    (ha : VR φ a va) (hb : VR φ b vb) (hr : HR P w0 H φ w) (hok : AllOk ((strCmpC f).run a b H c)) :
    Out P w0 (BinY P op t x y va vb w) H φ ((strCmpC f).run a b H c) c := by
  refine Out.bi hok fun h1 hok => Out.bi hok fun h2 _ => ?_
  obtain ⟨p, rfl, e1, e1'⟩ := ha.of_str (beq_true.1 h1)
  obtain ⟨q, rfl, e2, e2'⟩ := hb.of_str (beq_true.1 h2)
  refine Out.same hr (vr_bool _) (binY_of trivial ?_)
  rcases hf with ⟨rfl, rfl⟩ | ⟨rfl, rfl⟩ | ⟨rfl, rfl⟩ | ⟨rfl, rfl⟩ <;> simp only [nb_eq, strLt_eq e1 e1' e2 e2', strLt_eq e2 e2' e1 e1', binOp, Op.stringOp, ByteArray.toList_mk, bytesLess_asymm, Bool.not_not] <;> rfl
theorem cat_out {t : TypeId} {x y : Operand} {a b : AV} {va vb : Value} (ha : VR φ a va) (hb : VR φ b vb) (hr : HR P w0 H φ w) (hok : AllOk (catC.run a b H c)) :
    Out P w0 (BinY P .add t x y va vb w) H φ (catC.run a b H c) c := by
  refine Out.bi hok fun h1 hok => Out.bi hok fun h2 hok => Out.bi hok fun h3 _ => ?_
  obtain ⟨p, rfl, e1, e1'⟩ := ha.of_str (beq_true.1 h1)
  obtain ⟨q, rfl, e2, e2'⟩ := hb.of_str (beq_true.1 h2)
  have h3' := ble_true.1 h3
  have ea : Nat.add a.q b.q = a.q + b.q := rfl
  rw [ea] at h3'
  have hv : VR φ ⟨9, Nat.add (Nat.mul a.p (Nat.pow 256 b.q)) b.p, Nat.add a.q b.q, 0, 0, []⟩ (.string ⟨(p ++ q).toArray⟩) := by
    have := vr_str (φ := φ) (p ++ q)
    rw [bytesN_append, List.length_append] at this
    rw [e1, e1', e2, e2']
    exact this
  refine Out.same hr hv (binY_of trivial ?_)
  have : binOp .add t (.string ⟨p.toArray⟩) (.string ⟨q.toArray⟩) = Op.stringOp .add ⟨p.toArray⟩ ⟨q.toArray⟩ := rfl
  rw [this, ← ByteArray.mk_append_mk]
  refine run_string_add_sum _ _ _ ?_
  simp only [ByteArray.size_mk', List.size_toArray]
  omega
end Go.Eng
