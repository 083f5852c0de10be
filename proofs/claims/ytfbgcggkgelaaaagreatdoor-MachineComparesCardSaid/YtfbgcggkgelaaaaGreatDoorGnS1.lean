/- A part of the proof that the evaluator in GnC, and the driver in GnZ, answer as the model does; no conditions. -/
import Derived.Test.YtfbgcggkgelaaaaGreatDoorGnC
namespace Go.Eng

/-! ### laws of the small words -/
@[simp] theorem bi_true {α : Type} (x y : α) : bi true x y = x := rfl
@[simp] theorem bi_false {α : Type} (x y : α) : bi false x y = y := rfl
@[simp] theorem om_some {α β : Type} (a : α) (n : β) (f : α → β) : om (some a) n f = f a := rfl
@[simp] theorem om_none {α β : Type} (n : β) (f : α → β) : om none n f = n := rfl
@[simp] theorem appL_eq {α : Type} (x y : List α) : appL x y = x ++ y := by
  induction x with
  | nil => rfl
  | cons a x ih => exact congrArg (a :: ·) ih
theorem fmL_nil {α β : Type} (f : α → List β) : fmL [] f = [] := rfl
theorem fmL_cons {α β : Type} (a : α) (l : List α) (f : α → List β) : fmL (a :: l) f = f a ++ fmL l f := by
  cases l with
  | nil => show f a = f a ++ []; simp
  | cons b l => exact appL_eq (f a) (fmL (b :: l) f)
theorem mem_fmL {α β : Type} {l : List α} {f : α → List β} {y : β} : y ∈ fmL l f ↔ ∃ a ∈ l, y ∈ f a := by
  induction l with
  | nil => simp [fmL_nil]
  | cons a l ih => simp [fmL_cons, ih]
theorem lenL_eq {α : Type} (l : List α) : lenL l = l.length := by
  induction l with
  | nil => rfl
  | cons a l ih => exact congrArg Nat.succ ih
theorem dropL_eq {α : Type} (l : List α) (n : Nat) : dropL l n = l.drop n := by
  induction n generalizing l with
  | zero => rfl
  | succ n ih => cases l with
    | nil => rfl
    | cons a l => exact ih l
theorem takeL_some {α : Type} {l x : List α} {n : Nat} (h : takeL l n = some x) : n ≤ l.length ∧ x = l.take n := by
  induction n generalizing l x with
  | zero => cases h; exact ⟨Nat.zero_le _, rfl⟩
  | succ n ih => cases l with
    | nil => cases h
    | cons a l =>
      change om (takeL l n) none (fun x => some (a :: x)) = some x at h
      cases ht : takeL l n with
      | none => rw [ht] at h; cases h
      | some y =>
        rw [ht] at h
        obtain ⟨h1, rfl⟩ := ih ht
        cases h
        exact ⟨by simpa using h1, rfl⟩
theorem nthL_eq (l : List AV) (n : Nat) : nthL l n = (l[n]?).getD unkV := by
  induction n generalizing l with
  | zero => cases l <;> rfl
  | succ n ih => cases l with
    | nil => rfl
    | cons a l =>
      show nthL l n = _
      rw [ih l]; simp
theorem over_some {new cs x : List AV} (h : over new cs = some x) : new.length ≤ cs.length ∧ x = new ++ cs.drop new.length := by
  induction new generalizing cs x with
  | nil => cases h; exact ⟨Nat.zero_le _, rfl⟩
  | cons a new ih => cases cs with
    | nil => cases h
    | cons c cs =>
      change om (over new cs) none (fun r => some (a :: r)) = some x at h
      cases ht : over new cs with
      | none => rw [ht] at h; cases h
      | some y =>
        rw [ht] at h
        obtain ⟨h1, rfl⟩ := ih ht
        cases h
        exact ⟨by simpa using h1, rfl⟩
theorem putC_some {off : Nat} {new cs x : List AV} (h : putC off new cs = some x) : off + new.length ≤ cs.length ∧ x = cs.take off ++ new ++ cs.drop (off + new.length) := by
  induction off generalizing cs x with
  | zero =>
    obtain ⟨h1, rfl⟩ := over_some (show over new cs = some x from h)
    exact ⟨by simpa using h1, by simp⟩
  | succ n ih => cases cs with
    | nil => cases h
    | cons c cs =>
      change om (putC n new cs) none (fun r => some (c :: r)) = some x at h
      cases ht : putC n new cs with
      | none => rw [ht] at h; cases h
      | some y =>
        rw [ht] at h
        obtain ⟨h1, rfl⟩ := ih ht
        cases h
        refine ⟨by simp; omega, ?_⟩
        have : n + 1 + new.length = (n + new.length) + 1 := by omega
        simp [this]
theorem allL_eq {α : Type} (f : α → Bool) (l : List α) : allL f l = l.all f := by
  induction l with
  | nil => rfl
  | cons a l ih =>
    show bi (f a) (allL f l) false = _
    rw [ih]
    cases h : f a <;> simp [h]

/-! ### the frame's tree -/
theorem get1_set1 {α : Type} (t : Nd α) (x : α) (i j : Nat) (hi : i < 8) (hj : j < 8) : (get1 j).run ((set1 i).run t x) = if i = j then x else (get1 j).run t := by
  match i, hi, j, hj with
  | 0, _, 0, _ | 0, _, 1, _ | 0, _, 2, _ | 0, _, 3, _ | 0, _, 4, _ | 0, _, 5, _ | 0, _, 6, _ | 0, _, 7, _ => rfl
  | 1, _, 0, _ | 1, _, 1, _ | 1, _, 2, _ | 1, _, 3, _ | 1, _, 4, _ | 1, _, 5, _ | 1, _, 6, _ | 1, _, 7, _ => rfl
  | 2, _, 0, _ | 2, _, 1, _ | 2, _, 2, _ | 2, _, 3, _ | 2, _, 4, _ | 2, _, 5, _ | 2, _, 6, _ | 2, _, 7, _ => rfl
  | 3, _, 0, _ | 3, _, 1, _ | 3, _, 2, _ | 3, _, 3, _ | 3, _, 4, _ | 3, _, 5, _ | 3, _, 6, _ | 3, _, 7, _ => rfl
  | 4, _, 0, _ | 4, _, 1, _ | 4, _, 2, _ | 4, _, 3, _ | 4, _, 4, _ | 4, _, 5, _ | 4, _, 6, _ | 4, _, 7, _ => rfl
  | 5, _, 0, _ | 5, _, 1, _ | 5, _, 2, _ | 5, _, 3, _ | 5, _, 4, _ | 5, _, 5, _ | 5, _, 6, _ | 5, _, 7, _ => rfl
  | 6, _, 0, _ | 6, _, 1, _ | 6, _, 2, _ | 6, _, 3, _ | 6, _, 4, _ | 6, _, 5, _ | 6, _, 6, _ | 6, _, 7, _ => rfl
  | 7, _, 0, _ | 7, _, 1, _ | 7, _, 2, _ | 7, _, 3, _ | 7, _, 4, _ | 7, _, 5, _ | 7, _, 6, _ | 7, _, 7, _ => rfl
theorem ble_true {a b : Nat} : nble a b = true ↔ a ≤ b := by rw [nble_eq, Nat.ble_eq]
theorem ble_false {a b : Nat} : nble a b = false ↔ b < a := by
  rw [← Bool.not_eq_true, ble_true]; omega
theorem beq_true {a b : Nat} : nbeq a b = true ↔ a = b := by rw [nbeq_eq]; exact ⟨Nat.eq_of_beq_eq_true, fun h => by subst h; exact Nat.beq_refl a⟩
@[simp] theorem nbeq_refl (a : Nat) : nbeq a a = true := beq_true.2 rfl
theorem rble_true {a b : Nat} : Nat.ble a b = true ↔ a ≤ b := by rw [Nat.ble_eq]
theorem rble_false {a b : Nat} : Nat.ble a b = false ↔ b < a := by
  rw [← Bool.not_eq_true, rble_true]; omega
theorem getB_big {i : Nat} (h : 511 ≤ i) (T : Fr) : (getB i).run T = unkV := by
  unfold getB; rw [rble_true.2 h]; rfl
theorem getB_small {i : Nat} (h : i < 511) (T : Fr) : (getB i).run T = (get1 (d0 i)).run ((get1 (d1 i)).run ((get1 (d2 i)).run T)) := by
  unfold getB; rw [rble_false.2 h]; rfl
theorem setB_small {i : Nat} (h : i < 511) (T : Fr) (x : AV) : (setB i).run T x = (set1 (d2 i)).run T ((set1 (d1 i)).run ((get1 (d2 i)).run T) ((set1 (d0 i)).run ((get1 (d1 i)).run ((get1 (d2 i)).run T)) x)) := by
  unfold setB; rw [rble_false.2 h]; rfl
theorem setB_big {i : Nat} (h : 511 ≤ i) (T : Fr) (x : AV) : (setB i).run T x = T := by
  unfold setB; rw [rble_true.2 h]; rfl
theorem d0_lt (i : Nat) : d0 i < 8 := Nat.mod_lt _ (by omega)
theorem d1_lt (i : Nat) : d1 i < 8 := Nat.mod_lt _ (by omega)
theorem d2_lt {i : Nat} (h : i < 511) : d2 i < 8 := by show i / 64 < 8; omega
theorem d_inj {i j : Nat} (h0 : d0 i = d0 j) (h1 : d1 i = d1 j) (h2 : d2 i = d2 j) : i = j := by
  change i % 8 = j % 8 at h0; change i / 8 % 8 = j / 8 % 8 at h1; change i / 64 = j / 64 at h2; omega
/-- **reading behind a writing** -/
theorem getB_setB (i j : Nat) (T : Fr) (x : AV) : (getB j).run ((setB i).run T x) = if i = j ∧ i < 511 then x else (getB j).run T := by
  by_cases hi : i < 511
  · by_cases hj : j < 511
    · rw [getB_small hj, setB_small hi, get1_set1 _ _ _ _ (d2_lt hi) (d2_lt hj)]
      by_cases h2 : d2 i = d2 j
      · rw [if_pos h2, get1_set1 _ _ _ _ (d1_lt i) (d1_lt j)]
        by_cases h1 : d1 i = d1 j
        · rw [if_pos h1, get1_set1 _ _ _ _ (d0_lt i) (d0_lt j)]
          by_cases h0 : d0 i = d0 j
          · rw [if_pos h0, if_pos ⟨d_inj h0 h1 h2, hi⟩]
          · rw [if_neg h0, if_neg (fun h => h0 (by rw [h.1])), getB_small hj, h1, h2]
        · rw [if_neg h1, if_neg (fun h => h1 (by rw [h.1])), getB_small hj, h2]
      · rw [if_neg h2, if_neg (fun h => h2 (by rw [h.1])), getB_small hj]
    · rw [getB_big (by omega), getB_big (by omega), if_neg (by omega)]
  · rw [setB_big (by omega), if_neg (by omega)]
theorem getB_noFr (i : Nat) (h : i < 511) : (getB i).run noFr = udV := by
  rw [getB_small h]
  have key : ∀ {α : Type} (x : α) (j : Nat), (get1 j).run (ndAll x) = x := by
    intro α x j
    unfold get1 ndAll
    split <;> rfl
  unfold noFr
  rw [key, key, key]

theorem getB_set7 {i : Nat} (hi : i < 511) (T : Fr) (x : AV) : (getB i).run ((set1 7).run T ((set1 7).run ((get1 7).run T) ((set1 7).run ((get1 7).run ((get1 7).run T)) x))) = (getB i).run T := by
  rw [getB_small hi, getB_small hi, get1_set1 _ _ _ _ (by omega) (d2_lt hi)]
  by_cases h2 : 7 = d2 i
  · rw [if_pos h2, get1_set1 _ _ _ _ (by omega) (d1_lt i), ← h2]
    by_cases h1 : 7 = d1 i
    · rw [if_pos h1, get1_set1 _ _ _ _ (by omega) (d0_lt i), ← h1]
      rw [if_neg]
      intro h0
      have e : 511 = i := d_inj (show d0 511 = d0 i from h0) (show d1 511 = d1 i from h1) (show d2 511 = d2 i from h2)
      omega
    · rw [if_neg h1]
  · rw [if_neg h2]
theorem getB_addMark (i : Nat) (T : Fr) (b : Nat) : (getB i).run (addMark T b) = (getB i).run T := by
  by_cases hi : i < 511
  · exact getB_set7 hi T _
  · rw [getB_big (by omega), getB_big (by omega)]
theorem getB_noMk (i : Nat) (T : Fr) : (getB i).run (noMk T) = (getB i).run T := by
  by_cases hi : i < 511
  · exact getB_set7 hi T _
  · rw [getB_big (by omega), getB_big (by omega)]
theorem marksT_addMark (T : Fr) (b : Nat) : marksT (addMark T b) = mk1 3 b :: marksT T := rfl
theorem marksT_noMk (T : Fr) : marksT (noMk T) = [] := rfl
theorem marksT_noFr : marksT noFr = [] := rfl
theorem marksT_setB (i : Nat) (T : Fr) (x : AV) : marksT ((setB i).run T x) = marksT T := by
  by_cases hi : i < 511
  · rw [setB_small hi]
    unfold marksT
    rw [get1_set1 _ _ _ _ (d2_lt hi) (by omega)]
    by_cases h2 : d2 i = 7
    · rw [if_pos h2, get1_set1 _ _ _ _ (d1_lt i) (by omega), h2]
      by_cases h1 : d1 i = 7
      · rw [if_pos h1, get1_set1 _ _ _ _ (d0_lt i) (by omega), h1]
        rw [if_neg]
        intro h0
        have e : i = 511 := d_inj (show d0 i = d0 511 from h0) (show d1 i = d1 511 from h1) (show d2 i = d2 511 from h2)
        omega
      · rw [if_neg h1]
    · rw [if_neg h2]
  · rw [setB_big (by omega)]
theorem decN_encN {α : Type} (f : α → AV) (g : AV → α) (h : ∀ x, g (f x) = x) (t : Nd α) : decN g (encN f t) = t := by
  show (⟨g (f t.a), g (f t.b), g (f t.c), g (f t.d), g (f t.e), g (f t.f), g (f t.g), g (f t.h)⟩ : Nd α) = t
  simp only [h]
theorem decF_encF (T : Fr) : decF (encF T) = T := decN_encN _ _ (decN_encN _ _ (decN_encN _ _ fun _ => rfl)) T

/-! ### the memory's tree -/
def b3 (j : Nat) : Bool × Bool × Bool := (Nat.beq (Nat.land j 1) 0, Nat.beq (Nat.land j 2) 0, Nat.beq (Nat.land j 4) 0)
theorem dsel_dset {α : Type} (t : Nd α) (x : α) (i j : Nat) : dsel (dset t i x) j = if b3 i = b3 j then x else dsel t j := by
  unfold dsel dset b3
  cases Nat.beq (Nat.land i 1) 0 <;> cases Nat.beq (Nat.land i 2) 0 <;> cases Nat.beq (Nat.land i 4) 0 <;>
    cases Nat.beq (Nat.land j 1) 0 <;> cases Nat.beq (Nat.land j 2) 0 <;> cases Nat.beq (Nat.land j 4) 0 <;> rfl
theorem land_bit (j m : Nat) : Nat.beq (Nat.land j (2 ^ m)) 0 = !j.testBit m := by
  have h : Nat.land j (2 ^ m) = j &&& 2 ^ m := rfl
  rw [h]
  have hb : ∀ i, (j &&& 2 ^ m).testBit i = (j.testBit i && decide (m = i)) := by
    intro i; rw [Nat.testBit_and, Nat.testBit_two_pow]
  cases hj : j.testBit m
  · have : j &&& 2 ^ m = 0 := by
      apply Nat.eq_of_testBit_eq
      intro i
      rw [hb, Nat.zero_testBit]
      by_cases hm : m = i
      · subst hm; simp [hj]
      · simp [hm]
    rw [this]; rfl
  · have : j &&& 2 ^ m ≠ 0 := by
      intro h0
      have := hb m
      rw [h0, Nat.zero_testBit, hj] at this
      simp at this
    cases he : Nat.beq (j &&& 2 ^ m) 0
    · rfl
    · exact absurd (Nat.eq_of_beq_eq_true he) this
theorem b3_eq {i j : Nat} : b3 i = b3 j ↔ ∀ m < 3, i.testBit m = j.testBit m := by
  unfold b3
  have h1 := land_bit i 0; have h2 := land_bit i 1; have h4 := land_bit i 2
  have g1 := land_bit j 0; have g2 := land_bit j 1; have g4 := land_bit j 2
  simp only [Nat.pow_zero, Nat.pow_one, show (2:Nat)^2 = 4 from rfl] at h1 h2 h4 g1 g2 g4
  rw [h1, h2, h4, g1, g2, g4]
  constructor
  · intro h m hm
    simp only [Prod.mk.injEq] at h
    obtain ⟨a, b, c⟩ := h
    match m, hm with
    | 0, _ => simpa using a
    | 1, _ => simpa using b
    | 2, _ => simpa using c
  · intro h
    rw [h 0 (by omega), h 1 (by omega), h 2 (by omega)]
theorem sh_bit (i k m : Nat) : (sh i k).testBit m = i.testBit (k + m) := by
  show (i >>> k).testBit m = _
  rw [Nat.testBit_shiftRight]
theorem htget_htset {i j : Nat} (hi : i < 32768) (hj : j < 32768) (t : HT) (b : AB) : htget (htset t i b) j = if i = j then b else htget t j := by
  unfold htget htset
  rw [dsel_dset]
  by_cases h12 : b3 (sh i 12) = b3 (sh j 12)
  · rw [if_pos h12, dsel_dset]
    have key : ∀ {α : Type} (t : Nd α) (a b : Nat), b3 a = b3 b → dsel t a = dsel t b := by
      intro α t a b h
      simp only [b3, Prod.mk.injEq] at h
      unfold dsel
      rw [h.1, h.2.1, h.2.2]
    by_cases h9 : b3 (sh i 9) = b3 (sh j 9)
    · rw [if_pos h9, dsel_dset]
      by_cases h6 : b3 (sh i 6) = b3 (sh j 6)
      · rw [if_pos h6, dsel_dset]
        by_cases h3 : b3 (sh i 3) = b3 (sh j 3)
        · rw [if_pos h3, dsel_dset]
          by_cases h0 : b3 i = b3 j
          · rw [if_pos h0]
            have : i = j := by
              rw [b3_eq] at h0 h3 h6 h9 h12
              simp only [sh_bit] at h3 h6 h9 h12
              apply Nat.eq_of_testBit_eq
              intro m
              by_cases hm : m < 15
              · rcases (by omega : m < 3 ∨ (3 ≤ m ∧ m < 6) ∨ (6 ≤ m ∧ m < 9) ∨ (9 ≤ m ∧ m < 12) ∨ (12 ≤ m ∧ m < 15)) with h | h | h | h | h
                · exact h0 m h
                · have := h3 (m - 3) (by omega); rwa [show 3 + (m - 3) = m by omega] at this
                · have := h6 (m - 6) (by omega); rwa [show 6 + (m - 6) = m by omega] at this
                · have := h9 (m - 9) (by omega); rwa [show 9 + (m - 9) = m by omega] at this
                · have := h12 (m - 12) (by omega); rwa [show 12 + (m - 12) = m by omega] at this
              · have hp : (2:Nat) ^ 15 ≤ 2 ^ m := Nat.pow_le_pow_right (by omega) (by omega)
                rw [Nat.testBit_lt_two_pow (by omega), Nat.testBit_lt_two_pow (by omega)]
            rw [if_pos this]
          · rw [if_neg h0, if_neg (fun h => h0 (by rw [h])), key _ _ _ h12, key _ _ _ h9, key _ _ _ h6, key _ _ _ h3]
        · rw [if_neg h3, if_neg (fun h => h3 (by rw [h])), key _ _ _ h12, key _ _ _ h9, key _ _ _ h6]
      · rw [if_neg h6, if_neg (fun h => h6 (by rw [h])), key _ _ _ h12, key _ _ _ h9]
    · rw [if_neg h9, if_neg (fun h => h9 (by rw [h])), key _ _ _ h12]
  · rw [if_neg h12, if_neg (fun h => h12 (by rw [h]))]
theorem hget_eq (H : Hp) (i : Nat) : hget H i = htget H.t i := gt_eq _ i
theorem hset_eq (H : Hp) (i : Nat) (b : AB) : hset H i b = ⟨htset H.t i b, H.n, H.lim⟩ := by unfold hset; rw [gt_eq]
theorem hnew_eq (H : Hp) (b : AB) : hnew H b = ⟨htset H.t H.n b, H.n + 1, H.lim⟩ := by unfold hnew; rw [gt_eq, gt_eq]
theorem hnew_n (H : Hp) (b : AB) : (hnew H b).n = H.n + 1 := by rw [hnew_eq]
theorem hget_hset {H : Hp} {i j : Nat} (hi : i < 32768) (hj : j < 32768) (b : AB) : hget (hset H i b) j = if i = j then b else hget H j := by rw [hset_eq, hget_eq, hget_eq]; exact htget_htset hi hj _ b
theorem hget_hnew {H : Hp} {j : Nat} (hi : H.n < 32768) (hj : j < 32768) (b : AB) : hget (hnew H b) j = if H.n = j then b else hget H j := by rw [hnew_eq, hget_eq, hget_eq]; exact htget_htset hi hj _ b
theorem hget_noH (i : Nat) : hget noH i = noB := by
  have key : ∀ {α : Type} (x : α) (j : Nat), dsel (ndAll x) j = x := by
    intro α x j
    unfold dsel ndAll
    cases Nat.beq (Nat.land j 1) 0 <;> cases Nat.beq (Nat.land j 2) 0 <;> cases Nat.beq (Nat.land j 4) 0 <;> rfl
  rw [hget_eq]
  unfold htget noH
  rw [key, key, key, key, key]
end Go.Eng
