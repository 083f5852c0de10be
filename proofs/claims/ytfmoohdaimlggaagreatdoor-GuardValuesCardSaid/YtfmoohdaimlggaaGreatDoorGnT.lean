
/- A part of the proof that the evaluator in GnC, and the driver in GnZ, answer as the model does; no conditions. -/
import Derived.Test.YtfmoohdaimlggaaGreatDoorGnZS5
namespace Go.Eng
noncomputable section
/-! what the texts about one function use -/
def i64 (x : Nat) : AV := ⟨3, x, 0, 0, 0, []⟩
def u64 (x : Nat) : AV := ⟨7, x, 0, 0, 0, []⟩
/-- a list by value, of elements of size r; p: 0 nil, 1 not -/
def slP (p r : Nat) (cs : List AV) : AV := ⟨24, p, 0, r, 0, cs⟩
/-- what a label is given for a list of its own, and for a variable that is pointed to -/
def lsD (p : Nat) (cs : List AV) : AV := ⟨16, p, 0, 0, 0, cs⟩
def bxD (cs : List AV) : AV := ⟨16, 0, 0, 1, 0, cs⟩
def eqPath (p : List Nat) : List Nat → Bool := List.rec (motive := fun _ => List Nat → Bool) (fun q => List.rec (motive := fun _ => Bool) true (fun _ _ _ => false) q) (fun a _ ih q => List.rec (motive := fun _ => Bool) false (fun b q _ => bi (nbeq a b) (ih q) false) q) p
def labT (l : List (List Nat × List (Nat × Nat))) : Lab := fun q => List.rec (motive := fun _ => Option (List (Nat × Nat))) none (fun x _ ih => bi (eqPath x.1 q) (some x.2) ih) l
def bodyC (f : Func) : Code := match f.body with | some c => c | none => .skip
def ntL (l : List (Nat × Native)) (f : Nat) : Option Native := List.rec (motive := fun _ => Option Native) none (fun x _ ih => bi (nbeq x.1 f) (some x.2) ih) l
end
variable {P : Program}
theorem ntL_nil : NatOk P (ntL []) := ⟨fun f g _ h => (by cases h), fun f g h => (by cases h)⟩
theorem ntL_consN {k : Nat} {g : Native} {l : List (Nat × Native)} (hk : CallOk P k g) (h : NatOk P (ntL l)) (hk2 : k < 1000 := by decide) : NatOk P (ntL ((k, g) :: l)) := by
  refine ⟨fun f g' hf hg => ?_, fun f g' hg => ?_⟩
  · have hg' : bi (nbeq k f) (some g) (ntL l f) = some g' := hg
    cases hb : nbeq k f
    · rw [hb, bi_false] at hg'; exact h.1 f g' hf hg'
    · rw [hb, bi_true] at hg'
      cases hg'
      rw [← beq_true.1 hb]
      exact hk
  · have hg' : bi (nbeq k (f + 1000)) (some g) (ntL l (f + 1000)) = some g' := hg
    rw [beq_false.2 (show k ≠ f + 1000 by omega), bi_false] at hg'
    exact h.2 f g' hg'
theorem ntL_cons {k : Nat} {ts : List TypeId} {V : List AV → AV} {l : List (Nat × Native)} (h : NatOk P (ntL l)) (hk2 : k < 1000 := by decide) : NatOk P (ntL ((k, natP P k ts V) :: l)) := ntL_consN (natP_ok k ts V) h hk2
/-- a function that the machine itself answers -/
theorem ntL_consX {k : Nat} {g : Native} {l : List (Nat × Native)} (hk : ExtOk P k g) (h : NatOk P (ntL l)) : NatOk P (ntL ((k + 1000, g) :: l)) := by
  refine ⟨fun f g' hf hg => ?_, fun f g' hg => ?_⟩
  · have hg' : bi (nbeq (k + 1000) f) (some g) (ntL l f) = some g' := hg
    rw [beq_false.2 (show k + 1000 ≠ f by omega), bi_false] at hg'
    exact h.1 f g' hf hg'
  · have hg' : bi (nbeq (k + 1000) (f + 1000)) (some g) (ntL l (f + 1000)) = some g' := hg
    cases hb : nbeq (k + 1000) (f + 1000)
    · rw [hb, bi_false] at hg'; exact h.2 f g' hg'
    · rw [hb, bi_true] at hg'
      cases hg'
      have := beq_true.1 hb
      rw [show f = k by omega]
      exact hk
theorem okN_bi {α : Type} {p : Prop} (h : p) (a b : α) : bi (nbeq (okN p) 1) a b = a := by
  rw [okN_one.2 h]; rfl
theorem bl_bi {α : Type} (c : Bool) (a b : α) : bi (nbeq (bi c 1 0) 1) a b = bi c a b := by cases c <;> rfl
theorem jmpN_succ {N : Nat} {lab : Lab} {Hb : Hp} {r : Rec} {fin : BR} {top : Code} (n : Nat) (q : List Nat) (ds : List AV) : jmpN P N lab Hb r fin top (n + 1) q ds = lblY P N lab Hb r fin top (jmpN P N lab Hb r fin top n) q ds := rfl
theorem biased_le {a b : Nat} (ha : a < 2 ^ 63) (hb : b < 2 ^ 63) : nble (biased 3 a) (biased 3 b) = decide (a ≤ b) := by
  have u : ∀ x, biased 3 x = (x + 2 ^ 63) % 2 ^ 64 := fun x => gt_eq _ x
  rw [Bool.eq_iff_iff, ble_true, u, u, decide_eq_true_eq, Nat.mod_eq_of_lt (by omega), Nat.mod_eq_of_lt (by omega)]
  omega
theorem nthL_map {α : Type} (f : α → AV) (X : List α) (i : Nat) (h : i < X.length) : nthL (X.map f) i = f X[i] := by
  rw [nthL_eq]
  simp [h]
theorem lenL_map {α : Type} (f : α → AV) (X : List α) : lenL (X.map f) = X.length := by rw [lenL_eq, List.length_map]
theorem mk_i64 (n : Nat) : (⟨3, n, 0, 0, 0, []⟩ : AV) = i64 n := rfl
theorem nb_t : nb true = false := rfl
theorem nb_f : nb false = true := rfl
theorem succ_mod {i : Nat} (h : i < 2 ^ 63) : gt2 (fun a b => (a.add b).mod (kMod (kCode IntKind.i64))) i 1 = i + 1 := by
  rw [gt2_eq]
  have h64 : kMod 3 = 2 ^ 64 := rfl
  show (i + 1) % kMod 3 = i + 1
  rw [h64]
  exact Nat.mod_eq_of_lt (by show i + 1 < 2 ^ 64; omega)
theorem bi_tt {α : Type} (x y : α) : bi true x y = x := (Eq.refl (bi true x y)).trans rfl
theorem bi_ff {α : Type} (x y : α) : bi false x y = y := (Eq.refl (bi false x y)).trans rfl
theorem n11 : nbeq 1 1 = true := rfl
theorem n01 : nbeq 0 1 = false := rfl
theorem mk_ls (p : Nat) (cs : List AV) : (⟨16, p, 0, 0, 0, cs⟩ : AV) = lsD p cs := rfl
theorem mk_bx (cs : List AV) : (⟨16, 0, 0, 1, 0, cs⟩ : AV) = bxD cs := rfl
theorem mk_slP (p r : Nat) (cs : List AV) : (⟨24, p, 0, r, 0, cs⟩ : AV) = slP p r cs := rfl
theorem takeN_self (l : List AV) : takeN (lenL l) l = l := by rw [takeN_eq, lenL_eq, List.take_length]
theorem takeN_snoc (l : List AV) (x : AV) : takeN ((lenL l).add 1) (appL l [x]) = l ++ [x] := by
  rw [takeN_eq, lenL_eq, appL_eq]
  exact List.take_of_length_le (by rw [List.length_append]; exact Nat.le_refl _)
theorem take_snoc {α : Type} (f : α → AV) (X : List α) (i : Nat) (h : i < X.length) : (X.take i).map f ++ [f X[i]] = (X.take (i + 1)).map f := by
  rw [List.take_succ_eq_append_getElem h, List.map_append]; rfl
theorem ble_100k {n : Nat} (h : n ≤ 1000) : nble (n.add 1) 100000 = true := ble_true.2 (by show n + 1 ≤ 100000; omega)
/-- the driver's answer, in the form in which the equations are printed -/
theorem pure_fn (hm : P.follows .mixedOrders = true) (hG : P.globals.size ≤ 32767) {f : Nat} {fn : Func} {c : Code} {N : Nat} {rs : List ResultVar} (hf : P.funcs[f]? = some fn) (hbd : fn.body = some c) (hN : fn.ntmps = N) (hrs : fn.results.toList = rs) {r : Rec} (hrec : RecOk P r) (lab : Lab) (ts : List TypeId) (n : Nat) {args : List AV} {v0 : AV}
    (h : (compY P N lab (finY P rs ts) (jmpN P N lab (baseH P) r (finY P rs ts) c n) [] c (finY P rs ts) []).run r (setArgs 0 args noFr) (baseH P) = ansY v0) : PureAt P f args v0 := by
  subst hN hrs
  exact pure_ok hm hf hbd hG hrec h
end Go.Eng
