
/- A part of the proof that the evaluator in GnC, and the driver in GnZ, answer as the model does; no conditions. -/
import Derived.Test.YtfmoohdaimlggaaGreatDoorGnSb
namespace Go.Eng
open Go.RowKit
variable {P : Program} {w0 : World}

theorem eqA_eq (n : Nat) : ∀ a b, eqA n a b = true → a = b := by
  induction n with
  | zero => intro a b h; cases h
  | succ n ih =>
    intro a b h
    have hl : ∀ l l' : List AV, (List.rec (motive := fun _ => List AV → Bool) (fun l => List.rec (motive := fun _ => Bool) true (fun _ _ _ => false) l) (fun x _ ihl l => List.rec (motive := fun _ => Bool) false (fun y l _ => bi (eqA n x y) (ihl l) false) l) l l' : Bool) = true → l = l' := by
      intro l
      induction l with
      | nil => intro l' h; cases l' with
        | nil => rfl
        | cons _ _ => cases h
      | cons x l ihl => intro l' h; cases l' with
        | nil => cases h
        | cons y l' =>
          obtain ⟨h1, h2⟩ := bi_and.1 h
          rw [ih x y h1, ihl l' h2]
    obtain ⟨h1, h⟩ := bi_and.1 (show bi (nbeq a.tag b.tag) _ false = true from h)
    obtain ⟨h2, h⟩ := bi_and.1 h
    obtain ⟨h3, h⟩ := bi_and.1 h
    obtain ⟨h4, h⟩ := bi_and.1 h
    obtain ⟨h5, h⟩ := bi_and.1 h
    have h6 := hl _ _ h
    obtain ⟨at', ap, aq, ar, as', ac⟩ := a
    obtain ⟨bt, bp, bq, br, bs, bc⟩ := b
    simp only at h1 h2 h3 h4 h5 h6
    rw [beq_true.1 h1, beq_true.1 h2, beq_true.1 h3, beq_true.1 h4, beq_true.1 h5, h6]

/-! ### what only looks -/
def SoftK (H : Hp) (g : Kont → RL) : Prop := (∃ n, ∀ c, g c = failR n) ∨ ∃ v, ∀ c, g c = c H v
section soft
variable {H : Hp}
theorem soft_fail {n : Nat} : SoftK H (fun _ => failR n) := .inl ⟨n, fun _ => rfl⟩
theorem soft_val {v : AV} : SoftK H (fun c => c H v) := .inr ⟨v, fun _ => rfl⟩
theorem soft_bi {b : Bool} {x y : Kont → RL} (hx : SoftK H x) (hy : SoftK H y) : SoftK H (fun c => bi b (x c) (y c)) := by cases b <;> assumption
theorem soft_om {α : Type} {o : Option α} {n : Kont → RL} {f : α → Kont → RL} (hn : SoftK H n) (hf : ∀ a, SoftK H (f a)) : SoftK H (fun c => om o (n c) (fun a => f a c)) := by
  cases o with
  | none => exact hn
  | some a => exact hf a
end soft
def Soft1 (f : Box (AV → Hp → Kont → RL)) : Prop := ∀ a H, SoftK H (f.run a H)
def Soft2 (f : Box (AV → AV → Hp → Kont → RL)) : Prop := ∀ a b H, SoftK H (f.run a b H)
def Soft3 (f : Box (AV → AV → AV → Hp → Kont → RL)) : Prop := ∀ a b d H, SoftK H (f.run a b d H)
def SoftN (f : Box (List AV → Hp → Kont → RL)) : Prop := ∀ a H, SoftK H (f.run a H)
def SoftO (P : Program) (x : OpC) : Prop := ∀ r T H, SoftK H ((runD P x).run r T H)
theorem softO_bad {n : Nat} : SoftO P (badC n) := fun _ _ _ => soft_fail
theorem softO_om {α : Type} {o : Option α} {n : OpC} {f : α → OpC} (hn : SoftO P n) (h : ∀ a, SoftO P (f a)) : SoftO P (om o n f) := by
  cases o with
  | none => exact hn
  | some a => exact h a
theorem softO_bi {b : Bool} {x y : OpC} (hx : SoftO P x) (hy : SoftO P y) : SoftO P (bi b x y) := by cases b <;> assumption
theorem softO_1 {x : Operand} {f : Box (AV → Hp → Kont → RL)} (h : Soft1 f) : SoftO P (.c1 x f) := fun _ _ H => h _ H
theorem softO_2 {x y : Operand} {f : Box (AV → AV → Hp → Kont → RL)} (h : Soft2 f) : SoftO P (.c2 x y f) := fun _ _ H => h _ _ H
theorem softO_3 {x y z : Operand} {f : Box (AV → AV → AV → Hp → Kont → RL)} (h : Soft3 f) : SoftO P (.c3 x y z f) := fun _ _ H => h _ _ _ H
theorem softO_N {x : List Operand} {f : Box (List AV → Hp → Kont → RL)} (h : SoftN f) : SoftO P (.cN x f) := fun _ _ H => h _ H
theorem soft_partK {agg : Bool} {off sz n : Nat} {cs : List AV} {H : Hp} : SoftK H (fun c => partK agg off sz cs H c n) := by
  unfold partK knownK
  repeat (first | exact soft_fail | exact soft_val | refine soft_bi ?_ ?_ | refine soft_om ?_ fun _ => ?_)
theorem soft_knownK {v : AV} {n : Nat} {H : Hp} : SoftK H (fun c => knownK v H c n) := by
  unfold knownK
  repeat (first | exact soft_fail | exact soft_val | refine soft_bi ?_ ?_ | refine soft_om ?_ fun _ => ?_)
theorem soft_lenK {n : Nat} {H : Hp} : SoftK H (fun c => lenK n H c) := by
  unfold lenK
  repeat (first | exact soft_fail | exact soft_val | refine soft_bi ?_ ?_ | refine soft_om ?_ fun _ => ?_)
theorem soft_move : Soft1 moveC := fun _ _ => soft_val
theorem soft_pick  : Soft3 pickC := by
  intro a b d H
  dsimp only [pickC]
  repeat (first | exact soft_fail | exact soft_val | exact soft_lenK | exact soft_knownK | exact soft_partK | assumption | refine soft_bi ?_ ?_ | refine soft_om ?_ fun _ => ?_)

theorem soft_loadA {sz : Nat} : Soft1 (loadA sz) := by
  intro a H
  dsimp only [loadA]
  repeat (first | exact soft_fail | exact soft_val | exact soft_lenK | exact soft_knownK | exact soft_partK | assumption | refine soft_bi ?_ ?_ | refine soft_om ?_ fun _ => ?_)

theorem soft_load1  : Soft1 load1 := by
  intro a H
  dsimp only [load1]
  repeat (first | exact soft_fail | exact soft_val | exact soft_lenK | exact soft_knownK | exact soft_partK | assumption | refine soft_bi ?_ ?_ | refine soft_om ?_ fun _ => ?_)

theorem soft_nil  : Soft1 nilC := by
  intro a H
  dsimp only [nilC]
  repeat (first | exact soft_fail | exact soft_val | exact soft_lenK | exact soft_knownK | exact soft_partK | assumption | refine soft_bi ?_ ?_ | refine soft_om ?_ fun _ => ?_)

theorem soft_int2 {k : Nat} {f : Box (Nat → Nat → AV)} : Soft2 (int2 k f) := by
  intro a b H
  dsimp only [int2]
  repeat (first | exact soft_fail | exact soft_val | exact soft_lenK | exact soft_knownK | exact soft_partK | assumption | refine soft_bi ?_ ?_ | refine soft_om ?_ fun _ => ?_)

theorem soft_int2z {k : Nat} {f : Box (Nat → Nat → AV)} : Soft2 (int2z k f) := by
  intro a b H
  dsimp only [int2z]
  repeat (first | exact soft_fail | exact soft_val | exact soft_lenK | exact soft_knownK | exact soft_partK | assumption | refine soft_bi ?_ ?_ | refine soft_om ?_ fun _ => ?_)

theorem soft_sh {l : Bool} {k d : Nat} : Soft2 (shC l k d) := by
  intro a b H
  dsimp only [shC]
  repeat (first | exact soft_fail | exact soft_val | exact soft_lenK | exact soft_knownK | exact soft_partK | assumption | refine soft_bi ?_ ?_ | refine soft_om ?_ fun _ => ?_)

theorem soft_or1 {f g : Box (AV → Hp → Kont → RL)} (hf : Soft1 f) (hg : Soft1 g) : Soft1 (orY1 f g) := fun a H => soft_bi (hf a H) (hg a H)
theorem soft_or2 {f g : Box (AV → AV → Hp → Kont → RL)} (hf : Soft2 f) (hg : Soft2 g) : Soft2 (orY2 f g) := fun a b H => soft_bi (hf a b H) (hg a b H)
theorem soft_or3 {f g : Box (AV → AV → AV → Hp → Kont → RL)} (hf : Soft3 f) (hg : Soft3 g) : Soft3 (orY3 f g) := fun a b d H => soft_bi (hf a b d H) (hg a b d H)
theorem soft_orN {f g : Box (List AV → Hp → Kont → RL)} (hf : SoftN f) (hg : SoftN g) : SoftN (orYN f g) := fun a H => soft_bi (hf a H) (hg a H)
theorem soft_loadY {agg : Bool} {sz : Nat} {ko : Option (List Nat)} : Soft1 (loadY agg sz ko) := by
  intro a H
  dsimp only [loadY, peekY]
  repeat (first | exact soft_fail | exact soft_val | exact soft_lenK | exact soft_knownK | exact soft_partK | assumption | refine soft_bi ?_ ?_ | refine soft_om ?_ fun _ => ?_)
theorem soft_nilY : Soft1 nilY := by
  intro a H
  dsimp only [nilY]
  repeat (first | exact soft_fail | exact soft_val | exact soft_lenK | exact soft_knownK | exact soft_partK | assumption | refine soft_bi ?_ ?_ | refine soft_om ?_ fun _ => ?_)
theorem soft_fieldAddrY {off : Nat} : Soft1 (fieldAddrY off) := by
  intro a H
  dsimp only [fieldAddrY]
  repeat (first | exact soft_fail | exact soft_val | exact soft_lenK | exact soft_knownK | exact soft_partK | assumption | refine soft_bi ?_ ?_ | refine soft_om ?_ fun _ => ?_)
theorem soft_ixSlY {sz : Nat} : Soft2 (ixSlY sz) := by
  intro a b H
  dsimp only [ixSlY]
  repeat (first | exact soft_fail | exact soft_val | exact soft_lenK | exact soft_knownK | exact soft_partK | assumption | refine soft_bi ?_ ?_ | refine soft_om ?_ fun _ => ?_)
theorem soft_lenY : Soft1 lenY := by
  intro a H
  dsimp only [lenY]
  repeat (first | exact soft_fail | exact soft_val | exact soft_lenK | exact soft_knownK | exact soft_partK | assumption | refine soft_bi ?_ ?_ | refine soft_om ?_ fun _ => ?_)
theorem soft_nilEqY {w : Bool} : Soft2 (nilEqY w) := by
  intro a b H
  dsimp only [nilEqY]
  repeat (first | exact soft_fail | exact soft_val | exact soft_lenK | exact soft_knownK | exact soft_partK | assumption | refine soft_bi ?_ ?_ | refine soft_om ?_ fun _ => ?_)
theorem soft_cutY {sz : Nat} {h : Bool} : Soft3 (cutY sz h) := by
  intro a b d H
  dsimp only [cutY]
  repeat (first | exact soft_fail | exact soft_val | exact soft_lenK | exact soft_knownK | exact soft_partK | assumption | refine soft_bi ?_ ?_ | refine soft_om ?_ fun _ => ?_)
theorem soft_cut3Y {sz : Nat} : SoftN (cut3Y sz) := by
  intro a H
  dsimp only [cut3Y]
  repeat (first | exact soft_fail | exact soft_val | exact soft_lenK | exact soft_knownK | exact soft_partK | assumption | refine soft_bi ?_ ?_ | refine soft_om ?_ fun _ => ?_)
theorem soft_nilEq {w : Bool} {n m : Nat} : Soft2 (nilEqC w n m) := by
  intro a b H
  dsimp only [nilEqC]
  repeat (first | exact soft_fail | exact soft_val | exact soft_lenK | exact soft_knownK | exact soft_partK | assumption | refine soft_bi ?_ ?_ | refine soft_om ?_ fun _ => ?_)

theorem soft_boolEq {w : Bool} : Soft2 (boolEqC w) := by
  intro a b H
  dsimp only [boolEqC]
  repeat (first | exact soft_fail | exact soft_val | exact soft_lenK | exact soft_knownK | exact soft_partK | assumption | refine soft_bi ?_ ?_ | refine soft_om ?_ fun _ => ?_)

theorem soft_strEq {w : Bool} : Soft2 (strEqC w) := by
  intro a b H
  dsimp only [strEqC]
  repeat (first | exact soft_fail | exact soft_val | exact soft_lenK | exact soft_knownK | exact soft_partK | assumption | refine soft_bi ?_ ?_ | refine soft_om ?_ fun _ => ?_)

theorem soft_cat  : Soft2 catC := by
  intro a b H
  dsimp only [catC]
  repeat (first | exact soft_fail | exact soft_val | exact soft_lenK | exact soft_knownK | exact soft_partK | assumption | refine soft_bi ?_ ?_ | refine soft_om ?_ fun _ => ?_)

theorem soft_strCmp {f : AV → AV → Bool} : Soft2 (strCmpC f) := by
  intro a b H
  dsimp only [strCmpC]
  repeat (first | exact soft_fail | exact soft_val | exact soft_lenK | exact soft_knownK | exact soft_partK | assumption | refine soft_bi ?_ ?_ | refine soft_om ?_ fun _ => ?_)

theorem soft_aggEq {w : Bool} {g : Box (List AV → List AV → Option Bool)} : Soft2 (aggEqC w g) := by
  intro a b H
  dsimp only [aggEqC]
  repeat (first | exact soft_fail | exact soft_val | exact soft_lenK | exact soft_knownK | exact soft_partK | assumption | refine soft_bi ?_ ?_ | refine soft_om ?_ fun _ => ?_)

theorem soft_badB2  : Soft2 badB2 := by
  intro a b H
  dsimp only [badB2]
  repeat (first | exact soft_fail | exact soft_val | exact soft_lenK | exact soft_knownK | exact soft_partK | assumption | refine soft_bi ?_ ?_ | refine soft_om ?_ fun _ => ?_)

theorem soft2_om {α : Type} {o : Option α} {n : Box (AV → AV → Hp → Kont → RL)} {f : α → Box (AV → AV → Hp → Kont → RL)} (hn : Soft2 n) (hf : ∀ a, Soft2 (f a)) : Soft2 (om o n f) := by
  cases o with
  | none => exact hn
  | some a => exact hf a
theorem soft2_bi {b : Bool} {x y : Box (AV → AV → Hp → Kont → RL)} (hx : Soft2 x) (hy : Soft2 y) : Soft2 (bi b x y) := by cases b <;> assumption
theorem soft_sign {op : BinOp} {f : Box (AV → AV → Hp → Kont → RL)} (hf : Soft2 f) : Soft2 (signC op f) := by
  unfold signC
  split
  · intro a b H
    have := hf a b H
    dsimp only
    repeat (first | exact soft_fail | exact soft_val | exact soft_lenK | exact soft_knownK | exact soft_partK | assumption | refine soft_bi ?_ ?_ | refine soft_om ?_ fun _ => ?_)
  · intro a b H
    have := hf a b H
    dsimp only
    repeat (first | exact soft_fail | exact soft_val | exact soft_lenK | exact soft_knownK | exact soft_partK | assumption | refine soft_bi ?_ ?_ | refine soft_om ?_ fun _ => ?_)
  · intro a b H
    have := hf a b H
    dsimp only
    repeat (first | exact soft_fail | exact soft_val | exact soft_lenK | exact soft_knownK | exact soft_partK | assumption | refine soft_bi ?_ ?_ | refine soft_om ?_ fun _ => ?_)
  · exact hf
theorem soft_intC {op : BinOp} {c : Nat} {f : Box (AV → AV → Hp → Kont → RL)} (h : intC op c = some f) : Soft2 f := by
  unfold intC at h
  split at h <;> first | (cases h; first | exact soft_int2 | exact soft_int2z) | cases h
theorem soft_intOp {op : BinOp} {k : IntKind} : Soft2 (intOpC op k) := by
  unfold intOpC
  cases h : intC op (kCode k) with
  | none => exact soft_badB2
  | some f => exact soft2_bi (soft_sign (soft_intC h)) (soft_intC h)
theorem soft_strOp {op : BinOp} : Soft2 (strOpC op) := by
  unfold strOpC
  split <;> first | exact soft_strEq | exact soft_strCmp | exact soft_cat | exact soft_badB2
theorem soft_nilOp {op : BinOp} {n m : Nat} : Soft2 (nilOpC op n m) := by
  unfold nilOpC
  split <;> first | exact soft_nilEq | exact soft_badB2
theorem soft_boolOp {op : BinOp} : Soft2 (boolOpC op) := by
  unfold boolOpC
  split <;> first | exact soft_boolEq | exact soft_badB2
theorem soft_aggOp {op : BinOp} {t : TypeId} : Soft2 (aggOpC P op t) := by
  unfold aggOpC
  refine soft2_bi soft_badB2 (soft2_om soft_badB2 fun g => ?_)
  split <;> first | exact soft_aggEq | exact soft_badB2
theorem soft_plain {op : BinOp} {t : TypeId} : Soft2 (plainC P op t) := by
  unfold plainC
  split <;> first | exact soft_intOp | exact soft_strOp | exact soft_boolOp | exact soft_nilOp | exact soft_aggOp | exact soft_badB2 | exact soft_or2 soft_nilOp (by split <;> first | exact soft_nilEqY | exact soft_badB2)
theorem soft_shOp {l : Bool} {t ty : TypeId} : Soft2 (shOpC P l t ty) := by
  unfold shOpC
  split <;> first | exact soft_sh | exact soft_badB2
theorem soft_bin {op : BinOp} {t ty : TypeId} : Soft2 (binC P op t ty) := by
  unfold binC
  split <;> first | exact soft_shOp | exact soft_plain
theorem soft_un {op : UnOp} {t : TypeId} : Soft1 (unC P op t) := by
  unfold unC
  split <;> (intro a H; dsimp only; repeat (first | exact soft_fail | exact soft_val | exact soft_lenK | exact soft_knownK | exact soft_partK | assumption | refine soft_bi ?_ ?_ | refine soft_om ?_ fun _ => ?_))
theorem soft_b2s : Soft1 b2sC := by
  intro a H
  dsimp only [b2sC]
  repeat (first | exact soft_fail | exact soft_val | exact soft_lenK | exact soft_knownK | exact soft_partK | assumption | refine soft_bi ?_ ?_ | refine soft_om ?_ fun _ => ?_)
theorem soft1_bi {b : Bool} {x y : Box (AV → Hp → Kont → RL)} (hx : Soft1 x) (hy : Soft1 y) : Soft1 (bi b x y) := by cases b <;> assumption
theorem soft_conv {s t : TypeId} : Soft1 (convC P s t) := by
  unfold convC
  split <;> first | (refine soft1_bi soft_b2s ?_; intro a H; exact soft_fail) | (intro a H; dsimp only; repeat (first | exact soft_fail | exact soft_val | exact soft_lenK | exact soft_knownK | exact soft_partK | assumption | refine soft_bi ?_ ?_ | refine soft_om ?_ fun _ => ?_))

theorem soft_build {pl : List (Nat × Nat)} {z : List AV} : SoftN (buildC pl z) := by
  intro a H
  dsimp only [buildC]
  repeat (first | exact soft_fail | exact soft_val | exact soft_lenK | exact soft_knownK | exact soft_partK | assumption | refine soft_bi ?_ ?_ | refine soft_om ?_ fun _ => ?_)

theorem soft_cut {sz : Nat} {h : Bool} : Soft3 (cutC sz h) := by
  intro a b d H
  dsimp only [cutC]
  repeat (first | exact soft_fail | exact soft_val | exact soft_lenK | exact soft_knownK | exact soft_partK | assumption | refine soft_bi ?_ ?_ | refine soft_om ?_ fun _ => ?_)

theorem soft_cut3 {sz : Nat} : SoftN (cut3C sz) := by
  intro a H
  dsimp only [cut3C]
  repeat (first | exact soft_fail | exact soft_val | exact soft_lenK | exact soft_knownK | exact soft_partK | assumption | refine soft_bi ?_ ?_ | refine soft_om ?_ fun _ => ?_)

theorem soft_cutArr {n sz : Nat} {h : Bool} : Soft3 (cutArrC n sz h) := by
  intro a b d H
  dsimp only [cutArrC]
  repeat (first | exact soft_fail | exact soft_val | exact soft_lenK | exact soft_knownK | exact soft_partK | assumption | refine soft_bi ?_ ?_ | refine soft_om ?_ fun _ => ?_)

theorem soft_cutStr {h : Bool} : Soft3 (cutStrC h) := by
  intro a b d H
  dsimp only [cutStrC]
  repeat (first | exact soft_fail | exact soft_val | exact soft_lenK | exact soft_knownK | exact soft_partK | assumption | refine soft_bi ?_ ?_ | refine soft_om ?_ fun _ => ?_)

theorem soft_fieldAddr {off : Nat} : Soft1 (fieldAddrC off) := by
  intro a H
  dsimp only [fieldAddrC]
  repeat (first | exact soft_fail | exact soft_val | exact soft_lenK | exact soft_knownK | exact soft_partK | assumption | refine soft_bi ?_ ?_ | refine soft_om ?_ fun _ => ?_)

theorem soft_field {g : Bool} {off sz : Nat} : Soft1 (fieldC g off sz) := by
  intro a H
  dsimp only [fieldC]
  repeat (first | exact soft_fail | exact soft_val | exact soft_lenK | exact soft_knownK | exact soft_partK | assumption | refine soft_bi ?_ ?_ | refine soft_om ?_ fun _ => ?_)

theorem soft_ixSl {sz : Nat} : Soft2 (ixSlC sz) := by
  intro a b H
  dsimp only [ixSlC]
  repeat (first | exact soft_fail | exact soft_val | exact soft_lenK | exact soft_knownK | exact soft_partK | assumption | refine soft_bi ?_ ?_ | refine soft_om ?_ fun _ => ?_)

theorem soft_ixArr {n sz : Nat} : Soft2 (ixArrC n sz) := by
  intro a b H
  dsimp only [ixArrC]
  repeat (first | exact soft_fail | exact soft_val | exact soft_lenK | exact soft_knownK | exact soft_partK | assumption | refine soft_bi ?_ ?_ | refine soft_om ?_ fun _ => ?_)

theorem soft_ixAgg {g : Bool} {n sz : Nat} : Soft2 (ixAggC g n sz) := by
  intro a b H
  dsimp only [ixAggC]
  repeat (first | exact soft_fail | exact soft_val | exact soft_lenK | exact soft_knownK | exact soft_partK | assumption | refine soft_bi ?_ ?_ | refine soft_om ?_ fun _ => ?_)

theorem soft_ixStr  : Soft2 ixStrC := by
  intro a b H
  dsimp only [ixStrC]
  repeat (first | exact soft_fail | exact soft_val | exact soft_lenK | exact soft_knownK | exact soft_partK | assumption | refine soft_bi ?_ ?_ | refine soft_om ?_ fun _ => ?_)

theorem soft_look {kt : Nat} {z : AV} {ok : Bool} : Soft2 (lookC kt z ok) := by
  intro a b H
  dsimp only [lookC]
  repeat (first | exact soft_fail | exact soft_val | exact soft_lenK | exact soft_knownK | exact soft_partK | assumption | refine soft_bi ?_ ?_ | refine soft_om ?_ fun _ => ?_)

theorem soft_extract {i : Nat} : Soft1 (extractC i) := by
  intro a H
  dsimp only [extractC]
  repeat (first | exact soft_fail | exact soft_val | exact soft_lenK | exact soft_knownK | exact soft_partK | assumption | refine soft_bi ?_ ?_ | refine soft_om ?_ fun _ => ?_)

theorem soft_makeFunc {f n : Nat} : SoftN (makeFuncC f n) := by
  intro a H
  dsimp only [makeFuncC]
  repeat (first | exact soft_fail | exact soft_val | exact soft_lenK | exact soft_knownK | exact soft_partK | assumption | refine soft_bi ?_ ?_ | refine soft_om ?_ fun _ => ?_)

theorem soft_len {t : TypeId} : Soft1 (lenC P t) := by
  unfold lenC
  repeat' split
  all_goals first
    | (refine soft_or1 ?_ soft_lenY; intro a H; dsimp only; repeat (first | exact soft_fail | exact soft_val | exact soft_lenK | exact soft_knownK | exact soft_partK | assumption | refine soft_bi ?_ ?_ | refine soft_om ?_ fun _ => ?_))
    | (intro a H; dsimp only; repeat (first | exact soft_fail | exact soft_val | exact soft_lenK | exact soft_knownK | exact soft_partK | assumption | refine soft_bi ?_ ?_ | refine soft_om ?_ fun _ => ?_))
theorem soft_minmax {m : Bool} {c : Nat} : Soft2 (minmaxC m c) := soft_int2
theorem soft_min3 {c : Nat} : Soft3 (min3C c) := by
  intro a b d H
  rcases soft_minmax (m := false) (c := c) a b H with ⟨n, h⟩ | ⟨v, h⟩
  · exact .inl ⟨n, fun k => h (fun H v => (minmaxC false c).run v d H k)⟩
  · rcases soft_minmax (m := false) (c := c) v d H with ⟨n, h'⟩ | ⟨v', h'⟩
    · exact .inl ⟨n, fun k => (h (fun H v => (minmaxC false c).run v d H k)).trans (h' k)⟩
    · exact .inr ⟨v', fun k => (h (fun H v => (minmaxC false c).run v d H k)).trans (h' k)⟩
theorem soft1_mv {x : Operand} : SoftO P (.c1 x moveC) := softO_1 soft_move
theorem soft_sliceOp {t : TypeId} {x : Operand} {lo hi mx : Option Operand} : SoftO P (sliceOp P t x lo hi mx) := by
  unfold sliceOp
  repeat (first | exact softO_bad | exact softO_3 (soft_or3 soft_cut soft_cutY) | exact softO_N (soft_orN soft_cut3 soft_cut3Y) | exact softO_3 soft_cutStr | exact softO_3 soft_cutArr | refine softO_bi ?_ ?_ | refine softO_om ?_ fun _ => ?_ | split)
/-- what counts as looking only does so -/
theorem soft_op {o : Oper} (h : clsOf o = 0) : SoftO P (opOf P o) := by
  cases ho : o.op
  case slice t x lo hi mx => simp only [opOf, ho]; exact soft_sliceOp
  case call cl =>
    cases hc : cl.callee with
    | builtin b =>
      simp only [clsOf, ho, hc] at h
      simp only [opOf, ho, hc]
      unfold builtinOp
      split <;> first
        | ((repeat (first | exact softO_bad | exact softO_1 soft_len | exact softO_2 soft_minmax | exact softO_3 soft_min3 | refine softO_om ?_ fun _ => ?_ | split)); done)
        | (simp at h)
    | value f => simp only [clsOf, ho, hc] at h; cases h
    | invoke a b => simp only [clsOf, ho, hc] at h; cases h
  case move x => simp only [opOf, ho]; exact soft1_mv
  case pick => simp only [opOf, ho]; exact softO_3 soft_pick
  case load => simp only [opOf, ho]; exact softO_om softO_bad fun _ => softO_om softO_bad fun _ => softO_1 (soft_or1 (soft1_bi soft_loadA soft_load1) soft_loadY)
  case nilCheck => simp only [opOf, ho]; exact softO_1 (soft_or1 soft_nil soft_nilY)
  case binOp => simp only [opOf, ho]; exact softO_2 soft_bin
  case unOp => simp only [opOf, ho]; exact softO_1 soft_un
  case convert => simp only [opOf, ho]; exact softO_1 soft_conv
  case extract => simp only [opOf, ho]; exact softO_1 soft_extract
  case build =>
    simp only [opOf, ho]
    refine softO_om softO_bad fun z => ?_
    split
    · exact softO_om softO_bad fun _ => softO_om softO_bad fun _ => softO_N soft_build
    · exact softO_om softO_bad fun _ => softO_om softO_bad fun _ => softO_N soft_build
    · exact softO_bad
  case makeFunc =>
    simp only [opOf, ho]
    split
    · exact softO_N soft_makeFunc
    · exact softO_bad
  case fieldAddr =>
    simp only [opOf, ho]
    split
    · exact softO_om softO_bad fun _ => softO_om softO_bad fun _ => softO_bi softO_bad (softO_1 (soft_or1 soft_fieldAddr soft_fieldAddrY))
    · exact softO_bad
  case field =>
    simp only [opOf, ho]
    split
    · exact softO_om softO_bad fun _ => softO_om softO_bad fun _ => softO_om softO_bad fun _ => softO_1 soft_field
    · exact softO_bad
  case indexAddr =>
    simp only [opOf, ho]
    split
    · exact softO_om softO_bad fun _ => softO_2 (soft_or2 soft_ixSl soft_ixSlY)
    · exact softO_om softO_bad fun _ => softO_2 soft_ixArr
    · exact softO_bad
  case index =>
    simp only [opOf, ho]
    split
    · exact softO_2 soft_ixStr
    · exact softO_om softO_bad fun _ => softO_om softO_bad fun _ => softO_2 soft_ixAgg
    · exact softO_bad
  case lookup =>
    simp only [opOf, ho]
    split
    · exact softO_om softO_bad fun _ => softO_om softO_bad fun _ => softO_2 soft_look
    · exact softO_bad
  all_goals (simp only [clsOf, ho] at h; first | (cases h; done) | (split at h <;> cases h))
end Go.Eng
