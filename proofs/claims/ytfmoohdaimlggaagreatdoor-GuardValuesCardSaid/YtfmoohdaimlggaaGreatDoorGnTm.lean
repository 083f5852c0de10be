
/- A part of the proof that the evaluator in GnC, and the driver in GnZ, answer as the model does; no conditions. -/
import Derived.Test.YtfmoohdaimlggaaGreatDoorGnLd
import Derived.Test.YtfmoohdaimlggaaGreatDoorGnRe
namespace Go.Eng
open Go.RowKit
/-! terms of the program, as values that are not known -/
/-- operator, width, constant, name (length, word), whether the list of operands is there, operands -/
inductive Tm where
  | mk (op w v nq np p : Nat) (as : List Tm)
theorem Tm.ind {Q : Tm → Prop} (h : ∀ op w v nq np p as, (∀ t ∈ as, Q t) → Q (.mk op w v nq np p as)) : ∀ t, Q t := fun t =>
  Tm.rec (motive_1 := Q) (motive_2 := fun l => ∀ t ∈ l, Q t) (fun op w v nq np p as ih => h op w v nq np p as ih) (fun t ht => by cases ht) (fun a l ha hl t ht => by
    rcases List.mem_cons.1 ht with rfl | ht
    · exact ha
    · exact hl t ht) t
noncomputable section
def stA (q x : Nat) : AV := ⟨9, x, q, 0, 0, []⟩
def tmV (op w v nq np p : Nat) (as : List AV) : AV := aggV [i64 op, i64 w, u64 v, stA nq np, slP p 5 as]
def tmA (t : Tm) : AV := Tm.rec (motive_1 := fun _ => AV) (motive_2 := fun _ => List AV) (fun op w v nq np p _ ih => tmV op w v nq np p ih) [] (fun _ _ a l => a :: l) t
end
theorem tmA_mk (op w v nq np p : Nat) (as : List Tm) : tmA (.mk op w v nq np p as) = tmV op w v nq np p (as.map tmA) := by
  have key : ∀ l : List Tm, (Tm.rec_1 (motive_1 := fun _ => AV) (motive_2 := fun _ => List AV) (fun op w v nq np p _ ih => tmV op w v nq np p ih) [] (fun _ _ a l => a :: l) l : List AV) = l.map tmA := by
    intro l
    induction l with
    | nil => rfl
    | cons a l ih => show tmA a :: _ = _; rw [ih]; rfl
  show tmV op w v nq np p _ = _
  rw [key]
def Tm.op : Tm → Nat | .mk op _ _ _ _ _ _ => op
def Tm.w : Tm → Nat | .mk _ w _ _ _ _ _ => w
def Tm.as : Tm → List Tm | .mk _ _ _ _ _ _ as => as
/-- every node of it -/
inductive Tm.All (Q : Nat → Nat → Nat → Nat → Nat → Nat → List Tm → Prop) : Tm → Prop
  | mk {op w v nq np p : Nat} {as : List Tm} : Q op w v nq np p as → (∀ t ∈ as, Tm.All Q t) → Tm.All Q (.mk op w v nq np p as)
/-- in range -/
def Tm.Q0 (op w v nq _ p : Nat) (as : List Tm) : Prop := op < 2 ^ 64 ∧ w < 2 ^ 64 ∧ v < 2 ^ 64 ∧ p ≤ 1 ∧ (p = 0 → as = []) ∧ as.length ≤ reachBytes
def Tm.ok (t : Tm) : Prop := t.All Tm.Q0
theorem tmA_inj : ∀ a b : Tm, tmA a = tmA b → a = b := by
  intro a
  induction a using Tm.ind with
  | h op w v nq np p as ih =>
    intro b h
    obtain ⟨op', w', v', nq', np', p', as'⟩ := b
    rw [tmA_mk, tmA_mk] at h
    unfold tmV aggV i64 u64 stA slP at h
    simp only [AV.mk.injEq, List.cons.injEq, true_and, and_true] at h
    obtain ⟨h1, h2, h3, ⟨h5, h4⟩, h6, h7⟩ := h
    have hl : as = as' := by
      have key : ∀ l l' : List Tm, (∀ t ∈ l, ∀ b, tmA t = tmA b → t = b) → l.map tmA = l'.map tmA → l = l' := by
        intro l
        induction l with
        | nil => intro l' _ h; cases l' with
          | nil => rfl
          | cons _ _ => cases h
        | cons a l ihl =>
          intro l' hi h
          cases l' with
          | nil => cases h
          | cons b l' =>
            simp only [List.map_cons, List.cons.injEq] at h
            rw [hi a (by simp) b h.1, ihl l' (fun t ht => hi t (by simp [ht])) h.2]
      exact key as as' ih h7
    subst h1 h2 h3 h4 h5 h6 hl
    rfl
def Tm.v : Tm → Nat | .mk _ _ v _ _ _ _ => v
def Tm.nq : Tm → Nat | .mk _ _ _ nq _ _ _ => nq
def Tm.np : Tm → Nat | .mk _ _ _ _ np _ _ => np
def Tm.p : Tm → Nat | .mk _ _ _ _ _ p _ => p
noncomputable section
open Classical in
/-- the term that a value stands for -/
def unTm (a : AV) : Tm := if h : ∃ t, tmA t = a then h.choose else .mk 0 0 0 0 0 0 []
def tmE (t : Tm) : AV := tmV t.op t.w t.v t.nq t.np t.p (t.as.map tmA)
end
theorem tmE_eq (t : Tm) : tmE t = tmA t := by
  cases t; rw [tmA_mk]; rfl
theorem unTm_A (t : Tm) : unTm (tmA t) = t := by
  unfold unTm
  have h : ∃ t', tmA t' = tmA t := ⟨t, rfl⟩
  rw [dif_pos h]
  exact tmA_inj _ _ h.choose_spec
end Go.Eng
