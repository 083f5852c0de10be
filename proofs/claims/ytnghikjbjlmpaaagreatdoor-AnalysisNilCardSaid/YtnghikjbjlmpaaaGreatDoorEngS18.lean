/- A part of the proof that the evaluator in EngC answers as the model does; no conditions. -/
import Derived.Test.YtnghikjbjlmpaaaGreatDoorEngS17
namespace Go.Eng
open Go.RowKit
variable {P : Program} {w0 : World} {H : Hp} {φ : Ph} {c : Kont} {w : World}

/-! ### frames -/
structure TR (φ : Ph) (N : Nat) (T : Fr) (a : Act) : Prop where
  size : N ≤ a.tmps.size
  val : ∀ t, VR φ ((getB t).run T) (a.tmps.getD t undef)
  defers : a.defers = []
theorem TR.mono {φ' : Ph} {N : Nat} {T : Fr} {a : Act} (h : TR φ N T a) (hle : Le φ φ') : TR φ' N T a := ⟨h.size, fun t => (h.val t).mono hle, h.defers⟩
theorem TR.put {N d : Nat} {T : Fr} {a : Act} {v : AV} {val : Value} (h : TR φ N T a) (hd : d < N) (hv : VR φ v val) : TR φ N ((setB d).run T v) (a.put (some d) val) := by
  have hs := h.size
  refine ⟨by simpa [Act.put] using h.size, ?_, h.defers⟩
  intro t
  rw [getB_setB]
  by_cases ht : d = t
  · subst ht
    have : (a.put (some d) val).tmps.getD d undef = val := by
      have : d < a.tmps.size := by omega
      simp [Act.put, Array.getD, this]
    rw [this]
    by_cases h5 : d < 512
    · rw [if_pos ⟨rfl, h5⟩]; exact hv
    · rw [if_neg (fun h => h5 h.2), getB_big (by omega)]; exact .unk _ _ _ _ _ _
  · rw [if_neg (fun h => ht h.1)]
    have : (a.put (some d) val).tmps.getD t undef = a.tmps.getD t undef := by
      have e : ∀ (x : Array Value), x.getD t undef = (x[t]?).getD undef := fun x => by simp
      show (a.tmps.setIfInBounds d val).getD t undef = _
      rw [e, e, Array.getElem?_setIfInBounds_ne ht]
    rw [this]; exact h.val t
theorem TR.eval {N : Nat} {T : Fr} {a : Act} (h : TR φ N T a) (x : Operand) : VR φ ((getO x).run T) (a.eval x) := by
  cases x with
  | tmp t => exact h.val t
  | const v => exact (av_ok v).1
  | global g => exact .unk _ _ _ _ _ _
  | func f => exact .fn f 0 0 0 [] [] [] .nil rfl
end Go.Eng
