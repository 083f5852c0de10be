/- A part of the proof that the evaluator in GnC, and the driver in GnZ, answer as the model does; no conditions. -/
import Derived.Test.YtfbgcggkgelaaaaGreatDoorGnS17
namespace Go.Eng
open Go.RowKit
variable {P : Program} {w0 : World} {H : Hp} {φ : Ph} {c : Kont} {w : World}

/-! ### frames -/
/-- the marks among the deferred calls -/
def DM (φ : Ph) : List AV → List Deferred → Prop
  | [], ds => ds = []
  | m :: ms, ds => ∃ r ds', ds = { target := .collected r, args := #[] } :: ds' ∧ φ m.p = some r ∧ DM φ ms ds'
theorem DM.mono {φ φ' : Ph} (hφ : Le φ φ') {ms : List AV} : ∀ {ds : List Deferred}, DM φ ms ds → DM φ' ms ds := by
  induction ms with
  | nil => exact fun h => h
  | cons m ms ih =>
    intro ds h
    obtain ⟨r, ds', h1, h2, h3⟩ := h
    exact ⟨r, ds', h1, (hφ _ _ h2).1, ih h3⟩
structure TR (P : Program) (φ : Ph) (N : Nat) (T : Fr) (a : Act) : Prop where
  size : N ≤ a.tmps.size
  val : ∀ t, VR φ ((getB t).run T) (a.tmps.getD t undef)
  defers : DM φ (marksT T) a.defers
  gl : GL P φ
theorem TR.mono {φ' : Ph} {N : Nat} {T : Fr} {a : Act} (h : TR P φ N T a) (hle : Le φ φ') : TR P φ' N T a := ⟨h.size, fun t => (h.val t).mono hle, h.defers.mono hle, h.gl.mono hle⟩
theorem TR.put {N d : Nat} {T : Fr} {a : Act} {v : AV} {val : Value} (h : TR P φ N T a) (hd : d < N) (hv : VR φ v val) : TR P φ N ((setB d).run T v) (a.put (some d) val) := by
  have hs := h.size
  refine ⟨by simpa [Act.put] using h.size, ?_, by rw [marksT_setB]; exact h.defers, h.gl⟩
  intro t
  rw [getB_setB]
  by_cases ht : d = t
  · subst ht
    have : (a.put (some d) val).tmps.getD d undef = val := by
      have : d < a.tmps.size := by omega
      simp [Act.put, Array.getD, this]
    rw [this]
    by_cases h5 : d < 511
    · rw [if_pos ⟨rfl, h5⟩]; exact hv
    · rw [if_neg (fun h => h5 h.2), getB_big (by omega)]; exact .unk _ _ _ _ _ _
  · rw [if_neg (fun h => ht h.1)]
    have : (a.put (some d) val).tmps.getD t undef = a.tmps.getD t undef := by
      have e : ∀ (x : Array Value), x.getD t undef = (x[t]?).getD undef := fun x => by simp
      show (a.tmps.setIfInBounds d val).getD t undef = _
      rw [e, e, Array.getElem?_setIfInBounds_ne ht]
    rw [this]; exact h.val t
theorem getO_gcongr {g : Nat} {T T' : Fr} : (getO P (.global g)).run T = (getO P (.global g)).run T' := by
  show (bi (nble (Nat.succ g) P.globals.size) (⟨fun _ => ptrV g 0⟩ : Box (Fr → AV)) ⟨fun _ => unkV⟩).run T = (bi (nble (Nat.succ g) P.globals.size) (⟨fun _ => ptrV g 0⟩ : Box (Fr → AV)) ⟨fun _ => unkV⟩).run T'
  cases nble (Nat.succ g) P.globals.size <;> rfl
theorem vr_global {g : Nat} {T : Fr} {a : Act} (h : GL P φ) : VR φ ((getO P (.global g)).run T) (a.eval (.global g)) := by
  show VR φ ((bi (nble (Nat.succ g) P.globals.size) (⟨fun _ => ptrV g 0⟩ : Box (Fr → AV)) ⟨fun _ => unkV⟩).run T) _
  cases hb : nble (Nat.succ g) P.globals.size
  · exact .unk _ _ _ _ _ _
  · exact .ptr _ _ _ _ _ _ (h g (ble_true.1 hb))
theorem TR.eval {N : Nat} {T : Fr} {a : Act} (h : TR P φ N T a) (x : Operand) : VR φ ((getO P x).run T) (a.eval x) := by
  cases x with
  | tmp t => exact h.val t
  | const v => exact (av_ok v).1
  | global g => exact vr_global h.gl
  | func f => exact .fn f 0 0 0 [] [] [] .nil rfl
end Go.Eng
