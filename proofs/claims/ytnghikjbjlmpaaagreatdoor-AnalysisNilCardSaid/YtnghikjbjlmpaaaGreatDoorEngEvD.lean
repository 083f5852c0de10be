/- A part of the proof that the evaluator in EngC answers as the model does; no conditions. -/
import Derived.Test.YtnghikjbjlmpaaaGreatDoorEngLay2
namespace Go.Eng
open Go.RowKit Go.Proofs
/-- slices.Sorted is answered by its contract -/
noncomputable def nt20 (f : Nat) : Option Native := bi (Nat.beq f 21) (some (sortedN 51)) none
/-- maps.Equal and hashcons.Table.Nodes give one result whatever order their walks take -/
noncomputable def mg20 (f : Nat) : Bool := bi (Nat.beq f 20) true (Nat.beq f 41)
noncomputable def isTrueR (l : List CRes) : Bool := List.rec (motive := fun _ => Bool) true (fun c _ ih => bi (Nat.beq c.ok 1) (bi (Nat.beq c.v.tag 8) (bi (Nat.beq c.v.p 1) ih false) false) false) l
theorem isTrueR_mem {l : List CRes} (h : isTrueR l = true) : ∀ c ∈ l, c.ok = 1 ∧ c.v.tag = 8 ∧ c.v.p = 1 := by
  induction l with
  | nil => intro c hc; cases hc
  | cons x l ih =>
    have h' : bi (Nat.beq x.ok 1) (bi (Nat.beq x.v.tag 8) (bi (Nat.beq x.v.p 1) (isTrueR l) false) false) false = true := h
    obtain ⟨h1, h'⟩ := bi_and.1 h'
    obtain ⟨h2, h'⟩ := bi_and.1 h'
    obtain ⟨h3, h'⟩ := bi_and.1 h'
    intro c hc
    cases hc with
    | head => exact ⟨beq_true.1 h1, beq_true.1 h2, beq_true.1 h3⟩
    | tail _ hc => exact ih h' c hc
theorem nt20_ok : NatOk Tryz.prog nt20 := by
  intro f g h
  unfold nt20 at h
  cases hf : Nat.beq f 21
  · rw [hf] at h; cases h
  · rw [hf] at h
    cases h
    rw [beq_true.1 hf]
    exact sortedN_ok Tryz.underlying3 sorted_says sorted_says_nil
theorem noGor : NoGor Tryz.prog := by
  have h : (Tryz.prog.funcs.all fun fn => !(fn.name == "runtime.NumGoroutine")) = true := by kernel_rfl
  intro f fn hf
  have := Array.all_eq_true_iff_forall_mem.1 h fn (Array.mem_of_getElem? hf)
  simpa using this
theorem HR.start (w : World) : HR w noH ⟨fun _ => none, fun _ => 0⟩ w := ⟨fun b x h => (by cases h), fun b b' x h => (by cases h), Nat.zero_le _, Nat.le_refl _, Below.refl _ _⟩
/-- a call of function f, evaluated to true -/
theorem calls_of_eval {f n : Nat} {xs : List AV} {vals : List Value} (hv : ∀ φ, VRs φ xs vals) (h : isTrueR (evN Tryz.prog nt20 mg20 n (mk1 13 f) xs noH) = true) (W : World) :
    Calls Tryz.prog f vals.toArray W fun e W' => e = .returned (.bool true) ∧ Below W.heap.size W W' := by
  have hm := isTrueR_mem h
  have hrec : RecOk Tryz.prog (evN Tryz.prog nt20 mg20 n) := evN_ok keysA.mixed nt20_ok noGor n
  obtain ⟨f', first, cap, fn, e1, _, _, _, hc⟩ := hrec W noH ⟨fun _ => none, fun _ => 0⟩ W (mk1 13 f) (.func (.func f) #[] #[]) xs vals (.fn f 0 0 0 [] [] [] .nil rfl) (hv _) (HR.start W) (fun c hc => (hm c hc).1)
  injection e1 with e1 e2 e3
  injection e1 with e1
  subst e1 e2 e3
  have hc' : Calls Tryz.prog f vals.toArray W (CallPost W (evN Tryz.prog nt20 mg20 n (mk1 13 f) xs noH) noH ⟨fun _ => none, fun _ => 0⟩) := by simpa using hc
  refine Calls.mono hc' fun e w' he => ?_
  cases e with
  | returned v =>
    obtain ⟨c, hcm, φ', g1, g2, _⟩ := he
    obtain ⟨_, h2, h3⟩ := hm c hcm
    obtain ⟨b, rfl, hp, _⟩ := g1.of_bool h2
    rw [h3] at hp
    cases b
    · cases hp
    · exact ⟨rfl, g2.below⟩
  | panicked ch => exact he.elim
  | outgrown => exact he.elim
end Go.Eng
