/- A part of the proof that the evaluator in EngC answers as the model does; no conditions. -/
import Derived.Test.YtnghikjbjlmpaaaGreatDoorEngEvD
namespace Go.Eng
open Go.Proofs
theorem eval_neg : isTrueR (evN Tryz.prog nt20 mg20 3000 (mk1 13 3) [mk1 21 0, mk1 18 0] noH) = true := by kernel_rfl
end Go.Eng
