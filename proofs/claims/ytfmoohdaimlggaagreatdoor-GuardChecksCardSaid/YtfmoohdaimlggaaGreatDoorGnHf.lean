/- A part of the proof that the evaluator in GnC, and the driver in GnZ, answer as the model does; no conditions. -/
import Derived.Test.YtfmoohdaimlggaaGreatDoorGnHe
namespace Go.Eng
open Go.RowKit Go.Proofs
set_option maxRecDepth 4000
abbrev Bd:=Nat × Nat × Nat
end Go.Eng
namespace Go.Eng
open Go.RowKit Go.Proofs
set_option maxRecDepth 4000
noncomputable def fewB(l:List Bd):Bool:=decide (l.length≤20∧∀ x ∈ l,x.1≤100)
structure F64(w z o l h:Nat):Prop where
  w1:1≤w
  w2:w≤64
  fz:z<2 ^ 64
  fo:o<2 ^ 64
  fl:l<2 ^ 64
  fh:h<2 ^ 64
  zm:z≤zeb w
theorem F64.w{w z o l h:Nat}(f:F64 w z o l h):w<2 ^ 64:=by have:=f.w2;omega
end Go.Eng
namespace Go.Eng
open Go.RowKit Go.Proofs
end Go.Eng
