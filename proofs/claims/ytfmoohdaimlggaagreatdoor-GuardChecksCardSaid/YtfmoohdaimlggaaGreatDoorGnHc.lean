/- A part of the proof that the evaluator in GnC, and the driver in GnZ, answer as the model does; no conditions. -/
import Derived.Test.YtfmoohdaimlggaaGreatDoorGnHb
import Derived.Test.YtfmoohdaimlggaaGreatDoorGnKa
namespace Go.Eng
open Go.RowKit Go.Proofs
end Go.Eng
namespace Go.Eng
open Go.RowKit Go.Proofs
noncomputable section
end
end Go.Eng
namespace Go.Eng
open Go.RowKit Go.Proofs
end Go.Eng
namespace Go.Eng
open Go.RowKit Go.Proofs
set_option maxRecDepth 4000
noncomputable def zyR(o r v w y:Nat):Nat:=if o=3 then zyJ w y else if o=4 then zyK w y else if o=21 then zyO v r y else if o=23 then zyP w r y else y
noncomputable def zyS(o r v:Nat):List (Nat × Nat)→Nat
  | []=>v
  | [x]=>zyR o r v x.1 x.2
  | [x,y]=>if o=20 then zyN x.1 y.1 x.2 y.2 else zyQ o x.1 x.2 y.2
  | [x,y,z]=>if x.2=1 then y.2 else z.2
  | _=>0
end Go.Eng
