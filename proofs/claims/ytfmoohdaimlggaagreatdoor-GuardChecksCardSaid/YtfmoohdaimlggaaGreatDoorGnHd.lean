/- A part of the proof that the evaluator in GnC, and the driver in GnZ, answer as the model does; no conditions. -/
import Derived.Test.YtfmoohdaimlggaaGreatDoorGnHc
namespace Go.Eng
open Go.RowKit Go.Proofs
noncomputable section
def cutW(x:Nat × Nat):Nat × Nat:=(x.1,cutN x.1 x.2)
def zyT(o:Nat):Bool:=decide (24≤o∧o≤26)
end
end Go.Eng
namespace Go.Eng
open Go.RowKit Go.Proofs
set_option maxRecDepth 4000
theorem zd0{n:Nat}{L:Nat→Nat→RL}{A:Nat→RL}(hend:∀ k,L (k+1) n=A n)(hstep:∀ k i,i<n→L k (i+1)=A (i+1)→L (k+1) i=A i):∀ k i,i+k=n→L (k+1) i=A i:=by
  intro k
  induction k with
  | zero=>intro i hi;rw[show i=n by omega];exact hend 0
  | succ k ih=>intro i hi;exact hstep _ _ (by omega) (ih (i+1) (by omega))
noncomputable def zvh(o w v:Nat)(ws:List (Nat × Nat)):Nat × Nat:=if (wdP o w v (ws.map Prod.fst)).2 ≠ 0 then (0,(wdP o w v (ws.map Prod.fst)).2) else if o=1 ∨ zyT o=true then (0,4)
  else if (wdP o w v (ws.map Prod.fst)).1=0 ∨ 0 ∈ ws.map Prod.fst then (0,3) else (zyS o (wdP o w v (ws.map Prod.fst)).1 v (ws.map cutW),0)
end Go.Eng
namespace Go.Eng
open Go.RowKit Go.Proofs
set_option maxRecDepth 4000
end Go.Eng
namespace Go.Eng
open Go.RowKit Go.Proofs
set_option maxRecDepth 4000
end Go.Eng
