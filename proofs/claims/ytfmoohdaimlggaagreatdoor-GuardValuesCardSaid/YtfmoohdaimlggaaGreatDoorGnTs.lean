
/- A part of the proof that the evaluator in GnC, and the driver in GnZ, answer as the model does; no conditions. -/
import Derived.Test.YtfmoohdaimlggaaGreatDoorGnTm
namespace Go.Eng
open Go.RowKit
/-! what the functions on terms compute -/
mutual
def eqT : Tm → Tm → Bool
  | .mk op w v nq np _ as, .mk op' w' v' nq' np' _ bs => (decide (op = op') && decide (w = w') && decide (v = v') && (decide (nq = nq') && decide (np = np'))) && eqTs as bs
def eqTs : List Tm → List Tm → Bool
  | [], [] => true
  | a :: as, b :: bs => eqT a b && eqTs as bs
  | _, _ => false
end
mutual
def cpT : Tm → Tm
  | .mk op w v nq np _ as => .mk op w v nq np (if as.length = 0 then 0 else 1) (cpTs as)
def cpTs : List Tm → List Tm
  | [] => []
  | a :: as => cpT a :: cpTs as
end
/- how many of n nodes are left, of d levels -/
mutual
def cnt : Tm → Nat → Nat → Option Nat
  | .mk _ _ _ _ _ _ as, d, n => if d = 0 ∨ n = 0 then none else cnts as (d - 1) (n - 1)
def cnts : List Tm → Nat → Nat → Option Nat
  | [], _, n => some n
  | a :: as, d, n => match cnt a d n with | none => none | some k => cnts as d k
end
end Go.Eng
