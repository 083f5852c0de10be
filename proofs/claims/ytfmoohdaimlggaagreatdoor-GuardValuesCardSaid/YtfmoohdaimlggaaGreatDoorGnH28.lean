
/- A part of the proof that the evaluator in GnC, and the driver in GnZ, answer as the model does; no conditions. -/
import Derived.Test.YtfmoohdaimlggaaGreatDoorGnLd
import Derived.Test.YtfmoohdaimlggaaGreatDoorGnHa
import Derived.Test.YtfmoohdaimlggaaGreatDoorGnX
import Derived.Test.YtfmoohdaimlggaaGreatDoorRows
namespace Go.Eng
open Go.RowKit Go.Proofs Go.Proofs.YtfmoohdaimlggaaGreatDoor
noncomputable section
def cellsD (d : DataW Unit) : List AV := (dav 4 d).getD []
def LA : List (Nat × List AV) := [(2, cellsD Rows.laid_math_bits_deBruijn32tab), (3, cellsD Rows.laid_math_bits_deBruijn64tab), (1, cellsD Rows.laid_internal_strconv_uint64pow10)]
def mgA (f : Nat) : Bool := bi (nbeq f 116) true (nbeq f 175)
end
theorem eval_lives : isTrueR (evN Tryz.prog (ntL [(1310, add64N)]) mgA 3000 (mk1 13 6) [] (globH Tryz.prog LA)) = true := by kernel_rfl
end Go.Eng
