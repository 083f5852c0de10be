/- A part of the proof that the evaluator in GnC, and the driver in GnZ, answer as the model does; no conditions. -/
import Derived.Test.YtfmoohdaimlggaaGreatDoorGnHa
import Derived.Test.YtfmoohdaimlggaaGreatDoorGnAa
namespace Go.Eng
open Go.RowKit Go.Proofs
noncomputable section
def zin(w x:Nat):Nat:=sgN (zey w) x
def zy9(w x:Nat):Bool:=decide (2 ^ 63≤zin w x)
def zyA(w a b:Nat):Nat:=if zey w≤cutN w b then 0 else cutN w (cutN w a * 2 ^ cutN w b)
def zrB(w a b:Nat):Nat:=if zey w≤cutN w b then 0 else cutN w a / 2 ^ cutN w b
def zyB(w a b:Nat):Nat:=if zy9 w a=true then (if zey w≤cutN w b then zeb w else cutN w (sarN (zin w a) (cutN w b))) else zrB w a b
def zyC(w a b:Nat):Nat:=if cutN w b=0 then zeb w else cutN w a / cutN w b
def zyD(w a b:Nat):Nat:=if cutN w b=0 then cutN w a else cutN w a % cutN w b
def zyE(w a b:Nat):Nat:=cutN w (a &&& b)
def z1I(w a b:Nat):Nat:=cutN w (a ||| b)
def zyF(w a b:Nat):Nat:=cutN w (a ^^^ b)
def zyG(w a b:Nat):Nat:=cutN w (a+b)
def zyH(w a b:Nat):Nat:=cutN w (a+2 ^ 64 - b)
def zyI(w a b:Nat):Nat:=cutN w (a * b)
def zyJ(w a:Nat):Nat:=cutN w (2 ^ 64 - 1 - a)
def zyK(w a:Nat):Nat:=cutN w (2 ^ 64 - a)
def z1J(w a b:Nat):Nat:=if cutN w a=cutN w b then 1 else 0
def zyL(w a b:Nat):Nat:=if cutN w a<cutN w b then 1 else 0
def zyM(w a b:Nat):Nat:=if (zin w a+2 ^ 63) % 2 ^ 64<(zin w b+2 ^ 63) % 2 ^ 64 then 1 else 0
def zyN(wa wb a b:Nat):Nat:=(cutN wa a * 2 ^ zey wb % 2 ^ 64) ||| cutN wb b
def zyO(low w x:Nat):Nat:=if low<64 then cutN w (x / 2 ^ low) else 0
def zyP(w n x:Nat):Nat:=cutN n (zin w x)
def zyQ(o w a b:Nat):Nat:=if o=5 then zyE w a b else if o=6 then z1I w a b else if o=7 then zyF w a b else if o=8 then zyG w a b else if o=9 then zyH w a b else if o=10 then zyI w a b
  else if o=11 then zyC w a b else if o=12 then zyD w a b else if o=13 then zyA w a b else if o=14 then zrB w a b else if o=15 then zyB w a b else if o=16 then z1J w a b else if o=17 then zyL w a b else zyM w a b
def n2(k:Nat)(f:Nat→Nat→Nat):Nat × Native:=(k,natP Tryz.prog k [3,23] fun l=>u64 (f (nthL l 0).p (nthL l 1).p))
def n3(k:Nat)(f:Nat→Nat→Nat→Nat):Nat × Native:=(k,natP Tryz.prog k [3,23,23] fun l=>u64 (f (nthL l 0).p (nthL l 1).p (nthL l 2).p))
end
end Go.Eng
namespace Go.Eng
open Go.RowKit Go.Proofs
noncomputable section
end
end Go.Eng
namespace Go.Eng
open Go.RowKit Go.Proofs
end Go.Eng
namespace Go.Eng
open Go.RowKit Go.Proofs
theorem ctr{α:Type}{n i:Nat}(hn:n<2 ^ 63)(hi:i<2 ^ 63)(X Y:α):bi (nbeq (bi (nb (nble (biased 3 n) (biased 3 i))) 1 0) 1) X Y=if i<n then X else Y:=by
  rw[zao,zbC hn hi]
  by_cases h:n≤i
  · rw[decide_eq_true h,if_neg (by omega)];rfl
  · rw[decide_eq_false h,if_pos (by omega)];rfl
def prW(t:Nat):Nat:=if t=0 then 2 ^ 64 - 1 else t - 1
theorem down{α:Type}{t:Nat}(h:t<2 ^ 62)(X Y:α):bi (nbeq (bi (nble 9223372036854775808 (biased 3 (prW t))) 1 0) 1) X Y=if t=0 then Y else X:=by
  rw[zao,zej]
  unfold prW
  by_cases h0:t=0
  · rw[if_pos h0,if_pos h0,zfi (by omega)];rfl
  · rw[if_neg h0,if_neg h0,zbh (by omega)];rfl
end Go.Eng
