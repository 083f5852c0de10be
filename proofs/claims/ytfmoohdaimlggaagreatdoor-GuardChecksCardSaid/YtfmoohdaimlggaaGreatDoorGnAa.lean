/- A part of the proof that the evaluator in GnC, and the driver in GnZ, answer as the model does; no conditions. -/
import Derived.Test.YtfmoohdaimlggaaGreatDoorGnHa
namespace Go.Eng
def btN(x i:Nat):Nat:=x / 2 ^ i % 2
end Go.Eng
namespace Go.Eng
def sgN(w x:Nat):Nat:=if 2 ^ (w - 1)≤x % 2 ^ w then x % 2 ^ w+(2 ^ 64 - 2 ^ w) else x % 2 ^ w
def sarN(x n:Nat):Nat:=if 2 ^ 63≤x then 2 ^ 64 - 1 - (2 ^ 64 - 1 - x) / 2 ^ n else x / 2 ^ n
end Go.Eng
namespace Go.Eng
noncomputable section
def zaR(a b:Nat):Nat:=gt2 (fun a b=>(a.add b).mod (kMod (zap IntKind.i64))) a b
def zfH(a b:Nat):Nat:=gt2 (fun a b=>((a.add (kMod (zap IntKind.i64))).sub b).mod (kMod (zap IntKind.i64))) a b
end
theorem km3:kMod (zap IntKind.i64)=2 ^ 64:=by decide +kernel
theorem kh3':zbj 3=2 ^ 63:=by decide +kernel
theorem zif(a b:Nat):zaR a b=(a+b) % 2 ^ 64:=by rw[zaR,zbD,km3];rfl
theorem zrf(a b:Nat):zfH a b=(a+2 ^ 64 - b) % 2 ^ 64:=by rw[zfH,zbD,km3];rfl
theorem zcf{i:Nat}(h:i<2 ^ 63):zaR i 1=i+1:=by rw[zif];omega
theorem zo0{a b:Nat}(h:b≤a)(ha:a<2 ^ 64):zfH a b=a - b:=by rw[zrf];omega
theorem zo1{a b:Nat}(h:a+b<2 ^ 64):zaR a b=a+b:=by rw[zif];omega
end Go.Eng
