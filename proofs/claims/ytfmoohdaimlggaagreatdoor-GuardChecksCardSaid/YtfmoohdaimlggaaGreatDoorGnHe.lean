/- A part of the proof that the evaluator in GnC, and the driver in GnZ, answer as the model does; no conditions. -/
import Derived.Test.YtfmoohdaimlggaaGreatDoorGnHd
namespace Go.Eng
open Go.RowKit Go.Proofs
noncomputable section
def zpF(w z o:Nat):Bool:=decide (z &&& o=0∧z≤zeb w∧o≤zeb w)
def zpG(w l h:Nat):Bool:=decide (l≤h∧h≤zeb w)
def zvi(w z o:Nat):Nat:=bi (zpF w z o) z 0
def zvj(w z o:Nat):Nat:=bi (zpF w z o) o 0
def zvk(w l h:Nat):Nat:=bi (zpG w l h) l 0
def zvl(w l h:Nat):Nat:=bi (zpG w l h) h (zeb w)
def mlo(w a b c d:Nat):Nat:=max (zvk w a b) (zvk w c d)
def mhi(w a b c d:Nat):Nat:=min (zvl w a b) (zvl w c d)
def zpH(w a b c d:Nat):Bool:=decide (mlo w a b c d≤mhi w a b c d)
def z1K(w a b c d:Nat):Nat:=bi (zpH w a b c d) (mlo w a b c d) 0
def z1L(w a b c d:Nat):Nat:=bi (zpH w a b c d) (mhi w a b c d) (zeb w)
def nz(w a b c d:Nat):Nat:=zvi w a b ||| zvi w c d
def no(w a b c d:Nat):Nat:=zvj w a b ||| zvj w c d
def zpI(w a b c d:Nat):Bool:=decide (nz w a b c d &&& no w a b c d=0)
def z1M(w a b c d:Nat):Nat:=bi (zpI w a b c d) (nz w a b c d) 0
def z1N(w a b c d:Nat):Nat:=bi (zpI w a b c d) (no w a b c d) 0
def preA(l h:Nat):Nat→Nat × Nat→Nat × Nat
  | 0,x=>x
  | t+1,x=>if btN l t=btN h t then preA l h t (if btN l t=1 then (x.1,x.2 ||| 2 ^ t) else (x.1 ||| 2 ^ t,x.2)) else x
def zpJ(w l h:Nat):Nat:=(preA l h w (0,0)).1
def zpK(w l h:Nat):Nat:=(preA l h w (0,0)).2
def zh7(w z o l h:Nat):Nat:=z1K w l h o (zeb w - z)
def zh8(w z o l h:Nat):Nat:=z1L w l h o (zeb w - z)
def zki(w z o l h:Nat):Bool:=zpH w l h o (zeb w - z)
def sz(w z o l h:Nat):Nat:=z1M w z o (zpJ w (zh7 w z o l h) (zh8 w z o l h)) (zpK w (zh7 w z o l h) (zh8 w z o l h))
def so(w z o l h:Nat):Nat:=z1N w z o (zpJ w (zh7 w z o l h) (zh8 w z o l h)) (zpK w (zh7 w z o l h) (zh8 w z o l h))
def sb(w z o l h:Nat):Bool:=zpI w z o (zpJ w (zh7 w z o l h) (zh8 w z o l h)) (zpK w (zh7 w z o l h) (zh8 w z o l h))
def z1O(w z o l h:Nat):Nat:=bi (zki w z o l h) (sz w z o l h) z
def z1P(w z o l h:Nat):Nat:=bi (zki w z o l h) (so w z o l h) o
def z1Q(w z o l h:Nat):Nat:=bi (zki w z o l h) (zh7 w z o l h) l
def z1R(w z o l h:Nat):Nat:=bi (zki w z o l h) (zh8 w z o l h) h
def z1S(w z o l h:Nat):Bool:=bi (zki w z o l h) (sb w z o l h) false
def zvm(w z o l h:Nat):Bool:=decide (1≤w∧w≤64) && zpF w z o && zpG w l h && z1S w z o l h && decide (z1O w z o l h=z∧z1P w z o l h=o∧z1Q w z o l h=l∧z1R w z o l h=h)
def c0(l:List AV)(i j:Nat):Nat:=(nthL (nthL l i).cs j).p
end
end Go.Eng
namespace Go.Eng
open Go.RowKit Go.Proofs
set_option maxRecDepth 4000
theorem bS1(c:Bool){α:Type}(x y:α):bi (nbeq (Nat.sub 1 (bi c 1 0)) 1) x y=bi c y x:=by cases c<;>rfl
end Go.Eng
namespace Go.Eng
open Go.RowKit Go.Proofs
noncomputable section
def unB(a:AV):Nat × Nat × Nat:=((nthL a.cs 0).q,(nthL a.cs 0).p,(nthL a.cs 1).p)
def lkF(q n:Nat):List (Nat × Nat × Nat)→Option Nat
  | []=>none
  | x::l=>if x.1=q∧x.2.1=n then some x.2.2 else lkF q n l
def z1T(l:List AV)(q n:Nat):Nat:=(lkF q n (l.map unB)).getD 0
def z1U(l:List AV)(q n:Nat):Bool:=(lkF q n (l.map unB)).isSome
mutual
def vlT(nums:List AV):Tm→Nat × Bool
  | .mk op w v nq np _ l0=>if op=25 then (if z1U nums nq np=true∧1≤w∧w≤64 then (cutN w (z1T nums nq np),true) else (0,false))
    else if op=24 ∨ op=1 ∨ op=26 then (0,false) else match vlTs nums l0 with
      | none=>(0,false)
      | some ws=>((zvh op w v ws).1,decide ((zvh op w v ws).2=0))
def vlTs(nums:List AV):List Tm→Option (List (Nat × Nat))
  | []=>some []
  | a::l=>if (vlT nums a).2=true then (match vlTs nums l with | none=>none | some ws=>some ((a.w,(vlT nums a).1)::ws)) else none
end
def zh9(t:Tm)(nums:List AV):Nat:=(vlT nums t).1
def zhA(t:Tm)(nums:List AV):Bool:=(vlT nums t).2
def vN(k:Nat):Nat × Native:=(k,natP Tryz.prog k [26,41] fun l=>tupV [u64 (zh9 (unTm (nthL l 0)) (nthL l 1).cs),bV (zhA (unTm (nthL l 0)) (nthL l 1).cs)])
def z1V(w z o l h:Nat):Nat:=bi (zvm w z o l h) z 0
def z1W(w z o l h:Nat):Nat:=bi (zvm w z o l h) h (zeb w)
end
end Go.Eng
namespace Go.Eng
open Go.RowKit Go.Proofs
set_option maxRecDepth 4000
end Go.Eng
