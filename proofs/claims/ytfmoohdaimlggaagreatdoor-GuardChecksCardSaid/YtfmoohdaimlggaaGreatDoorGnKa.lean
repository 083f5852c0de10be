/- A part of the proof that the evaluator in GnC, and the driver in GnZ, answer as the model does; no conditions. -/
import Derived.Test.YtfmoohdaimlggaaGreatDoorGnHa
namespace Go.Eng
open Go.RowKit Go.Proofs
noncomputable section
mutual
def atP(w:Nat):Tm→Tm × Bool
  | .mk op wd v nq np _ l0=>if l0.length=0 then (.mk op (if wd=0 then w else wd) (if wd=0∧op=2 then cutN w v else v) nq np 0 [],true) else
    match atPs w l0 with
    | none=>(zvd,false)
    | some bs=>(.mk op (wdP op wd v (bs.map Tm.w)).1 v nq np 1 bs,decide ((wdP op wd v (bs.map Tm.w)).2=0))
def atPs(w:Nat):List Tm→Option (List Tm)
  | []=>some []
  | a::l=>if (atP w a).2=true then (match atPs w l with | none=>none | some bs=>some ((atP w a).1::bs)) else none
end
end
end Go.Eng
namespace Go.Eng
open Go.RowKit Go.Proofs
noncomputable section
def gk(v:AV):Nat:=(nthL v.cs 0).p
def ga(v:AV):Tm:=unTm (tmV (nthL v.cs 1).p (nthL v.cs 2).p (nthL v.cs 3).p (nthL v.cs 4).q (nthL v.cs 4).p (nthL v.cs 5).p (nthL v.cs 5).cs)
def gb(v:AV):Tm:=unTm (tmV (nthL v.cs 6).p (nthL v.cs 7).p (nthL v.cs 8).p (nthL v.cs 9).q (nthL v.cs 9).p (nthL v.cs 10).p (nthL v.cs 10).cs)
end
end Go.Eng
namespace Go.Eng
open Go.RowKit Go.Proofs
theorem s69(J:Jmp)(x y z lp:Nat)(ll:List AV):(zaB Tryz.prog 144 za8 (finY Tryz.prog [.tmp 8,.tmp 9] [3,32]) J [] (zad Tryz.f69) (finY Tryz.prog [.tmp 8,.tmp 9] [3,32]) []).run RE (zar 0 [i64 x,i64 y,u64 z,slP lp 1 ll] noFr) (zaf Tryz.prog) =
  (bi (nbeq (okN (zac Tryz.prog 131 [⟨3,x,0,0,0,[]⟩] ⟨8,bi (knN x) 1 0,0,0,0,[]⟩)) 1)
 (bi (nbeq (Nat.sub 1 (bi (knN x) 1 0)) 0)
 (bi (nbeq (okN (zac Tryz.prog 132 [⟨3,x,0,0,0,[]⟩] ⟨3,arN x,0,0,0,[]⟩)) 1)
 (bi (nbeq (bi (nb (nbeq (lenL ll) (arN x))) 1 0) 1)
 (ansY ⟨16,0,0,0,0,[⟨3,0,0,0,0,[]⟩,⟨3,4,0,0,0,[]⟩]⟩)
 (J [0,0,1,0,1,1] [⟨3,x,0,0,0,[]⟩,⟨3,y,0,0,0,[]⟩,⟨7,z,0,0,0,[]⟩,⟨24,lp,0,1,0,ll⟩,⟨24,lp,0,1,0,ll⟩,⟨3,lenL ll,0,0,0,[]⟩,⟨3,0,0,0,0,[]⟩]))
 (zab 301))
 (ansY ⟨16,0,0,0,0,[⟨3,0,0,0,0,[]⟩,⟨3,4,0,0,0,[]⟩]⟩))
 (zab 301)):=by kernel_rfl
theorem s76(J:Jmp)(x y z lp:Nat)(ll:List AV):(zaB Tryz.prog 133 za9 (finY Tryz.prog [.tmp 8,.tmp 9] [3,32]) J [] (zad Tryz.f76) (finY Tryz.prog [.tmp 8,.tmp 9] [3,32]) []).run RE (zar 0 [i64 x,i64 y,u64 z,slP lp 1 ll] noFr) (zaf Tryz.prog) =
  (bi (nbeq (okN (zac Tryz.prog 125 [⟨3,x,0,0,0,[]⟩] ⟨3,arR x,0,0,0,[]⟩)) 1)
 (bi (nbeq (bi (nb (nble 9223372036854775808 (biased 3 (arR x)))) 1 0) 0)
 (bi (nbeq (okN (zac Tryz.prog 125 [⟨3,x,0,0,0,[]⟩] ⟨3,arR x,0,0,0,[]⟩)) 1)
 (bi (nbeq (bi (nb (nbeq (lenL ll) (arR x))) 1 0) 1)
 (ansY ⟨16,0,0,0,0,[⟨3,0,0,0,0,[]⟩,⟨3,4,0,0,0,[]⟩]⟩)
 (J [0,0,1,0,1,1] [⟨3,x,0,0,0,[]⟩,⟨3,y,0,0,0,[]⟩,⟨7,z,0,0,0,[]⟩,⟨24,lp,0,1,0,ll⟩,⟨3,lenL ll,0,0,0,[]⟩,⟨3,0,0,0,0,[]⟩]))
 (zab 301))
 (ansY ⟨16,0,0,0,0,[⟨3,0,0,0,0,[]⟩,⟨3,4,0,0,0,[]⟩]⟩))
 (zab 301)):=by kernel_rfl
theorem zrZ(J:Jmp)(x y z lp a:Nat):lblY Tryz.prog 144 za8 (zaf Tryz.prog) RE (finY Tryz.prog [.tmp 8,.tmp 9] [3,32]) (zad Tryz.f69) J [0,0,1,0,1,1] [i64 x,i64 y,u64 z,slP lp 1 [i64 a],slP lp 1 [i64 a],i64 1,i64 0] =
  (bi (nbeq (okN (zac Tryz.prog 133 [⟨3,a,0,0,0,[]⟩] ⟨8,bi (insN a) 1 0,0,0,0,[]⟩)) 1)
 (bi (nbeq (Nat.sub 1 (bi (insN a) 1 0)) 1)
 (ansY ⟨16,0,0,0,0,[⟨3,0,0,0,0,[]⟩,⟨3,3,0,0,0,[]⟩]⟩)
 (J [0,0,1,0,1,1] [⟨3,x,0,0,0,[]⟩,⟨3,y,0,0,0,[]⟩,⟨7,z,0,0,0,[]⟩,⟨24,lp,0,1,0,[⟨3,a,0,0,0,[]⟩]⟩,⟨24,lp,0,1,0,[⟨3,a,0,0,0,[]⟩]⟩,⟨3,1,0,0,0,[]⟩,⟨3,1,0,0,0,[]⟩]))
 (zab 301)):=by kernel_rfl
theorem zsa(J:Jmp)(x y z lp a b:Nat):lblY Tryz.prog 144 za8 (zaf Tryz.prog) RE (finY Tryz.prog [.tmp 8,.tmp 9] [3,32]) (zad Tryz.f69) J [0,0,1,0,1,1] [i64 x,i64 y,u64 z,slP lp 1 [i64 a,i64 b],slP lp 1 [i64 a,i64 b],i64 2,i64 0] =
  (bi (nbeq (okN (zac Tryz.prog 133 [⟨3,a,0,0,0,[]⟩] ⟨8,bi (insN a) 1 0,0,0,0,[]⟩)) 1)
 (bi (nbeq (Nat.sub 1 (bi (insN a) 1 0)) 1)
 (ansY ⟨16,0,0,0,0,[⟨3,0,0,0,0,[]⟩,⟨3,3,0,0,0,[]⟩]⟩)
 (J [0,0,1,0,1,1] [⟨3,x,0,0,0,[]⟩,⟨3,y,0,0,0,[]⟩,⟨7,z,0,0,0,[]⟩,⟨24,lp,0,1,0,[⟨3,a,0,0,0,[]⟩,⟨3,b,0,0,0,[]⟩]⟩,⟨24,lp,0,1,0,[⟨3,a,0,0,0,[]⟩,⟨3,b,0,0,0,[]⟩]⟩,⟨3,2,0,0,0,[]⟩,⟨3,1,0,0,0,[]⟩]))
 (zab 301)):=by kernel_rfl
theorem zsb(J:Jmp)(x y z lp a b:Nat):lblY Tryz.prog 144 za8 (zaf Tryz.prog) RE (finY Tryz.prog [.tmp 8,.tmp 9] [3,32]) (zad Tryz.f69) J [0,0,1,0,1,1] [i64 x,i64 y,u64 z,slP lp 1 [i64 a,i64 b],slP lp 1 [i64 a,i64 b],i64 2,i64 1] =
  (bi (nbeq (okN (zac Tryz.prog 133 [⟨3,b,0,0,0,[]⟩] ⟨8,bi (insN b) 1 0,0,0,0,[]⟩)) 1)
 (bi (nbeq (Nat.sub 1 (bi (insN b) 1 0)) 1)
 (ansY ⟨16,0,0,0,0,[⟨3,0,0,0,0,[]⟩,⟨3,3,0,0,0,[]⟩]⟩)
 (J [0,0,1,0,1,1] [⟨3,x,0,0,0,[]⟩,⟨3,y,0,0,0,[]⟩,⟨7,z,0,0,0,[]⟩,⟨24,lp,0,1,0,[⟨3,a,0,0,0,[]⟩,⟨3,b,0,0,0,[]⟩]⟩,⟨24,lp,0,1,0,[⟨3,a,0,0,0,[]⟩,⟨3,b,0,0,0,[]⟩]⟩,⟨3,2,0,0,0,[]⟩,⟨3,2,0,0,0,[]⟩]))
 (zab 301)):=by kernel_rfl
theorem zsc(J:Jmp)(x y z lp a b c:Nat):lblY Tryz.prog 144 za8 (zaf Tryz.prog) RE (finY Tryz.prog [.tmp 8,.tmp 9] [3,32]) (zad Tryz.f69) J [0,0,1,0,1,1] [i64 x,i64 y,u64 z,slP lp 1 [i64 a,i64 b,i64 c],slP lp 1 [i64 a,i64 b,i64 c],i64 3,i64 0] =
  (bi (nbeq (okN (zac Tryz.prog 133 [⟨3,a,0,0,0,[]⟩] ⟨8,bi (insN a) 1 0,0,0,0,[]⟩)) 1)
 (bi (nbeq (Nat.sub 1 (bi (insN a) 1 0)) 1)
 (ansY ⟨16,0,0,0,0,[⟨3,0,0,0,0,[]⟩,⟨3,3,0,0,0,[]⟩]⟩)
 (J [0,0,1,0,1,1] [⟨3,x,0,0,0,[]⟩,⟨3,y,0,0,0,[]⟩,⟨7,z,0,0,0,[]⟩,⟨24,lp,0,1,0,[⟨3,a,0,0,0,[]⟩,⟨3,b,0,0,0,[]⟩,⟨3,c,0,0,0,[]⟩]⟩,⟨24,lp,0,1,0,[⟨3,a,0,0,0,[]⟩,⟨3,b,0,0,0,[]⟩,⟨3,c,0,0,0,[]⟩]⟩,⟨3,3,0,0,0,[]⟩,⟨3,1,0,0,0,[]⟩]))
 (zab 301)):=by kernel_rfl
theorem zsd(J:Jmp)(x y z lp a b c:Nat):lblY Tryz.prog 144 za8 (zaf Tryz.prog) RE (finY Tryz.prog [.tmp 8,.tmp 9] [3,32]) (zad Tryz.f69) J [0,0,1,0,1,1] [i64 x,i64 y,u64 z,slP lp 1 [i64 a,i64 b,i64 c],slP lp 1 [i64 a,i64 b,i64 c],i64 3,i64 1] =
  (bi (nbeq (okN (zac Tryz.prog 133 [⟨3,b,0,0,0,[]⟩] ⟨8,bi (insN b) 1 0,0,0,0,[]⟩)) 1)
 (bi (nbeq (Nat.sub 1 (bi (insN b) 1 0)) 1)
 (ansY ⟨16,0,0,0,0,[⟨3,0,0,0,0,[]⟩,⟨3,3,0,0,0,[]⟩]⟩)
 (J [0,0,1,0,1,1] [⟨3,x,0,0,0,[]⟩,⟨3,y,0,0,0,[]⟩,⟨7,z,0,0,0,[]⟩,⟨24,lp,0,1,0,[⟨3,a,0,0,0,[]⟩,⟨3,b,0,0,0,[]⟩,⟨3,c,0,0,0,[]⟩]⟩,⟨24,lp,0,1,0,[⟨3,a,0,0,0,[]⟩,⟨3,b,0,0,0,[]⟩,⟨3,c,0,0,0,[]⟩]⟩,⟨3,3,0,0,0,[]⟩,⟨3,2,0,0,0,[]⟩]))
 (zab 301)):=by kernel_rfl
theorem zse(J:Jmp)(x y z lp a b c:Nat):lblY Tryz.prog 144 za8 (zaf Tryz.prog) RE (finY Tryz.prog [.tmp 8,.tmp 9] [3,32]) (zad Tryz.f69) J [0,0,1,0,1,1] [i64 x,i64 y,u64 z,slP lp 1 [i64 a,i64 b,i64 c],slP lp 1 [i64 a,i64 b,i64 c],i64 3,i64 2] =
  (bi (nbeq (okN (zac Tryz.prog 133 [⟨3,c,0,0,0,[]⟩] ⟨8,bi (insN c) 1 0,0,0,0,[]⟩)) 1)
 (bi (nbeq (Nat.sub 1 (bi (insN c) 1 0)) 1)
 (ansY ⟨16,0,0,0,0,[⟨3,0,0,0,0,[]⟩,⟨3,3,0,0,0,[]⟩]⟩)
 (J [0,0,1,0,1,1] [⟨3,x,0,0,0,[]⟩,⟨3,y,0,0,0,[]⟩,⟨7,z,0,0,0,[]⟩,⟨24,lp,0,1,0,[⟨3,a,0,0,0,[]⟩,⟨3,b,0,0,0,[]⟩,⟨3,c,0,0,0,[]⟩]⟩,⟨24,lp,0,1,0,[⟨3,a,0,0,0,[]⟩,⟨3,b,0,0,0,[]⟩,⟨3,c,0,0,0,[]⟩]⟩,⟨3,3,0,0,0,[]⟩,⟨3,3,0,0,0,[]⟩]))
 (zab 301)):=by kernel_rfl
theorem zsf(J:Jmp)(x y z lp a:Nat):lblY Tryz.prog 133 za9 (zaf Tryz.prog) RE (finY Tryz.prog [.tmp 8,.tmp 9] [3,32]) (zad Tryz.f76) J [0,0,1,0,1,1] [i64 x,i64 y,u64 z,slP lp 1 [i64 a],i64 1,i64 0] =
  (bi (nbeq (okN (zac Tryz.prog 144 [⟨3,a,0,0,0,[]⟩] ⟨8,bi (insN a) 1 0,0,0,0,[]⟩)) 1)
 (bi (nbeq (Nat.sub 1 (bi (insN a) 1 0)) 1)
 (ansY ⟨16,0,0,0,0,[⟨3,0,0,0,0,[]⟩,⟨3,3,0,0,0,[]⟩]⟩)
 (J [0,0,1,0,1,1] [⟨3,x,0,0,0,[]⟩,⟨3,y,0,0,0,[]⟩,⟨7,z,0,0,0,[]⟩,⟨24,lp,0,1,0,[⟨3,a,0,0,0,[]⟩]⟩,⟨3,1,0,0,0,[]⟩,⟨3,1,0,0,0,[]⟩]))
 (zab 301)):=by kernel_rfl
theorem zsg(J:Jmp)(x y z lp a b:Nat):lblY Tryz.prog 133 za9 (zaf Tryz.prog) RE (finY Tryz.prog [.tmp 8,.tmp 9] [3,32]) (zad Tryz.f76) J [0,0,1,0,1,1] [i64 x,i64 y,u64 z,slP lp 1 [i64 a,i64 b],i64 2,i64 0] =
  (bi (nbeq (okN (zac Tryz.prog 144 [⟨3,a,0,0,0,[]⟩] ⟨8,bi (insN a) 1 0,0,0,0,[]⟩)) 1)
 (bi (nbeq (Nat.sub 1 (bi (insN a) 1 0)) 1)
 (ansY ⟨16,0,0,0,0,[⟨3,0,0,0,0,[]⟩,⟨3,3,0,0,0,[]⟩]⟩)
 (J [0,0,1,0,1,1] [⟨3,x,0,0,0,[]⟩,⟨3,y,0,0,0,[]⟩,⟨7,z,0,0,0,[]⟩,⟨24,lp,0,1,0,[⟨3,a,0,0,0,[]⟩,⟨3,b,0,0,0,[]⟩]⟩,⟨3,2,0,0,0,[]⟩,⟨3,1,0,0,0,[]⟩]))
 (zab 301)):=by kernel_rfl
theorem zsh(J:Jmp)(x y z lp a b:Nat):lblY Tryz.prog 133 za9 (zaf Tryz.prog) RE (finY Tryz.prog [.tmp 8,.tmp 9] [3,32]) (zad Tryz.f76) J [0,0,1,0,1,1] [i64 x,i64 y,u64 z,slP lp 1 [i64 a,i64 b],i64 2,i64 1] =
  (bi (nbeq (okN (zac Tryz.prog 144 [⟨3,b,0,0,0,[]⟩] ⟨8,bi (insN b) 1 0,0,0,0,[]⟩)) 1)
 (bi (nbeq (Nat.sub 1 (bi (insN b) 1 0)) 1)
 (ansY ⟨16,0,0,0,0,[⟨3,0,0,0,0,[]⟩,⟨3,3,0,0,0,[]⟩]⟩)
 (J [0,0,1,0,1,1] [⟨3,x,0,0,0,[]⟩,⟨3,y,0,0,0,[]⟩,⟨7,z,0,0,0,[]⟩,⟨24,lp,0,1,0,[⟨3,a,0,0,0,[]⟩,⟨3,b,0,0,0,[]⟩]⟩,⟨3,2,0,0,0,[]⟩,⟨3,2,0,0,0,[]⟩]))
 (zab 301)):=by kernel_rfl
theorem zsi(J:Jmp)(x y z lp a b c:Nat):lblY Tryz.prog 133 za9 (zaf Tryz.prog) RE (finY Tryz.prog [.tmp 8,.tmp 9] [3,32]) (zad Tryz.f76) J [0,0,1,0,1,1] [i64 x,i64 y,u64 z,slP lp 1 [i64 a,i64 b,i64 c],i64 3,i64 0] =
  (bi (nbeq (okN (zac Tryz.prog 144 [⟨3,a,0,0,0,[]⟩] ⟨8,bi (insN a) 1 0,0,0,0,[]⟩)) 1)
 (bi (nbeq (Nat.sub 1 (bi (insN a) 1 0)) 1)
 (ansY ⟨16,0,0,0,0,[⟨3,0,0,0,0,[]⟩,⟨3,3,0,0,0,[]⟩]⟩)
 (J [0,0,1,0,1,1] [⟨3,x,0,0,0,[]⟩,⟨3,y,0,0,0,[]⟩,⟨7,z,0,0,0,[]⟩,⟨24,lp,0,1,0,[⟨3,a,0,0,0,[]⟩,⟨3,b,0,0,0,[]⟩,⟨3,c,0,0,0,[]⟩]⟩,⟨3,3,0,0,0,[]⟩,⟨3,1,0,0,0,[]⟩]))
 (zab 301)):=by kernel_rfl
theorem zsj(J:Jmp)(x y z lp a b c:Nat):lblY Tryz.prog 133 za9 (zaf Tryz.prog) RE (finY Tryz.prog [.tmp 8,.tmp 9] [3,32]) (zad Tryz.f76) J [0,0,1,0,1,1] [i64 x,i64 y,u64 z,slP lp 1 [i64 a,i64 b,i64 c],i64 3,i64 1] =
  (bi (nbeq (okN (zac Tryz.prog 144 [⟨3,b,0,0,0,[]⟩] ⟨8,bi (insN b) 1 0,0,0,0,[]⟩)) 1)
 (bi (nbeq (Nat.sub 1 (bi (insN b) 1 0)) 1)
 (ansY ⟨16,0,0,0,0,[⟨3,0,0,0,0,[]⟩,⟨3,3,0,0,0,[]⟩]⟩)
 (J [0,0,1,0,1,1] [⟨3,x,0,0,0,[]⟩,⟨3,y,0,0,0,[]⟩,⟨7,z,0,0,0,[]⟩,⟨24,lp,0,1,0,[⟨3,a,0,0,0,[]⟩,⟨3,b,0,0,0,[]⟩,⟨3,c,0,0,0,[]⟩]⟩,⟨3,3,0,0,0,[]⟩,⟨3,2,0,0,0,[]⟩]))
 (zab 301)):=by kernel_rfl
theorem zsk(J:Jmp)(x y z lp a b c:Nat):lblY Tryz.prog 133 za9 (zaf Tryz.prog) RE (finY Tryz.prog [.tmp 8,.tmp 9] [3,32]) (zad Tryz.f76) J [0,0,1,0,1,1] [i64 x,i64 y,u64 z,slP lp 1 [i64 a,i64 b,i64 c],i64 3,i64 2] =
  (bi (nbeq (okN (zac Tryz.prog 144 [⟨3,c,0,0,0,[]⟩] ⟨8,bi (insN c) 1 0,0,0,0,[]⟩)) 1)
 (bi (nbeq (Nat.sub 1 (bi (insN c) 1 0)) 1)
 (ansY ⟨16,0,0,0,0,[⟨3,0,0,0,0,[]⟩,⟨3,3,0,0,0,[]⟩]⟩)
 (J [0,0,1,0,1,1] [⟨3,x,0,0,0,[]⟩,⟨3,y,0,0,0,[]⟩,⟨7,z,0,0,0,[]⟩,⟨24,lp,0,1,0,[⟨3,a,0,0,0,[]⟩,⟨3,b,0,0,0,[]⟩,⟨3,c,0,0,0,[]⟩]⟩,⟨3,3,0,0,0,[]⟩,⟨3,3,0,0,0,[]⟩]))
 (zab 301)):=by kernel_rfl
theorem zsl(J:Jmp)(y z lp:Nat):lblY Tryz.prog 144 za8 (zaf Tryz.prog) RE (finY Tryz.prog [.tmp 8,.tmp 9] [3,32]) (zad Tryz.f69) J [0,0,1,0,1,1] [i64 1,i64 y,u64 z,slP lp 1 [],slP lp 1 [],i64 0,i64 0] =
  (bi (nbeq (okN (zac Tryz.prog 134 [⟨3,1,0,0,0,[]⟩,⟨3,y,0,0,0,[]⟩,⟨7,z,0,0,0,[]⟩] ⟨16,0,0,0,0,[⟨3,bi (lfP 1 y z) y 0,0,0,0,[]⟩,⟨3,bi (lfP 1 y z) 0 3,0,0,0,[]⟩]⟩)) 1)
 (ansY ⟨16,0,0,0,0,[⟨3,bi (lfP 1 y z) y 0,0,0,0,[]⟩,⟨3,bi (lfP 1 y z) 0 3,0,0,0,[]⟩]⟩)
 (zab 301)):=by kernel_rfl
theorem zsm(J:Jmp)(y z lp:Nat):lblY Tryz.prog 144 za8 (zaf Tryz.prog) RE (finY Tryz.prog [.tmp 8,.tmp 9] [3,32]) (zad Tryz.f69) J [0,0,1,0,1,1] [i64 2,i64 y,u64 z,slP lp 1 [],slP lp 1 [],i64 0,i64 0] =
  (bi (nbeq (okN (zac Tryz.prog 134 [⟨3,2,0,0,0,[]⟩,⟨3,y,0,0,0,[]⟩,⟨7,z,0,0,0,[]⟩] ⟨16,0,0,0,0,[⟨3,bi (lfP 2 y z) y 0,0,0,0,[]⟩,⟨3,bi (lfP 2 y z) 0 3,0,0,0,[]⟩]⟩)) 1)
 (ansY ⟨16,0,0,0,0,[⟨3,bi (lfP 2 y z) y 0,0,0,0,[]⟩,⟨3,bi (lfP 2 y z) 0 3,0,0,0,[]⟩]⟩)
 (zab 301)):=by kernel_rfl
theorem zsn(J:Jmp)(y z lp a:Nat):lblY Tryz.prog 144 za8 (zaf Tryz.prog) RE (finY Tryz.prog [.tmp 8,.tmp 9] [3,32]) (zad Tryz.f69) J [0,0,1,0,1,1] [i64 3,i64 y,u64 z,slP lp 1 [i64 a],slP lp 1 [i64 a],i64 1,i64 1] =
  (ansY ⟨16,0,0,0,0,[⟨3,a,0,0,0,[]⟩,⟨3,0,0,0,0,[]⟩]⟩):=by kernel_rfl
theorem zso(J:Jmp)(y z lp a:Nat):lblY Tryz.prog 144 za8 (zaf Tryz.prog) RE (finY Tryz.prog [.tmp 8,.tmp 9] [3,32]) (zad Tryz.f69) J [0,0,1,0,1,1] [i64 4,i64 y,u64 z,slP lp 1 [i64 a],slP lp 1 [i64 a],i64 1,i64 1] =
  (ansY ⟨16,0,0,0,0,[⟨3,a,0,0,0,[]⟩,⟨3,0,0,0,0,[]⟩]⟩):=by kernel_rfl
theorem zsp(J:Jmp)(y z lp a b:Nat):lblY Tryz.prog 144 za8 (zaf Tryz.prog) RE (finY Tryz.prog [.tmp 8,.tmp 9] [3,32]) (zad Tryz.f69) J [0,0,1,0,1,1] [i64 5,i64 y,u64 z,slP lp 1 [i64 a,i64 b],slP lp 1 [i64 a,i64 b],i64 2,i64 2] =
  (bi (nbeq (okN (zac Tryz.prog 136 [⟨8,bi (nbeq a b) 1 0,0,0,0,[]⟩,⟨3,a,0,0,0,[]⟩] ⟨16,0,0,0,0,[⟨3,bi (nbeq (bi (nbeq a b) 1 0) 1) a 0,0,0,0,[]⟩,⟨3,bi (nbeq (bi (nbeq a b) 1 0) 1) 0 3,0,0,0,[]⟩]⟩)) 1)
 (ansY ⟨16,0,0,0,0,[⟨3,bi (nbeq (bi (nbeq a b) 1 0) 1) a 0,0,0,0,[]⟩,⟨3,bi (nbeq (bi (nbeq a b) 1 0) 1) 0 3,0,0,0,[]⟩]⟩)
 (zab 301)):=by kernel_rfl
theorem zsq(J:Jmp)(y z lp a b:Nat):lblY Tryz.prog 144 za8 (zaf Tryz.prog) RE (finY Tryz.prog [.tmp 8,.tmp 9] [3,32]) (zad Tryz.f69) J [0,0,1,0,1,1] [i64 6,i64 y,u64 z,slP lp 1 [i64 a,i64 b],slP lp 1 [i64 a,i64 b],i64 2,i64 2] =
  (bi (nbeq (okN (zac Tryz.prog 136 [⟨8,bi (nbeq a b) 1 0,0,0,0,[]⟩,⟨3,a,0,0,0,[]⟩] ⟨16,0,0,0,0,[⟨3,bi (nbeq (bi (nbeq a b) 1 0) 1) a 0,0,0,0,[]⟩,⟨3,bi (nbeq (bi (nbeq a b) 1 0) 1) 0 3,0,0,0,[]⟩]⟩)) 1)
 (ansY ⟨16,0,0,0,0,[⟨3,bi (nbeq (bi (nbeq a b) 1 0) 1) a 0,0,0,0,[]⟩,⟨3,bi (nbeq (bi (nbeq a b) 1 0) 1) 0 3,0,0,0,[]⟩]⟩)
 (zab 301)):=by kernel_rfl
theorem zsr(J:Jmp)(y z lp a b:Nat):lblY Tryz.prog 144 za8 (zaf Tryz.prog) RE (finY Tryz.prog [.tmp 8,.tmp 9] [3,32]) (zad Tryz.f69) J [0,0,1,0,1,1] [i64 7,i64 y,u64 z,slP lp 1 [i64 a,i64 b],slP lp 1 [i64 a,i64 b],i64 2,i64 2] =
  (bi (nbeq (okN (zac Tryz.prog 136 [⟨8,bi (nbeq a b) 1 0,0,0,0,[]⟩,⟨3,a,0,0,0,[]⟩] ⟨16,0,0,0,0,[⟨3,bi (nbeq (bi (nbeq a b) 1 0) 1) a 0,0,0,0,[]⟩,⟨3,bi (nbeq (bi (nbeq a b) 1 0) 1) 0 3,0,0,0,[]⟩]⟩)) 1)
 (ansY ⟨16,0,0,0,0,[⟨3,bi (nbeq (bi (nbeq a b) 1 0) 1) a 0,0,0,0,[]⟩,⟨3,bi (nbeq (bi (nbeq a b) 1 0) 1) 0 3,0,0,0,[]⟩]⟩)
 (zab 301)):=by kernel_rfl
theorem zss(J:Jmp)(y z lp a b:Nat):lblY Tryz.prog 144 za8 (zaf Tryz.prog) RE (finY Tryz.prog [.tmp 8,.tmp 9] [3,32]) (zad Tryz.f69) J [0,0,1,0,1,1] [i64 8,i64 y,u64 z,slP lp 1 [i64 a,i64 b],slP lp 1 [i64 a,i64 b],i64 2,i64 2] =
  (bi (nbeq (okN (zac Tryz.prog 136 [⟨8,bi (nbeq a b) 1 0,0,0,0,[]⟩,⟨3,a,0,0,0,[]⟩] ⟨16,0,0,0,0,[⟨3,bi (nbeq (bi (nbeq a b) 1 0) 1) a 0,0,0,0,[]⟩,⟨3,bi (nbeq (bi (nbeq a b) 1 0) 1) 0 3,0,0,0,[]⟩]⟩)) 1)
 (ansY ⟨16,0,0,0,0,[⟨3,bi (nbeq (bi (nbeq a b) 1 0) 1) a 0,0,0,0,[]⟩,⟨3,bi (nbeq (bi (nbeq a b) 1 0) 1) 0 3,0,0,0,[]⟩]⟩)
 (zab 301)):=by kernel_rfl
theorem zst(J:Jmp)(y z lp a b:Nat):lblY Tryz.prog 144 za8 (zaf Tryz.prog) RE (finY Tryz.prog [.tmp 8,.tmp 9] [3,32]) (zad Tryz.f69) J [0,0,1,0,1,1] [i64 9,i64 y,u64 z,slP lp 1 [i64 a,i64 b],slP lp 1 [i64 a,i64 b],i64 2,i64 2] =
  (bi (nbeq (okN (zac Tryz.prog 136 [⟨8,bi (nbeq a b) 1 0,0,0,0,[]⟩,⟨3,a,0,0,0,[]⟩] ⟨16,0,0,0,0,[⟨3,bi (nbeq (bi (nbeq a b) 1 0) 1) a 0,0,0,0,[]⟩,⟨3,bi (nbeq (bi (nbeq a b) 1 0) 1) 0 3,0,0,0,[]⟩]⟩)) 1)
 (ansY ⟨16,0,0,0,0,[⟨3,bi (nbeq (bi (nbeq a b) 1 0) 1) a 0,0,0,0,[]⟩,⟨3,bi (nbeq (bi (nbeq a b) 1 0) 1) 0 3,0,0,0,[]⟩]⟩)
 (zab 301)):=by kernel_rfl
theorem zqb(J:Jmp)(y z lp a b:Nat):lblY Tryz.prog 144 za8 (zaf Tryz.prog) RE (finY Tryz.prog [.tmp 8,.tmp 9] [3,32]) (zad Tryz.f69) J [0,0,1,0,1,1] [i64 10,i64 y,u64 z,slP lp 1 [i64 a,i64 b],slP lp 1 [i64 a,i64 b],i64 2,i64 2] =
  (bi (nbeq (okN (zac Tryz.prog 136 [⟨8,bi (nbeq a b) 1 0,0,0,0,[]⟩,⟨3,a,0,0,0,[]⟩] ⟨16,0,0,0,0,[⟨3,bi (nbeq (bi (nbeq a b) 1 0) 1) a 0,0,0,0,[]⟩,⟨3,bi (nbeq (bi (nbeq a b) 1 0) 1) 0 3,0,0,0,[]⟩]⟩)) 1)
 (ansY ⟨16,0,0,0,0,[⟨3,bi (nbeq (bi (nbeq a b) 1 0) 1) a 0,0,0,0,[]⟩,⟨3,bi (nbeq (bi (nbeq a b) 1 0) 1) 0 3,0,0,0,[]⟩]⟩)
 (zab 301)):=by kernel_rfl
theorem zqc(J:Jmp)(y z lp a b:Nat):lblY Tryz.prog 144 za8 (zaf Tryz.prog) RE (finY Tryz.prog [.tmp 8,.tmp 9] [3,32]) (zad Tryz.f69) J [0,0,1,0,1,1] [i64 11,i64 y,u64 z,slP lp 1 [i64 a,i64 b],slP lp 1 [i64 a,i64 b],i64 2,i64 2] =
  (bi (nbeq (okN (zac Tryz.prog 136 [⟨8,bi (nbeq a b) 1 0,0,0,0,[]⟩,⟨3,a,0,0,0,[]⟩] ⟨16,0,0,0,0,[⟨3,bi (nbeq (bi (nbeq a b) 1 0) 1) a 0,0,0,0,[]⟩,⟨3,bi (nbeq (bi (nbeq a b) 1 0) 1) 0 3,0,0,0,[]⟩]⟩)) 1)
 (ansY ⟨16,0,0,0,0,[⟨3,bi (nbeq (bi (nbeq a b) 1 0) 1) a 0,0,0,0,[]⟩,⟨3,bi (nbeq (bi (nbeq a b) 1 0) 1) 0 3,0,0,0,[]⟩]⟩)
 (zab 301)):=by kernel_rfl
theorem zqd(J:Jmp)(y z lp a b:Nat):lblY Tryz.prog 144 za8 (zaf Tryz.prog) RE (finY Tryz.prog [.tmp 8,.tmp 9] [3,32]) (zad Tryz.f69) J [0,0,1,0,1,1] [i64 12,i64 y,u64 z,slP lp 1 [i64 a,i64 b],slP lp 1 [i64 a,i64 b],i64 2,i64 2] =
  (bi (nbeq (okN (zac Tryz.prog 136 [⟨8,bi (nbeq a b) 1 0,0,0,0,[]⟩,⟨3,a,0,0,0,[]⟩] ⟨16,0,0,0,0,[⟨3,bi (nbeq (bi (nbeq a b) 1 0) 1) a 0,0,0,0,[]⟩,⟨3,bi (nbeq (bi (nbeq a b) 1 0) 1) 0 3,0,0,0,[]⟩]⟩)) 1)
 (ansY ⟨16,0,0,0,0,[⟨3,bi (nbeq (bi (nbeq a b) 1 0) 1) a 0,0,0,0,[]⟩,⟨3,bi (nbeq (bi (nbeq a b) 1 0) 1) 0 3,0,0,0,[]⟩]⟩)
 (zab 301)):=by kernel_rfl
theorem zqe(J:Jmp)(y z lp a b:Nat):lblY Tryz.prog 144 za8 (zaf Tryz.prog) RE (finY Tryz.prog [.tmp 8,.tmp 9] [3,32]) (zad Tryz.f69) J [0,0,1,0,1,1] [i64 13,i64 y,u64 z,slP lp 1 [i64 a,i64 b],slP lp 1 [i64 a,i64 b],i64 2,i64 2] =
  (bi (nbeq (okN (zac Tryz.prog 136 [⟨8,bi (nbeq a b) 1 0,0,0,0,[]⟩,⟨3,a,0,0,0,[]⟩] ⟨16,0,0,0,0,[⟨3,bi (nbeq (bi (nbeq a b) 1 0) 1) a 0,0,0,0,[]⟩,⟨3,bi (nbeq (bi (nbeq a b) 1 0) 1) 0 3,0,0,0,[]⟩]⟩)) 1)
 (ansY ⟨16,0,0,0,0,[⟨3,bi (nbeq (bi (nbeq a b) 1 0) 1) a 0,0,0,0,[]⟩,⟨3,bi (nbeq (bi (nbeq a b) 1 0) 1) 0 3,0,0,0,[]⟩]⟩)
 (zab 301)):=by kernel_rfl
theorem zqf(J:Jmp)(y z lp a b:Nat):lblY Tryz.prog 144 za8 (zaf Tryz.prog) RE (finY Tryz.prog [.tmp 8,.tmp 9] [3,32]) (zad Tryz.f69) J [0,0,1,0,1,1] [i64 14,i64 y,u64 z,slP lp 1 [i64 a,i64 b],slP lp 1 [i64 a,i64 b],i64 2,i64 2] =
  (bi (nbeq (okN (zac Tryz.prog 136 [⟨8,bi (nbeq a b) 1 0,0,0,0,[]⟩,⟨3,a,0,0,0,[]⟩] ⟨16,0,0,0,0,[⟨3,bi (nbeq (bi (nbeq a b) 1 0) 1) a 0,0,0,0,[]⟩,⟨3,bi (nbeq (bi (nbeq a b) 1 0) 1) 0 3,0,0,0,[]⟩]⟩)) 1)
 (ansY ⟨16,0,0,0,0,[⟨3,bi (nbeq (bi (nbeq a b) 1 0) 1) a 0,0,0,0,[]⟩,⟨3,bi (nbeq (bi (nbeq a b) 1 0) 1) 0 3,0,0,0,[]⟩]⟩)
 (zab 301)):=by kernel_rfl
theorem zqg(J:Jmp)(y z lp a b:Nat):lblY Tryz.prog 144 za8 (zaf Tryz.prog) RE (finY Tryz.prog [.tmp 8,.tmp 9] [3,32]) (zad Tryz.f69) J [0,0,1,0,1,1] [i64 15,i64 y,u64 z,slP lp 1 [i64 a,i64 b],slP lp 1 [i64 a,i64 b],i64 2,i64 2] =
  (bi (nbeq (okN (zac Tryz.prog 136 [⟨8,bi (nbeq a b) 1 0,0,0,0,[]⟩,⟨3,a,0,0,0,[]⟩] ⟨16,0,0,0,0,[⟨3,bi (nbeq (bi (nbeq a b) 1 0) 1) a 0,0,0,0,[]⟩,⟨3,bi (nbeq (bi (nbeq a b) 1 0) 1) 0 3,0,0,0,[]⟩]⟩)) 1)
 (ansY ⟨16,0,0,0,0,[⟨3,bi (nbeq (bi (nbeq a b) 1 0) 1) a 0,0,0,0,[]⟩,⟨3,bi (nbeq (bi (nbeq a b) 1 0) 1) 0 3,0,0,0,[]⟩]⟩)
 (zab 301)):=by kernel_rfl
theorem zqh(J:Jmp)(y z lp a b:Nat):lblY Tryz.prog 144 za8 (zaf Tryz.prog) RE (finY Tryz.prog [.tmp 8,.tmp 9] [3,32]) (zad Tryz.f69) J [0,0,1,0,1,1] [i64 16,i64 y,u64 z,slP lp 1 [i64 a,i64 b],slP lp 1 [i64 a,i64 b],i64 2,i64 2] =
  (bi (nbeq (okN (zac Tryz.prog 136 [⟨8,bi (nbeq a b) 1 0,0,0,0,[]⟩,⟨3,1,0,0,0,[]⟩] ⟨16,0,0,0,0,[⟨3,bi (nbeq (bi (nbeq a b) 1 0) 1) 1 0,0,0,0,[]⟩,⟨3,bi (nbeq (bi (nbeq a b) 1 0) 1) 0 3,0,0,0,[]⟩]⟩)) 1)
 (ansY ⟨16,0,0,0,0,[⟨3,bi (nbeq (bi (nbeq a b) 1 0) 1) 1 0,0,0,0,[]⟩,⟨3,bi (nbeq (bi (nbeq a b) 1 0) 1) 0 3,0,0,0,[]⟩]⟩)
 (zab 301)):=by kernel_rfl
theorem zqi(J:Jmp)(y z lp a b:Nat):lblY Tryz.prog 144 za8 (zaf Tryz.prog) RE (finY Tryz.prog [.tmp 8,.tmp 9] [3,32]) (zad Tryz.f69) J [0,0,1,0,1,1] [i64 17,i64 y,u64 z,slP lp 1 [i64 a,i64 b],slP lp 1 [i64 a,i64 b],i64 2,i64 2] =
  (bi (nbeq (okN (zac Tryz.prog 136 [⟨8,bi (nbeq a b) 1 0,0,0,0,[]⟩,⟨3,1,0,0,0,[]⟩] ⟨16,0,0,0,0,[⟨3,bi (nbeq (bi (nbeq a b) 1 0) 1) 1 0,0,0,0,[]⟩,⟨3,bi (nbeq (bi (nbeq a b) 1 0) 1) 0 3,0,0,0,[]⟩]⟩)) 1)
 (ansY ⟨16,0,0,0,0,[⟨3,bi (nbeq (bi (nbeq a b) 1 0) 1) 1 0,0,0,0,[]⟩,⟨3,bi (nbeq (bi (nbeq a b) 1 0) 1) 0 3,0,0,0,[]⟩]⟩)
 (zab 301)):=by kernel_rfl
theorem zqj(J:Jmp)(y z lp a b:Nat):lblY Tryz.prog 144 za8 (zaf Tryz.prog) RE (finY Tryz.prog [.tmp 8,.tmp 9] [3,32]) (zad Tryz.f69) J [0,0,1,0,1,1] [i64 18,i64 y,u64 z,slP lp 1 [i64 a,i64 b],slP lp 1 [i64 a,i64 b],i64 2,i64 2] =
  (bi (nbeq (okN (zac Tryz.prog 136 [⟨8,bi (nbeq a b) 1 0,0,0,0,[]⟩,⟨3,1,0,0,0,[]⟩] ⟨16,0,0,0,0,[⟨3,bi (nbeq (bi (nbeq a b) 1 0) 1) 1 0,0,0,0,[]⟩,⟨3,bi (nbeq (bi (nbeq a b) 1 0) 1) 0 3,0,0,0,[]⟩]⟩)) 1)
 (ansY ⟨16,0,0,0,0,[⟨3,bi (nbeq (bi (nbeq a b) 1 0) 1) 1 0,0,0,0,[]⟩,⟨3,bi (nbeq (bi (nbeq a b) 1 0) 1) 0 3,0,0,0,[]⟩]⟩)
 (zab 301)):=by kernel_rfl
theorem zsu(J:Jmp)(y z lp:Nat):lblY Tryz.prog 133 za9 (zaf Tryz.prog) RE (finY Tryz.prog [.tmp 8,.tmp 9] [3,32]) (zad Tryz.f76) J [0,0,1,0,1,1] [i64 1,i64 y,u64 z,slP lp 1 [],i64 0,i64 0] =
  (bi (nbeq (okN (zac Tryz.prog 145 [⟨3,1,0,0,0,[]⟩] ⟨8,bi (za3 1) 1 0,0,0,0,[]⟩)) 1)
 (bi (nbeq (bi (za3 1) 1 0) 1)
 (bi (nbeq (okN (zac Tryz.prog 146 [⟨3,1,0,0,0,[]⟩,⟨3,y,0,0,0,[]⟩,⟨7,z,0,0,0,[]⟩] ⟨16,0,0,0,0,[⟨3,bi (lfP 1 y z) y 0,0,0,0,[]⟩,⟨3,bi (lfP 1 y z) 0 3,0,0,0,[]⟩]⟩)) 1)
 (ansY ⟨16,0,0,0,0,[⟨3,bi (lfP 1 y z) y 0,0,0,0,[]⟩,⟨3,bi (lfP 1 y z) 0 3,0,0,0,[]⟩]⟩)
 (zab 301))
 (zab 205))
 (zab 301)):=by kernel_rfl
theorem zsv(J:Jmp)(y z lp:Nat):lblY Tryz.prog 133 za9 (zaf Tryz.prog) RE (finY Tryz.prog [.tmp 8,.tmp 9] [3,32]) (zad Tryz.f76) J [0,0,1,0,1,1] [i64 2,i64 y,u64 z,slP lp 1 [],i64 0,i64 0] =
  (bi (nbeq (okN (zac Tryz.prog 145 [⟨3,2,0,0,0,[]⟩] ⟨8,bi (za3 2) 1 0,0,0,0,[]⟩)) 1)
 (bi (nbeq (bi (za3 2) 1 0) 1)
 (bi (nbeq (okN (zac Tryz.prog 146 [⟨3,2,0,0,0,[]⟩,⟨3,y,0,0,0,[]⟩,⟨7,z,0,0,0,[]⟩] ⟨16,0,0,0,0,[⟨3,bi (lfP 2 y z) y 0,0,0,0,[]⟩,⟨3,bi (lfP 2 y z) 0 3,0,0,0,[]⟩]⟩)) 1)
 (ansY ⟨16,0,0,0,0,[⟨3,bi (lfP 2 y z) y 0,0,0,0,[]⟩,⟨3,bi (lfP 2 y z) 0 3,0,0,0,[]⟩]⟩)
 (zab 301))
 (zab 205))
 (zab 301)):=by kernel_rfl
theorem zsw(J:Jmp)(y z lp a:Nat):lblY Tryz.prog 133 za9 (zaf Tryz.prog) RE (finY Tryz.prog [.tmp 8,.tmp 9] [3,32]) (zad Tryz.f76) J [0,0,1,0,1,1] [i64 3,i64 y,u64 z,slP lp 1 [i64 a],i64 1,i64 1] =
  (bi (nbeq (okN (zac Tryz.prog 145 [⟨3,3,0,0,0,[]⟩] ⟨8,bi (za3 3) 1 0,0,0,0,[]⟩)) 1)
 (bi (nbeq (bi (za3 3) 1 0) 1)
 (bi (nbeq (okN (zac Tryz.prog 146 [⟨3,3,0,0,0,[]⟩,⟨3,y,0,0,0,[]⟩,⟨7,z,0,0,0,[]⟩] ⟨16,0,0,0,0,[⟨3,bi (lfP 3 y z) y 0,0,0,0,[]⟩,⟨3,bi (lfP 3 y z) 0 3,0,0,0,[]⟩]⟩)) 1)
 (ansY ⟨16,0,0,0,0,[⟨3,bi (lfP 3 y z) y 0,0,0,0,[]⟩,⟨3,bi (lfP 3 y z) 0 3,0,0,0,[]⟩]⟩)
 (zab 301))
 (ansY ⟨16,0,0,0,0,[⟨3,a,0,0,0,[]⟩,⟨3,0,0,0,0,[]⟩]⟩))
 (zab 301)):=by kernel_rfl
theorem zsx(J:Jmp)(y z lp a:Nat):lblY Tryz.prog 133 za9 (zaf Tryz.prog) RE (finY Tryz.prog [.tmp 8,.tmp 9] [3,32]) (zad Tryz.f76) J [0,0,1,0,1,1] [i64 4,i64 y,u64 z,slP lp 1 [i64 a],i64 1,i64 1] =
  (bi (nbeq (okN (zac Tryz.prog 145 [⟨3,4,0,0,0,[]⟩] ⟨8,bi (za3 4) 1 0,0,0,0,[]⟩)) 1)
 (bi (nbeq (bi (za3 4) 1 0) 1)
 (bi (nbeq (okN (zac Tryz.prog 146 [⟨3,4,0,0,0,[]⟩,⟨3,y,0,0,0,[]⟩,⟨7,z,0,0,0,[]⟩] ⟨16,0,0,0,0,[⟨3,bi (lfP 4 y z) y 0,0,0,0,[]⟩,⟨3,bi (lfP 4 y z) 0 3,0,0,0,[]⟩]⟩)) 1)
 (ansY ⟨16,0,0,0,0,[⟨3,bi (lfP 4 y z) y 0,0,0,0,[]⟩,⟨3,bi (lfP 4 y z) 0 3,0,0,0,[]⟩]⟩)
 (zab 301))
 (ansY ⟨16,0,0,0,0,[⟨3,a,0,0,0,[]⟩,⟨3,0,0,0,0,[]⟩]⟩))
 (zab 301)):=by kernel_rfl
theorem zsy(J:Jmp)(y z lp a b:Nat):lblY Tryz.prog 133 za9 (zaf Tryz.prog) RE (finY Tryz.prog [.tmp 8,.tmp 9] [3,32]) (zad Tryz.f76) J [0,0,1,0,1,1] [i64 5,i64 y,u64 z,slP lp 1 [i64 a,i64 b],i64 2,i64 2] =
  (bi (nbeq (okN (zac Tryz.prog 145 [⟨3,5,0,0,0,[]⟩] ⟨8,bi (za3 5) 1 0,0,0,0,[]⟩)) 1)
 (bi (nbeq (bi (za3 5) 1 0) 1)
 (bi (nbeq (okN (zac Tryz.prog 146 [⟨3,5,0,0,0,[]⟩,⟨3,y,0,0,0,[]⟩,⟨7,z,0,0,0,[]⟩] ⟨16,0,0,0,0,[⟨3,bi (lfP 5 y z) y 0,0,0,0,[]⟩,⟨3,bi (lfP 5 y z) 0 3,0,0,0,[]⟩]⟩)) 1)
 (ansY ⟨16,0,0,0,0,[⟨3,bi (lfP 5 y z) y 0,0,0,0,[]⟩,⟨3,bi (lfP 5 y z) 0 3,0,0,0,[]⟩]⟩)
 (zab 301))
 (bi (nbeq (bi (nb (nbeq a b)) 1 0) 1)
 (ansY ⟨16,0,0,0,0,[⟨3,0,0,0,0,[]⟩,⟨3,3,0,0,0,[]⟩]⟩)
 (ansY ⟨16,0,0,0,0,[⟨3,a,0,0,0,[]⟩,⟨3,0,0,0,0,[]⟩]⟩)))
 (zab 301)):=by kernel_rfl
theorem zsz(J:Jmp)(y z lp a b:Nat):lblY Tryz.prog 133 za9 (zaf Tryz.prog) RE (finY Tryz.prog [.tmp 8,.tmp 9] [3,32]) (zad Tryz.f76) J [0,0,1,0,1,1] [i64 6,i64 y,u64 z,slP lp 1 [i64 a,i64 b],i64 2,i64 2] =
  (bi (nbeq (okN (zac Tryz.prog 145 [⟨3,6,0,0,0,[]⟩] ⟨8,bi (za3 6) 1 0,0,0,0,[]⟩)) 1)
 (bi (nbeq (bi (za3 6) 1 0) 1)
 (bi (nbeq (okN (zac Tryz.prog 146 [⟨3,6,0,0,0,[]⟩,⟨3,y,0,0,0,[]⟩,⟨7,z,0,0,0,[]⟩] ⟨16,0,0,0,0,[⟨3,bi (lfP 6 y z) y 0,0,0,0,[]⟩,⟨3,bi (lfP 6 y z) 0 3,0,0,0,[]⟩]⟩)) 1)
 (ansY ⟨16,0,0,0,0,[⟨3,bi (lfP 6 y z) y 0,0,0,0,[]⟩,⟨3,bi (lfP 6 y z) 0 3,0,0,0,[]⟩]⟩)
 (zab 301))
 (bi (nbeq (bi (nb (nbeq a b)) 1 0) 1)
 (ansY ⟨16,0,0,0,0,[⟨3,0,0,0,0,[]⟩,⟨3,3,0,0,0,[]⟩]⟩)
 (ansY ⟨16,0,0,0,0,[⟨3,a,0,0,0,[]⟩,⟨3,0,0,0,0,[]⟩]⟩)))
 (zab 301)):=by kernel_rfl
theorem zs0(J:Jmp)(y z lp a b:Nat):lblY Tryz.prog 133 za9 (zaf Tryz.prog) RE (finY Tryz.prog [.tmp 8,.tmp 9] [3,32]) (zad Tryz.f76) J [0,0,1,0,1,1] [i64 7,i64 y,u64 z,slP lp 1 [i64 a,i64 b],i64 2,i64 2] =
  (bi (nbeq (okN (zac Tryz.prog 145 [⟨3,7,0,0,0,[]⟩] ⟨8,bi (za3 7) 1 0,0,0,0,[]⟩)) 1)
 (bi (nbeq (bi (za3 7) 1 0) 1)
 (bi (nbeq (okN (zac Tryz.prog 146 [⟨3,7,0,0,0,[]⟩,⟨3,y,0,0,0,[]⟩,⟨7,z,0,0,0,[]⟩] ⟨16,0,0,0,0,[⟨3,bi (lfP 7 y z) y 0,0,0,0,[]⟩,⟨3,bi (lfP 7 y z) 0 3,0,0,0,[]⟩]⟩)) 1)
 (ansY ⟨16,0,0,0,0,[⟨3,bi (lfP 7 y z) y 0,0,0,0,[]⟩,⟨3,bi (lfP 7 y z) 0 3,0,0,0,[]⟩]⟩)
 (zab 301))
 (bi (nbeq (bi (nb (nbeq a b)) 1 0) 1)
 (ansY ⟨16,0,0,0,0,[⟨3,0,0,0,0,[]⟩,⟨3,3,0,0,0,[]⟩]⟩)
 (ansY ⟨16,0,0,0,0,[⟨3,a,0,0,0,[]⟩,⟨3,0,0,0,0,[]⟩]⟩)))
 (zab 301)):=by kernel_rfl
theorem zs1(J:Jmp)(y z lp a b:Nat):lblY Tryz.prog 133 za9 (zaf Tryz.prog) RE (finY Tryz.prog [.tmp 8,.tmp 9] [3,32]) (zad Tryz.f76) J [0,0,1,0,1,1] [i64 8,i64 y,u64 z,slP lp 1 [i64 a,i64 b],i64 2,i64 2] =
  (bi (nbeq (okN (zac Tryz.prog 145 [⟨3,8,0,0,0,[]⟩] ⟨8,bi (za3 8) 1 0,0,0,0,[]⟩)) 1)
 (bi (nbeq (bi (za3 8) 1 0) 1)
 (bi (nbeq (okN (zac Tryz.prog 146 [⟨3,8,0,0,0,[]⟩,⟨3,y,0,0,0,[]⟩,⟨7,z,0,0,0,[]⟩] ⟨16,0,0,0,0,[⟨3,bi (lfP 8 y z) y 0,0,0,0,[]⟩,⟨3,bi (lfP 8 y z) 0 3,0,0,0,[]⟩]⟩)) 1)
 (ansY ⟨16,0,0,0,0,[⟨3,bi (lfP 8 y z) y 0,0,0,0,[]⟩,⟨3,bi (lfP 8 y z) 0 3,0,0,0,[]⟩]⟩)
 (zab 301))
 (bi (nbeq (bi (nb (nbeq a b)) 1 0) 1)
 (ansY ⟨16,0,0,0,0,[⟨3,0,0,0,0,[]⟩,⟨3,3,0,0,0,[]⟩]⟩)
 (ansY ⟨16,0,0,0,0,[⟨3,a,0,0,0,[]⟩,⟨3,0,0,0,0,[]⟩]⟩)))
 (zab 301)):=by kernel_rfl
theorem zs2(J:Jmp)(y z lp a b:Nat):lblY Tryz.prog 133 za9 (zaf Tryz.prog) RE (finY Tryz.prog [.tmp 8,.tmp 9] [3,32]) (zad Tryz.f76) J [0,0,1,0,1,1] [i64 9,i64 y,u64 z,slP lp 1 [i64 a,i64 b],i64 2,i64 2] =
  (bi (nbeq (okN (zac Tryz.prog 145 [⟨3,9,0,0,0,[]⟩] ⟨8,bi (za3 9) 1 0,0,0,0,[]⟩)) 1)
 (bi (nbeq (bi (za3 9) 1 0) 1)
 (bi (nbeq (okN (zac Tryz.prog 146 [⟨3,9,0,0,0,[]⟩,⟨3,y,0,0,0,[]⟩,⟨7,z,0,0,0,[]⟩] ⟨16,0,0,0,0,[⟨3,bi (lfP 9 y z) y 0,0,0,0,[]⟩,⟨3,bi (lfP 9 y z) 0 3,0,0,0,[]⟩]⟩)) 1)
 (ansY ⟨16,0,0,0,0,[⟨3,bi (lfP 9 y z) y 0,0,0,0,[]⟩,⟨3,bi (lfP 9 y z) 0 3,0,0,0,[]⟩]⟩)
 (zab 301))
 (bi (nbeq (bi (nb (nbeq a b)) 1 0) 1)
 (ansY ⟨16,0,0,0,0,[⟨3,0,0,0,0,[]⟩,⟨3,3,0,0,0,[]⟩]⟩)
 (ansY ⟨16,0,0,0,0,[⟨3,a,0,0,0,[]⟩,⟨3,0,0,0,0,[]⟩]⟩)))
 (zab 301)):=by kernel_rfl
theorem zqk(J:Jmp)(y z lp a b:Nat):lblY Tryz.prog 133 za9 (zaf Tryz.prog) RE (finY Tryz.prog [.tmp 8,.tmp 9] [3,32]) (zad Tryz.f76) J [0,0,1,0,1,1] [i64 10,i64 y,u64 z,slP lp 1 [i64 a,i64 b],i64 2,i64 2] =
  (bi (nbeq (okN (zac Tryz.prog 145 [⟨3,10,0,0,0,[]⟩] ⟨8,bi (za3 10) 1 0,0,0,0,[]⟩)) 1)
 (bi (nbeq (bi (za3 10) 1 0) 1)
 (bi (nbeq (okN (zac Tryz.prog 146 [⟨3,10,0,0,0,[]⟩,⟨3,y,0,0,0,[]⟩,⟨7,z,0,0,0,[]⟩] ⟨16,0,0,0,0,[⟨3,bi (lfP 10 y z) y 0,0,0,0,[]⟩,⟨3,bi (lfP 10 y z) 0 3,0,0,0,[]⟩]⟩)) 1)
 (ansY ⟨16,0,0,0,0,[⟨3,bi (lfP 10 y z) y 0,0,0,0,[]⟩,⟨3,bi (lfP 10 y z) 0 3,0,0,0,[]⟩]⟩)
 (zab 301))
 (bi (nbeq (bi (nb (nbeq a b)) 1 0) 1)
 (ansY ⟨16,0,0,0,0,[⟨3,0,0,0,0,[]⟩,⟨3,3,0,0,0,[]⟩]⟩)
 (ansY ⟨16,0,0,0,0,[⟨3,a,0,0,0,[]⟩,⟨3,0,0,0,0,[]⟩]⟩)))
 (zab 301)):=by kernel_rfl
theorem zql(J:Jmp)(y z lp a b:Nat):lblY Tryz.prog 133 za9 (zaf Tryz.prog) RE (finY Tryz.prog [.tmp 8,.tmp 9] [3,32]) (zad Tryz.f76) J [0,0,1,0,1,1] [i64 11,i64 y,u64 z,slP lp 1 [i64 a,i64 b],i64 2,i64 2] =
  (bi (nbeq (okN (zac Tryz.prog 145 [⟨3,11,0,0,0,[]⟩] ⟨8,bi (za3 11) 1 0,0,0,0,[]⟩)) 1)
 (bi (nbeq (bi (za3 11) 1 0) 1)
 (bi (nbeq (okN (zac Tryz.prog 146 [⟨3,11,0,0,0,[]⟩,⟨3,y,0,0,0,[]⟩,⟨7,z,0,0,0,[]⟩] ⟨16,0,0,0,0,[⟨3,bi (lfP 11 y z) y 0,0,0,0,[]⟩,⟨3,bi (lfP 11 y z) 0 3,0,0,0,[]⟩]⟩)) 1)
 (ansY ⟨16,0,0,0,0,[⟨3,bi (lfP 11 y z) y 0,0,0,0,[]⟩,⟨3,bi (lfP 11 y z) 0 3,0,0,0,[]⟩]⟩)
 (zab 301))
 (bi (nbeq (bi (nb (nbeq a b)) 1 0) 1)
 (ansY ⟨16,0,0,0,0,[⟨3,0,0,0,0,[]⟩,⟨3,3,0,0,0,[]⟩]⟩)
 (ansY ⟨16,0,0,0,0,[⟨3,a,0,0,0,[]⟩,⟨3,0,0,0,0,[]⟩]⟩)))
 (zab 301)):=by kernel_rfl
theorem zqm(J:Jmp)(y z lp a b:Nat):lblY Tryz.prog 133 za9 (zaf Tryz.prog) RE (finY Tryz.prog [.tmp 8,.tmp 9] [3,32]) (zad Tryz.f76) J [0,0,1,0,1,1] [i64 12,i64 y,u64 z,slP lp 1 [i64 a,i64 b],i64 2,i64 2] =
  (bi (nbeq (okN (zac Tryz.prog 145 [⟨3,12,0,0,0,[]⟩] ⟨8,bi (za3 12) 1 0,0,0,0,[]⟩)) 1)
 (bi (nbeq (bi (za3 12) 1 0) 1)
 (bi (nbeq (okN (zac Tryz.prog 146 [⟨3,12,0,0,0,[]⟩,⟨3,y,0,0,0,[]⟩,⟨7,z,0,0,0,[]⟩] ⟨16,0,0,0,0,[⟨3,bi (lfP 12 y z) y 0,0,0,0,[]⟩,⟨3,bi (lfP 12 y z) 0 3,0,0,0,[]⟩]⟩)) 1)
 (ansY ⟨16,0,0,0,0,[⟨3,bi (lfP 12 y z) y 0,0,0,0,[]⟩,⟨3,bi (lfP 12 y z) 0 3,0,0,0,[]⟩]⟩)
 (zab 301))
 (bi (nbeq (bi (nb (nbeq a b)) 1 0) 1)
 (ansY ⟨16,0,0,0,0,[⟨3,0,0,0,0,[]⟩,⟨3,3,0,0,0,[]⟩]⟩)
 (ansY ⟨16,0,0,0,0,[⟨3,a,0,0,0,[]⟩,⟨3,0,0,0,0,[]⟩]⟩)))
 (zab 301)):=by kernel_rfl
theorem zqn(J:Jmp)(y z lp a b:Nat):lblY Tryz.prog 133 za9 (zaf Tryz.prog) RE (finY Tryz.prog [.tmp 8,.tmp 9] [3,32]) (zad Tryz.f76) J [0,0,1,0,1,1] [i64 13,i64 y,u64 z,slP lp 1 [i64 a,i64 b],i64 2,i64 2] =
  (bi (nbeq (okN (zac Tryz.prog 145 [⟨3,13,0,0,0,[]⟩] ⟨8,bi (za3 13) 1 0,0,0,0,[]⟩)) 1)
 (bi (nbeq (bi (za3 13) 1 0) 1)
 (bi (nbeq (okN (zac Tryz.prog 146 [⟨3,13,0,0,0,[]⟩,⟨3,y,0,0,0,[]⟩,⟨7,z,0,0,0,[]⟩] ⟨16,0,0,0,0,[⟨3,bi (lfP 13 y z) y 0,0,0,0,[]⟩,⟨3,bi (lfP 13 y z) 0 3,0,0,0,[]⟩]⟩)) 1)
 (ansY ⟨16,0,0,0,0,[⟨3,bi (lfP 13 y z) y 0,0,0,0,[]⟩,⟨3,bi (lfP 13 y z) 0 3,0,0,0,[]⟩]⟩)
 (zab 301))
 (bi (nbeq (bi (nb (nbeq a b)) 1 0) 1)
 (ansY ⟨16,0,0,0,0,[⟨3,0,0,0,0,[]⟩,⟨3,3,0,0,0,[]⟩]⟩)
 (ansY ⟨16,0,0,0,0,[⟨3,a,0,0,0,[]⟩,⟨3,0,0,0,0,[]⟩]⟩)))
 (zab 301)):=by kernel_rfl
theorem zqo(J:Jmp)(y z lp a b:Nat):lblY Tryz.prog 133 za9 (zaf Tryz.prog) RE (finY Tryz.prog [.tmp 8,.tmp 9] [3,32]) (zad Tryz.f76) J [0,0,1,0,1,1] [i64 14,i64 y,u64 z,slP lp 1 [i64 a,i64 b],i64 2,i64 2] =
  (bi (nbeq (okN (zac Tryz.prog 145 [⟨3,14,0,0,0,[]⟩] ⟨8,bi (za3 14) 1 0,0,0,0,[]⟩)) 1)
 (bi (nbeq (bi (za3 14) 1 0) 1)
 (bi (nbeq (okN (zac Tryz.prog 146 [⟨3,14,0,0,0,[]⟩,⟨3,y,0,0,0,[]⟩,⟨7,z,0,0,0,[]⟩] ⟨16,0,0,0,0,[⟨3,bi (lfP 14 y z) y 0,0,0,0,[]⟩,⟨3,bi (lfP 14 y z) 0 3,0,0,0,[]⟩]⟩)) 1)
 (ansY ⟨16,0,0,0,0,[⟨3,bi (lfP 14 y z) y 0,0,0,0,[]⟩,⟨3,bi (lfP 14 y z) 0 3,0,0,0,[]⟩]⟩)
 (zab 301))
 (bi (nbeq (bi (nb (nbeq a b)) 1 0) 1)
 (ansY ⟨16,0,0,0,0,[⟨3,0,0,0,0,[]⟩,⟨3,3,0,0,0,[]⟩]⟩)
 (ansY ⟨16,0,0,0,0,[⟨3,a,0,0,0,[]⟩,⟨3,0,0,0,0,[]⟩]⟩)))
 (zab 301)):=by kernel_rfl
theorem zqp(J:Jmp)(y z lp a b:Nat):lblY Tryz.prog 133 za9 (zaf Tryz.prog) RE (finY Tryz.prog [.tmp 8,.tmp 9] [3,32]) (zad Tryz.f76) J [0,0,1,0,1,1] [i64 15,i64 y,u64 z,slP lp 1 [i64 a,i64 b],i64 2,i64 2] =
  (bi (nbeq (okN (zac Tryz.prog 145 [⟨3,15,0,0,0,[]⟩] ⟨8,bi (za3 15) 1 0,0,0,0,[]⟩)) 1)
 (bi (nbeq (bi (za3 15) 1 0) 1)
 (bi (nbeq (okN (zac Tryz.prog 146 [⟨3,15,0,0,0,[]⟩,⟨3,y,0,0,0,[]⟩,⟨7,z,0,0,0,[]⟩] ⟨16,0,0,0,0,[⟨3,bi (lfP 15 y z) y 0,0,0,0,[]⟩,⟨3,bi (lfP 15 y z) 0 3,0,0,0,[]⟩]⟩)) 1)
 (ansY ⟨16,0,0,0,0,[⟨3,bi (lfP 15 y z) y 0,0,0,0,[]⟩,⟨3,bi (lfP 15 y z) 0 3,0,0,0,[]⟩]⟩)
 (zab 301))
 (bi (nbeq (bi (nb (nbeq a b)) 1 0) 1)
 (ansY ⟨16,0,0,0,0,[⟨3,0,0,0,0,[]⟩,⟨3,3,0,0,0,[]⟩]⟩)
 (ansY ⟨16,0,0,0,0,[⟨3,a,0,0,0,[]⟩,⟨3,0,0,0,0,[]⟩]⟩)))
 (zab 301)):=by kernel_rfl
theorem zqq(J:Jmp)(y z lp a b:Nat):lblY Tryz.prog 133 za9 (zaf Tryz.prog) RE (finY Tryz.prog [.tmp 8,.tmp 9] [3,32]) (zad Tryz.f76) J [0,0,1,0,1,1] [i64 16,i64 y,u64 z,slP lp 1 [i64 a,i64 b],i64 2,i64 2] =
  (bi (nbeq (okN (zac Tryz.prog 145 [⟨3,16,0,0,0,[]⟩] ⟨8,bi (za3 16) 1 0,0,0,0,[]⟩)) 1)
 (bi (nbeq (bi (za3 16) 1 0) 1)
 (bi (nbeq (okN (zac Tryz.prog 146 [⟨3,16,0,0,0,[]⟩,⟨3,y,0,0,0,[]⟩,⟨7,z,0,0,0,[]⟩] ⟨16,0,0,0,0,[⟨3,bi (lfP 16 y z) y 0,0,0,0,[]⟩,⟨3,bi (lfP 16 y z) 0 3,0,0,0,[]⟩]⟩)) 1)
 (ansY ⟨16,0,0,0,0,[⟨3,bi (lfP 16 y z) y 0,0,0,0,[]⟩,⟨3,bi (lfP 16 y z) 0 3,0,0,0,[]⟩]⟩)
 (zab 301))
 (bi (nbeq (bi (nb (nbeq a b)) 1 0) 1)
 (ansY ⟨16,0,0,0,0,[⟨3,0,0,0,0,[]⟩,⟨3,3,0,0,0,[]⟩]⟩)
 (ansY ⟨16,0,0,0,0,[⟨3,1,0,0,0,[]⟩,⟨3,0,0,0,0,[]⟩]⟩)))
 (zab 301)):=by kernel_rfl
theorem zqr(J:Jmp)(y z lp a b:Nat):lblY Tryz.prog 133 za9 (zaf Tryz.prog) RE (finY Tryz.prog [.tmp 8,.tmp 9] [3,32]) (zad Tryz.f76) J [0,0,1,0,1,1] [i64 17,i64 y,u64 z,slP lp 1 [i64 a,i64 b],i64 2,i64 2] =
  (bi (nbeq (okN (zac Tryz.prog 145 [⟨3,17,0,0,0,[]⟩] ⟨8,bi (za3 17) 1 0,0,0,0,[]⟩)) 1)
 (bi (nbeq (bi (za3 17) 1 0) 1)
 (bi (nbeq (okN (zac Tryz.prog 146 [⟨3,17,0,0,0,[]⟩,⟨3,y,0,0,0,[]⟩,⟨7,z,0,0,0,[]⟩] ⟨16,0,0,0,0,[⟨3,bi (lfP 17 y z) y 0,0,0,0,[]⟩,⟨3,bi (lfP 17 y z) 0 3,0,0,0,[]⟩]⟩)) 1)
 (ansY ⟨16,0,0,0,0,[⟨3,bi (lfP 17 y z) y 0,0,0,0,[]⟩,⟨3,bi (lfP 17 y z) 0 3,0,0,0,[]⟩]⟩)
 (zab 301))
 (bi (nbeq (bi (nb (nbeq a b)) 1 0) 1)
 (ansY ⟨16,0,0,0,0,[⟨3,0,0,0,0,[]⟩,⟨3,3,0,0,0,[]⟩]⟩)
 (ansY ⟨16,0,0,0,0,[⟨3,1,0,0,0,[]⟩,⟨3,0,0,0,0,[]⟩]⟩)))
 (zab 301)):=by kernel_rfl
theorem zqs(J:Jmp)(y z lp a b:Nat):lblY Tryz.prog 133 za9 (zaf Tryz.prog) RE (finY Tryz.prog [.tmp 8,.tmp 9] [3,32]) (zad Tryz.f76) J [0,0,1,0,1,1] [i64 18,i64 y,u64 z,slP lp 1 [i64 a,i64 b],i64 2,i64 2] =
  (bi (nbeq (okN (zac Tryz.prog 145 [⟨3,18,0,0,0,[]⟩] ⟨8,bi (za3 18) 1 0,0,0,0,[]⟩)) 1)
 (bi (nbeq (bi (za3 18) 1 0) 1)
 (bi (nbeq (okN (zac Tryz.prog 146 [⟨3,18,0,0,0,[]⟩,⟨3,y,0,0,0,[]⟩,⟨7,z,0,0,0,[]⟩] ⟨16,0,0,0,0,[⟨3,bi (lfP 18 y z) y 0,0,0,0,[]⟩,⟨3,bi (lfP 18 y z) 0 3,0,0,0,[]⟩]⟩)) 1)
 (ansY ⟨16,0,0,0,0,[⟨3,bi (lfP 18 y z) y 0,0,0,0,[]⟩,⟨3,bi (lfP 18 y z) 0 3,0,0,0,[]⟩]⟩)
 (zab 301))
 (bi (nbeq (bi (nb (nbeq a b)) 1 0) 1)
 (ansY ⟨16,0,0,0,0,[⟨3,0,0,0,0,[]⟩,⟨3,3,0,0,0,[]⟩]⟩)
 (ansY ⟨16,0,0,0,0,[⟨3,1,0,0,0,[]⟩,⟨3,0,0,0,0,[]⟩]⟩)))
 (zab 301)):=by kernel_rfl
theorem zqt(J:Jmp)(y z lp a:Nat):lblY Tryz.prog 144 za8 (zaf Tryz.prog) RE (finY Tryz.prog [.tmp 8,.tmp 9] [3,32]) (zad Tryz.f69) J [0,0,1,0,1,1] [i64 21,i64 y,u64 z,slP lp 1 [i64 a],slP lp 1 [i64 a],i64 1,i64 1] =
  (bi (nbeq (okN (zac Tryz.prog 135 [⟨3,21,0,0,0,[]⟩,⟨3,y,0,0,0,[]⟩,⟨7,z,0,0,0,[]⟩,⟨3,a,0,0,0,[]⟩] ⟨16,0,0,0,0,[⟨3,bi (rsP 21 y z a) y 0,0,0,0,[]⟩,⟨3,bi (rsP 21 y z a) 0 3,0,0,0,[]⟩]⟩)) 1)
 (ansY ⟨16,0,0,0,0,[⟨3,bi (rsP 21 y z a) y 0,0,0,0,[]⟩,⟨3,bi (rsP 21 y z a) 0 3,0,0,0,[]⟩]⟩)
 (zab 301)):=by kernel_rfl
theorem zqu(J:Jmp)(y z lp a:Nat):lblY Tryz.prog 144 za8 (zaf Tryz.prog) RE (finY Tryz.prog [.tmp 8,.tmp 9] [3,32]) (zad Tryz.f69) J [0,0,1,0,1,1] [i64 22,i64 y,u64 z,slP lp 1 [i64 a],slP lp 1 [i64 a],i64 1,i64 1] =
  (bi (nbeq (okN (zac Tryz.prog 135 [⟨3,22,0,0,0,[]⟩,⟨3,y,0,0,0,[]⟩,⟨7,z,0,0,0,[]⟩,⟨3,a,0,0,0,[]⟩] ⟨16,0,0,0,0,[⟨3,bi (rsP 22 y z a) y 0,0,0,0,[]⟩,⟨3,bi (rsP 22 y z a) 0 3,0,0,0,[]⟩]⟩)) 1)
 (ansY ⟨16,0,0,0,0,[⟨3,bi (rsP 22 y z a) y 0,0,0,0,[]⟩,⟨3,bi (rsP 22 y z a) 0 3,0,0,0,[]⟩]⟩)
 (zab 301)):=by kernel_rfl
theorem zqv(J:Jmp)(y z lp a:Nat):lblY Tryz.prog 144 za8 (zaf Tryz.prog) RE (finY Tryz.prog [.tmp 8,.tmp 9] [3,32]) (zad Tryz.f69) J [0,0,1,0,1,1] [i64 23,i64 y,u64 z,slP lp 1 [i64 a],slP lp 1 [i64 a],i64 1,i64 1] =
  (bi (nbeq (okN (zac Tryz.prog 135 [⟨3,23,0,0,0,[]⟩,⟨3,y,0,0,0,[]⟩,⟨7,z,0,0,0,[]⟩,⟨3,a,0,0,0,[]⟩] ⟨16,0,0,0,0,[⟨3,bi (rsP 23 y z a) y 0,0,0,0,[]⟩,⟨3,bi (rsP 23 y z a) 0 3,0,0,0,[]⟩]⟩)) 1)
 (ansY ⟨16,0,0,0,0,[⟨3,bi (rsP 23 y z a) y 0,0,0,0,[]⟩,⟨3,bi (rsP 23 y z a) 0 3,0,0,0,[]⟩]⟩)
 (zab 301)):=by kernel_rfl
theorem zqw(J:Jmp)(y z lp:Nat):lblY Tryz.prog 144 za8 (zaf Tryz.prog) RE (finY Tryz.prog [.tmp 8,.tmp 9] [3,32]) (zad Tryz.f69) J [0,0,1,0,1,1] [i64 24,i64 y,u64 z,slP lp 1 [],slP lp 1 [],i64 0,i64 0] =
  (bi (nbeq (okN (zac Tryz.prog 134 [⟨3,24,0,0,0,[]⟩,⟨3,y,0,0,0,[]⟩,⟨7,z,0,0,0,[]⟩] ⟨16,0,0,0,0,[⟨3,bi (lfP 24 y z) y 0,0,0,0,[]⟩,⟨3,bi (lfP 24 y z) 0 3,0,0,0,[]⟩]⟩)) 1)
 (ansY ⟨16,0,0,0,0,[⟨3,bi (lfP 24 y z) y 0,0,0,0,[]⟩,⟨3,bi (lfP 24 y z) 0 3,0,0,0,[]⟩]⟩)
 (zab 301)):=by kernel_rfl
theorem zqx(J:Jmp)(y z lp:Nat):lblY Tryz.prog 144 za8 (zaf Tryz.prog) RE (finY Tryz.prog [.tmp 8,.tmp 9] [3,32]) (zad Tryz.f69) J [0,0,1,0,1,1] [i64 25,i64 y,u64 z,slP lp 1 [],slP lp 1 [],i64 0,i64 0] =
  (bi (nbeq (okN (zac Tryz.prog 134 [⟨3,25,0,0,0,[]⟩,⟨3,y,0,0,0,[]⟩,⟨7,z,0,0,0,[]⟩] ⟨16,0,0,0,0,[⟨3,bi (lfP 25 y z) y 0,0,0,0,[]⟩,⟨3,bi (lfP 25 y z) 0 3,0,0,0,[]⟩]⟩)) 1)
 (ansY ⟨16,0,0,0,0,[⟨3,bi (lfP 25 y z) y 0,0,0,0,[]⟩,⟨3,bi (lfP 25 y z) 0 3,0,0,0,[]⟩]⟩)
 (zab 301)):=by kernel_rfl
theorem zqy(J:Jmp)(y z lp a:Nat):lblY Tryz.prog 144 za8 (zaf Tryz.prog) RE (finY Tryz.prog [.tmp 8,.tmp 9] [3,32]) (zad Tryz.f69) J [0,0,1,0,1,1] [i64 26,i64 y,u64 z,slP lp 1 [i64 a],slP lp 1 [i64 a],i64 1,i64 1] =
  (ansY ⟨16,0,0,0,0,[⟨3,a,0,0,0,[]⟩,⟨3,0,0,0,0,[]⟩]⟩):=by kernel_rfl
theorem zqz(J:Jmp)(y z lp a:Nat):lblY Tryz.prog 133 za9 (zaf Tryz.prog) RE (finY Tryz.prog [.tmp 8,.tmp 9] [3,32]) (zad Tryz.f76) J [0,0,1,0,1,1] [i64 21,i64 y,u64 z,slP lp 1 [i64 a],i64 1,i64 1] =
  (bi (nbeq (okN (zac Tryz.prog 145 [⟨3,21,0,0,0,[]⟩] ⟨8,bi (za3 21) 1 0,0,0,0,[]⟩)) 1)
 (bi (nbeq (bi (za3 21) 1 0) 1)
 (bi (nbeq (okN (zac Tryz.prog 146 [⟨3,21,0,0,0,[]⟩,⟨3,y,0,0,0,[]⟩,⟨7,z,0,0,0,[]⟩] ⟨16,0,0,0,0,[⟨3,bi (lfP 21 y z) y 0,0,0,0,[]⟩,⟨3,bi (lfP 21 y z) 0 3,0,0,0,[]⟩]⟩)) 1)
 (ansY ⟨16,0,0,0,0,[⟨3,bi (lfP 21 y z) y 0,0,0,0,[]⟩,⟨3,bi (lfP 21 y z) 0 3,0,0,0,[]⟩]⟩)
 (zab 301))
 (bi (nbeq (okN (zac Tryz.prog 147 [⟨3,21,0,0,0,[]⟩,⟨3,y,0,0,0,[]⟩,⟨7,z,0,0,0,[]⟩,⟨3,a,0,0,0,[]⟩] ⟨16,0,0,0,0,[⟨3,bi (rsP 21 y z a) y 0,0,0,0,[]⟩,⟨3,bi (rsP 21 y z a) 0 3,0,0,0,[]⟩]⟩)) 1)
 (ansY ⟨16,0,0,0,0,[⟨3,bi (rsP 21 y z a) y 0,0,0,0,[]⟩,⟨3,bi (rsP 21 y z a) 0 3,0,0,0,[]⟩]⟩)
 (zab 301)))
 (zab 301)):=by kernel_rfl
theorem zq0(J:Jmp)(y z lp a:Nat):lblY Tryz.prog 133 za9 (zaf Tryz.prog) RE (finY Tryz.prog [.tmp 8,.tmp 9] [3,32]) (zad Tryz.f76) J [0,0,1,0,1,1] [i64 22,i64 y,u64 z,slP lp 1 [i64 a],i64 1,i64 1] =
  (bi (nbeq (okN (zac Tryz.prog 145 [⟨3,22,0,0,0,[]⟩] ⟨8,bi (za3 22) 1 0,0,0,0,[]⟩)) 1)
 (bi (nbeq (bi (za3 22) 1 0) 1)
 (bi (nbeq (okN (zac Tryz.prog 146 [⟨3,22,0,0,0,[]⟩,⟨3,y,0,0,0,[]⟩,⟨7,z,0,0,0,[]⟩] ⟨16,0,0,0,0,[⟨3,bi (lfP 22 y z) y 0,0,0,0,[]⟩,⟨3,bi (lfP 22 y z) 0 3,0,0,0,[]⟩]⟩)) 1)
 (ansY ⟨16,0,0,0,0,[⟨3,bi (lfP 22 y z) y 0,0,0,0,[]⟩,⟨3,bi (lfP 22 y z) 0 3,0,0,0,[]⟩]⟩)
 (zab 301))
 (bi (nbeq (okN (zac Tryz.prog 147 [⟨3,22,0,0,0,[]⟩,⟨3,y,0,0,0,[]⟩,⟨7,z,0,0,0,[]⟩,⟨3,a,0,0,0,[]⟩] ⟨16,0,0,0,0,[⟨3,bi (rsP 22 y z a) y 0,0,0,0,[]⟩,⟨3,bi (rsP 22 y z a) 0 3,0,0,0,[]⟩]⟩)) 1)
 (ansY ⟨16,0,0,0,0,[⟨3,bi (rsP 22 y z a) y 0,0,0,0,[]⟩,⟨3,bi (rsP 22 y z a) 0 3,0,0,0,[]⟩]⟩)
 (zab 301)))
 (zab 301)):=by kernel_rfl
theorem zq1(J:Jmp)(y z lp a:Nat):lblY Tryz.prog 133 za9 (zaf Tryz.prog) RE (finY Tryz.prog [.tmp 8,.tmp 9] [3,32]) (zad Tryz.f76) J [0,0,1,0,1,1] [i64 23,i64 y,u64 z,slP lp 1 [i64 a],i64 1,i64 1] =
  (bi (nbeq (okN (zac Tryz.prog 145 [⟨3,23,0,0,0,[]⟩] ⟨8,bi (za3 23) 1 0,0,0,0,[]⟩)) 1)
 (bi (nbeq (bi (za3 23) 1 0) 1)
 (bi (nbeq (okN (zac Tryz.prog 146 [⟨3,23,0,0,0,[]⟩,⟨3,y,0,0,0,[]⟩,⟨7,z,0,0,0,[]⟩] ⟨16,0,0,0,0,[⟨3,bi (lfP 23 y z) y 0,0,0,0,[]⟩,⟨3,bi (lfP 23 y z) 0 3,0,0,0,[]⟩]⟩)) 1)
 (ansY ⟨16,0,0,0,0,[⟨3,bi (lfP 23 y z) y 0,0,0,0,[]⟩,⟨3,bi (lfP 23 y z) 0 3,0,0,0,[]⟩]⟩)
 (zab 301))
 (bi (nbeq (okN (zac Tryz.prog 147 [⟨3,23,0,0,0,[]⟩,⟨3,y,0,0,0,[]⟩,⟨7,z,0,0,0,[]⟩,⟨3,a,0,0,0,[]⟩] ⟨16,0,0,0,0,[⟨3,bi (rsP 23 y z a) y 0,0,0,0,[]⟩,⟨3,bi (rsP 23 y z a) 0 3,0,0,0,[]⟩]⟩)) 1)
 (ansY ⟨16,0,0,0,0,[⟨3,bi (rsP 23 y z a) y 0,0,0,0,[]⟩,⟨3,bi (rsP 23 y z a) 0 3,0,0,0,[]⟩]⟩)
 (zab 301)))
 (zab 301)):=by kernel_rfl
theorem zq2(J:Jmp)(y z lp:Nat):lblY Tryz.prog 133 za9 (zaf Tryz.prog) RE (finY Tryz.prog [.tmp 8,.tmp 9] [3,32]) (zad Tryz.f76) J [0,0,1,0,1,1] [i64 24,i64 y,u64 z,slP lp 1 [],i64 0,i64 0] =
  (bi (nbeq (okN (zac Tryz.prog 145 [⟨3,24,0,0,0,[]⟩] ⟨8,bi (za3 24) 1 0,0,0,0,[]⟩)) 1)
 (bi (nbeq (bi (za3 24) 1 0) 1)
 (bi (nbeq (okN (zac Tryz.prog 146 [⟨3,24,0,0,0,[]⟩,⟨3,y,0,0,0,[]⟩,⟨7,z,0,0,0,[]⟩] ⟨16,0,0,0,0,[⟨3,bi (lfP 24 y z) y 0,0,0,0,[]⟩,⟨3,bi (lfP 24 y z) 0 3,0,0,0,[]⟩]⟩)) 1)
 (ansY ⟨16,0,0,0,0,[⟨3,bi (lfP 24 y z) y 0,0,0,0,[]⟩,⟨3,bi (lfP 24 y z) 0 3,0,0,0,[]⟩]⟩)
 (zab 301))
 (zab 205))
 (zab 301)):=by kernel_rfl
theorem zq3(J:Jmp)(y z lp:Nat):lblY Tryz.prog 133 za9 (zaf Tryz.prog) RE (finY Tryz.prog [.tmp 8,.tmp 9] [3,32]) (zad Tryz.f76) J [0,0,1,0,1,1] [i64 25,i64 y,u64 z,slP lp 1 [],i64 0,i64 0] =
  (bi (nbeq (okN (zac Tryz.prog 145 [⟨3,25,0,0,0,[]⟩] ⟨8,bi (za3 25) 1 0,0,0,0,[]⟩)) 1)
 (bi (nbeq (bi (za3 25) 1 0) 1)
 (bi (nbeq (okN (zac Tryz.prog 146 [⟨3,25,0,0,0,[]⟩,⟨3,y,0,0,0,[]⟩,⟨7,z,0,0,0,[]⟩] ⟨16,0,0,0,0,[⟨3,bi (lfP 25 y z) y 0,0,0,0,[]⟩,⟨3,bi (lfP 25 y z) 0 3,0,0,0,[]⟩]⟩)) 1)
 (ansY ⟨16,0,0,0,0,[⟨3,bi (lfP 25 y z) y 0,0,0,0,[]⟩,⟨3,bi (lfP 25 y z) 0 3,0,0,0,[]⟩]⟩)
 (zab 301))
 (zab 205))
 (zab 301)):=by kernel_rfl
theorem zq4(J:Jmp)(y z lp a:Nat):lblY Tryz.prog 133 za9 (zaf Tryz.prog) RE (finY Tryz.prog [.tmp 8,.tmp 9] [3,32]) (zad Tryz.f76) J [0,0,1,0,1,1] [i64 26,i64 y,u64 z,slP lp 1 [i64 a],i64 1,i64 1] =
  (bi (nbeq (okN (zac Tryz.prog 145 [⟨3,26,0,0,0,[]⟩] ⟨8,bi (za3 26) 1 0,0,0,0,[]⟩)) 1)
 (bi (nbeq (bi (za3 26) 1 0) 1)
 (bi (nbeq (okN (zac Tryz.prog 146 [⟨3,26,0,0,0,[]⟩,⟨3,y,0,0,0,[]⟩,⟨7,z,0,0,0,[]⟩] ⟨16,0,0,0,0,[⟨3,bi (lfP 26 y z) y 0,0,0,0,[]⟩,⟨3,bi (lfP 26 y z) 0 3,0,0,0,[]⟩]⟩)) 1)
 (ansY ⟨16,0,0,0,0,[⟨3,bi (lfP 26 y z) y 0,0,0,0,[]⟩,⟨3,bi (lfP 26 y z) 0 3,0,0,0,[]⟩]⟩)
 (zab 301))
 (ansY ⟨16,0,0,0,0,[⟨3,a,0,0,0,[]⟩,⟨3,0,0,0,0,[]⟩]⟩))
 (zab 301)):=by kernel_rfl
theorem zq5(J:Jmp)(y z lp a b c:Nat):lblY Tryz.prog 144 za8 (zaf Tryz.prog) RE (finY Tryz.prog [.tmp 8,.tmp 9] [3,32]) (zad Tryz.f69) J [0,0,1,0,1,1] [i64 19,i64 y,u64 z,slP lp 1 [i64 a,i64 b,i64 c],slP lp 1 [i64 a,i64 b,i64 c],i64 3,i64 3] =
  (bi (nbeq (bi (nbeq a 1) 1 0) 1)
 (bi (nbeq (okN (zac Tryz.prog 136 [⟨8,bi (nbeq b c) 1 0,0,0,0,[]⟩,⟨3,b,0,0,0,[]⟩] ⟨16,0,0,0,0,[⟨3,bi (nbeq (bi (nbeq b c) 1 0) 1) b 0,0,0,0,[]⟩,⟨3,bi (nbeq (bi (nbeq b c) 1 0) 1) 0 3,0,0,0,[]⟩]⟩)) 1)
 (ansY ⟨16,0,0,0,0,[⟨3,bi (nbeq (bi (nbeq b c) 1 0) 1) b 0,0,0,0,[]⟩,⟨3,bi (nbeq (bi (nbeq b c) 1 0) 1) 0 3,0,0,0,[]⟩]⟩)
 (zab 301))
 (bi (nbeq (bi (nbeq a 1) 1 0) 0)
 (bi (nbeq (okN (zac Tryz.prog 136 [⟨8,0,0,0,0,[]⟩,⟨3,b,0,0,0,[]⟩] ⟨16,0,0,0,0,[⟨3,0,0,0,0,[]⟩,⟨3,3,0,0,0,[]⟩]⟩)) 1)
 (ansY ⟨16,0,0,0,0,[⟨3,0,0,0,0,[]⟩,⟨3,3,0,0,0,[]⟩]⟩)
 (zab 301))
 (zab 40))):=by kernel_rfl
theorem zq6(J:Jmp)(y z lp a b c:Nat):lblY Tryz.prog 133 za9 (zaf Tryz.prog) RE (finY Tryz.prog [.tmp 8,.tmp 9] [3,32]) (zad Tryz.f76) J [0,0,1,0,1,1] [i64 19,i64 y,u64 z,slP lp 1 [i64 a,i64 b,i64 c],i64 3,i64 3] =
  (bi (nbeq (okN (zac Tryz.prog 145 [⟨3,19,0,0,0,[]⟩] ⟨8,bi (za3 19) 1 0,0,0,0,[]⟩)) 1)
 (bi (nbeq (bi (za3 19) 1 0) 1)
 (bi (nbeq (okN (zac Tryz.prog 146 [⟨3,19,0,0,0,[]⟩,⟨3,y,0,0,0,[]⟩,⟨7,z,0,0,0,[]⟩] ⟨16,0,0,0,0,[⟨3,bi (lfP 19 y z) y 0,0,0,0,[]⟩,⟨3,bi (lfP 19 y z) 0 3,0,0,0,[]⟩]⟩)) 1)
 (ansY ⟨16,0,0,0,0,[⟨3,bi (lfP 19 y z) y 0,0,0,0,[]⟩,⟨3,bi (lfP 19 y z) 0 3,0,0,0,[]⟩]⟩)
 (zab 301))
 (bi (nbeq (bi (nb (nbeq a 1)) 1 0) 1)
 (ansY ⟨16,0,0,0,0,[⟨3,0,0,0,0,[]⟩,⟨3,3,0,0,0,[]⟩]⟩)
 (bi (nbeq (bi (nb (nbeq a 1)) 1 0) 0)
 (bi (nbeq (bi (nb (nbeq b c)) 1 0) 1)
 (ansY ⟨16,0,0,0,0,[⟨3,0,0,0,0,[]⟩,⟨3,3,0,0,0,[]⟩]⟩)
 (ansY ⟨16,0,0,0,0,[⟨3,b,0,0,0,[]⟩,⟨3,0,0,0,0,[]⟩]⟩))
 (zab 40))))
 (zab 301)):=by kernel_rfl
theorem zq7(J:Jmp)(y z lp a b:Nat):lblY Tryz.prog 133 za9 (zaf Tryz.prog) RE (finY Tryz.prog [.tmp 8,.tmp 9] [3,32]) (zad Tryz.f76) J [0,0,1,0,1,1] [i64 20,i64 y,u64 z,slP lp 1 [i64 a,i64 b],i64 2,i64 2] =
  (bi (nbeq (okN (zac Tryz.prog 145 [⟨3,20,0,0,0,[]⟩] ⟨8,bi (za3 20) 1 0,0,0,0,[]⟩)) 1)
 (bi (nbeq (bi (za3 20) 1 0) 1)
 (bi (nbeq (okN (zac Tryz.prog 146 [⟨3,20,0,0,0,[]⟩,⟨3,y,0,0,0,[]⟩,⟨7,z,0,0,0,[]⟩] ⟨16,0,0,0,0,[⟨3,bi (lfP 20 y z) y 0,0,0,0,[]⟩,⟨3,bi (lfP 20 y z) 0 3,0,0,0,[]⟩]⟩)) 1)
 (ansY ⟨16,0,0,0,0,[⟨3,bi (lfP 20 y z) y 0,0,0,0,[]⟩,⟨3,bi (lfP 20 y z) 0 3,0,0,0,[]⟩]⟩)
 (zab 301))
 (bi (nbeq (bi (nb (nble 9223372036854775809 (biased 3 a))) 1 0) 1)
 (ansY ⟨16,0,0,0,0,[⟨3,0,0,0,0,[]⟩,⟨3,3,0,0,0,[]⟩]⟩)
 (bi (nbeq (bi (nb (nble 9223372036854775809 (biased 3 a))) 1 0) 0)
 (bi (nbeq (bi (nb (nble 9223372036854775809 (biased 3 b))) 1 0) 1)
 (ansY ⟨16,0,0,0,0,[⟨3,0,0,0,0,[]⟩,⟨3,3,0,0,0,[]⟩]⟩)
 (bi (nbeq (bi (nb (nble 9223372036854775809 (biased 3 b))) 1 0) 0)
 (bi (nbeq (bi (nb (nble (biased 3 (gt2 (fun a b=>(a.add b).mod (kMod (zap IntKind.i64))) a b)) 9223372036854775872)) 1 0) 1)
 (ansY ⟨16,0,0,0,0,[⟨3,0,0,0,0,[]⟩,⟨3,3,0,0,0,[]⟩]⟩)
 (ansY ⟨16,0,0,0,0,[⟨3,gt2 (fun a b=>(a.add b).mod (kMod (zap IntKind.i64))) a b,0,0,0,[]⟩,⟨3,0,0,0,0,[]⟩]⟩))
 (zab 40)))
 (zab 40))))
 (zab 301)):=by kernel_rfl
theorem zq8(J:Jmp)(y z lp a b:Nat):lblY Tryz.prog 144 za8 (zaf Tryz.prog) RE (finY Tryz.prog [.tmp 8,.tmp 9] [3,32]) (zad Tryz.f69) J [0,0,1,0,1,1] [i64 20,i64 y,u64 z,slP lp 1 [i64 a,i64 b],slP lp 1 [i64 a,i64 b],i64 2,i64 2] =
  (bi (nbeq (bi (nble 9223372036854775809 (biased 3 a)) 1 0) 1)
 (bi (nbeq (bi (nble 9223372036854775809 (biased 3 b)) 1 0) 1)
 (bi (nbeq (okN (zac Tryz.prog 136 [⟨8,bi (nble (biased 3 (gt2 (fun a b=>(a.add b).mod (kMod (zap IntKind.i64))) a b)) 9223372036854775872) 1 0,0,0,0,[]⟩,⟨3,gt2 (fun a b=>(a.add b).mod (kMod (zap IntKind.i64))) a b,0,0,0,[]⟩] ⟨16,0,0,0,0,[⟨3,bi (nbeq (bi (nble (biased 3 (gt2 (fun a b=>(a.add b).mod (kMod (zap IntKind.i64))) a b)) 9223372036854775872) 1 0) 1) (gt2 (fun a b=>(a.add b).mod (kMod (zap IntKind.i64))) a b) 0,0,0,0,[]⟩,⟨3,bi (nbeq (bi (nble (biased 3 (gt2 (fun a b=>(a.add b).mod (kMod (zap IntKind.i64))) a b)) 9223372036854775872) 1 0) 1) 0 3,0,0,0,[]⟩]⟩)) 1)
 (ansY ⟨16,0,0,0,0,[⟨3,bi (nbeq (bi (nble (biased 3 (gt2 (fun a b=>(a.add b).mod (kMod (zap IntKind.i64))) a b)) 9223372036854775872) 1 0) 1) (gt2 (fun a b=>(a.add b).mod (kMod (zap IntKind.i64))) a b) 0,0,0,0,[]⟩,⟨3,bi (nbeq (bi (nble (biased 3 (gt2 (fun a b=>(a.add b).mod (kMod (zap IntKind.i64))) a b)) 9223372036854775872) 1 0) 1) 0 3,0,0,0,[]⟩]⟩)
 (zab 301))
 (bi (nbeq (bi (nble 9223372036854775809 (biased 3 b)) 1 0) 0)
 (bi (nbeq (okN (zac Tryz.prog 136 [⟨8,0,0,0,0,[]⟩,⟨3,gt2 (fun a b=>(a.add b).mod (kMod (zap IntKind.i64))) a b,0,0,0,[]⟩] ⟨16,0,0,0,0,[⟨3,0,0,0,0,[]⟩,⟨3,3,0,0,0,[]⟩]⟩)) 1)
 (ansY ⟨16,0,0,0,0,[⟨3,0,0,0,0,[]⟩,⟨3,3,0,0,0,[]⟩]⟩)
 (zab 301))
 (zab 40)))
 (bi (nbeq (bi (nble 9223372036854775809 (biased 3 a)) 1 0) 0)
 (bi (nbeq (okN (zac Tryz.prog 136 [⟨8,0,0,0,0,[]⟩,⟨3,gt2 (fun a b=>(a.add b).mod (kMod (zap IntKind.i64))) a b,0,0,0,[]⟩] ⟨16,0,0,0,0,[⟨3,0,0,0,0,[]⟩,⟨3,3,0,0,0,[]⟩]⟩)) 1)
 (ansY ⟨16,0,0,0,0,[⟨3,0,0,0,0,[]⟩,⟨3,3,0,0,0,[]⟩]⟩)
 (zab 301))
 (zab 40))):=by kernel_rfl
theorem z0e:Tryz.f69.body=some (zad Tryz.f69):=by kernel_rfl
theorem fn69:Tryz.prog.funcs[69]?=some Tryz.f69:=by kernel_rfl
theorem nt69:Tryz.f69.ntmps=144:=by kernel_rfl
theorem rs69:Tryz.f69.results.toList=[.tmp 8,.tmp 9]:=by kernel_rfl
theorem z0f:Tryz.f76.body=some (zad Tryz.f76):=by kernel_rfl
theorem fn76:Tryz.prog.funcs[76]?=some Tryz.f76:=by kernel_rfl
theorem nt76:Tryz.f76.ntmps=133:=by kernel_rfl
theorem rs76:Tryz.f76.results.toList=[.tmp 8,.tmp 9]:=by kernel_rfl
noncomputable def wv(p:Nat × Nat):AV:=tupV [i64 p.1,i64 p.2]
theorem wd_0{op y z:Nat}(har:arT op=0)(ho:¬ (op=0 ∨ 26<op)):wdP op y z []=(if lfP op y z=true then (y,0) else (0,3)):=by
  unfold wdP
  rw[if_neg (by rw[har];simp;omega),if_neg (by simp)]
theorem wd_1{op y z a:Nat}(har:arT op=1)(ho:¬ (op=0 ∨ 26<op))(ha:a≤64):wdP op y z [a]=(if op=21 ∨ op=22 ∨ op=23 then (if rsP op y z a=true then (y,0) else (0,3)) else (a,0)):=by
  unfold wdP
  rw[if_neg (by rw[har];simp;omega),if_neg (by simp[ha])]
theorem wd_2{op y z a b:Nat}(har:arT op=2)(ho:¬ (op=0 ∨ 26<op))(ha:a≤64)(hb:b≤64):wdP op y z [a,b]=(if op=20 then (if 1≤a∧1≤b∧a+b≤64 then (a+b,0) else (0,3)) else if a=b then (if op=16 ∨ op=17 ∨ op=18 then (1,0) else (a,0)) else (0,3)):=by
  unfold wdP
  rw[if_neg (by rw[har];simp;omega),if_neg (by simp[ha,hb])]
theorem wd_3{op y z a b c:Nat}(har:arT op=3)(ho:¬ (op=0 ∨ 26<op))(ha:a≤64)(hb:b≤64)(hc:c≤64):wdP op y z [a,b,c]=(if a=1∧b=c then (b,0) else (0,3)):=by
  unfold wdP
  rw[if_neg (by rw[har];simp;omega),if_neg (by simp[ha,hb,hc])]
theorem zk0{op y z:Nat}{ws:List Nat}(h:op=0 ∨ 26<op ∨ ws.length ≠ arT op):wdP op y z ws=(0,4):=by
  unfold wdP
  rw[if_pos h]
theorem zds{op y z:Nat}{ws:List Nat}(h:¬ (op=0 ∨ 26<op ∨ ws.length ≠ arT op)){a:Nat}(hm:a ∈ ws)(ha:¬ a≤64):wdP op y z ws=(0,3):=by
  unfold wdP
  rw[if_neg h,if_pos (by rw[← Bool.not_eq_true,List.all_eq_true];intro hh;have:=hh a hm;simp at this;omega)]
theorem addN{a b:Nat}(h:a+b<2 ^ 64):gt2 (fun a b=>(a.add b).mod (kMod (zap IntKind.i64))) a b=a+b:=by
  rw[zbD]
  have e:kMod (zap IntKind.i64)=2 ^ 64:=by decide +kernel
  rw[e]
  exact Nat.mod_eq_of_lt h
theorem zk1{a:Nat}(h:a≤64):nble 9223372036854775809 (biased 3 a)=decide (1≤a):=by
  rw[zcm (by omega),zbN,decide_eq_decide];omega
theorem zvD{a:Nat}(h:a≤1000):nble (biased 3 a) 9223372036854775872=decide (a≤64):=by
  rw[zcm (by omega),zbN,decide_eq_decide];omega
theorem ziz{α:Type}(c:Bool)(a b:α):bi (nbeq (bi c 1 0) 0) a b=bi c b a:=by cases c<;>rfl
theorem zub(n x y z lp a:Nat)(hx:a<2 ^ 64):jmpN Tryz.prog 144 za8 (zaf Tryz.prog) RE (finY Tryz.prog [.tmp 8,.tmp 9] [3,32]) (zad Tryz.f69) (n+1) [0,0,1,0,1,1] [i64 x,i64 y,u64 z,slP lp 1 [i64 a],slP lp 1 [i64 a],i64 1,i64 0]=bi (decide (a≤64)) (jmpN Tryz.prog 144 za8 (zaf Tryz.prog) RE (finY Tryz.prog [.tmp 8,.tmp 9] [3,32]) (zad Tryz.f69) n [0,0,1,0,1,1] [i64 x,i64 y,u64 z,slP lp 1 [i64 a],slP lp 1 [i64 a],i64 1,i64 1]) (ansY (wv (0,3))):=by
  have p:=zak.2 (zeH a)
  rw[zbq hx] at p
  simp only[bV,mk1] at p
  rw[zal,zrZ]
  rw[zbq hx]
  simp only[zaE,zaL,zbe,p,b0,bS,zao,n11,zae]
  rfl
theorem zuc(n x y z lp a b:Nat)(hx:a<2 ^ 64):jmpN Tryz.prog 144 za8 (zaf Tryz.prog) RE (finY Tryz.prog [.tmp 8,.tmp 9] [3,32]) (zad Tryz.f69) (n+1) [0,0,1,0,1,1] [i64 x,i64 y,u64 z,slP lp 1 [i64 a,i64 b],slP lp 1 [i64 a,i64 b],i64 2,i64 0]=bi (decide (a≤64)) (jmpN Tryz.prog 144 za8 (zaf Tryz.prog) RE (finY Tryz.prog [.tmp 8,.tmp 9] [3,32]) (zad Tryz.f69) n [0,0,1,0,1,1] [i64 x,i64 y,u64 z,slP lp 1 [i64 a,i64 b],slP lp 1 [i64 a,i64 b],i64 2,i64 1]) (ansY (wv (0,3))):=by
  have p:=zak.2 (zeH a)
  rw[zbq hx] at p
  simp only[bV,mk1] at p
  rw[zal,zsa]
  rw[zbq hx]
  simp only[zaE,zaL,zbe,p,b0,bS,zao,n11,zae]
  rfl
theorem zud(n x y z lp a b:Nat)(hx:b<2 ^ 64):jmpN Tryz.prog 144 za8 (zaf Tryz.prog) RE (finY Tryz.prog [.tmp 8,.tmp 9] [3,32]) (zad Tryz.f69) (n+1) [0,0,1,0,1,1] [i64 x,i64 y,u64 z,slP lp 1 [i64 a,i64 b],slP lp 1 [i64 a,i64 b],i64 2,i64 1]=bi (decide (b≤64)) (jmpN Tryz.prog 144 za8 (zaf Tryz.prog) RE (finY Tryz.prog [.tmp 8,.tmp 9] [3,32]) (zad Tryz.f69) n [0,0,1,0,1,1] [i64 x,i64 y,u64 z,slP lp 1 [i64 a,i64 b],slP lp 1 [i64 a,i64 b],i64 2,i64 2]) (ansY (wv (0,3))):=by
  have p:=zak.2 (zeH b)
  rw[zbq hx] at p
  simp only[bV,mk1] at p
  rw[zal,zsb]
  rw[zbq hx]
  simp only[zaE,zaL,zbe,p,b0,bS,zao,n11,zae]
  rfl
theorem zue(n x y z lp a b c:Nat)(hx:a<2 ^ 64):jmpN Tryz.prog 144 za8 (zaf Tryz.prog) RE (finY Tryz.prog [.tmp 8,.tmp 9] [3,32]) (zad Tryz.f69) (n+1) [0,0,1,0,1,1] [i64 x,i64 y,u64 z,slP lp 1 [i64 a,i64 b,i64 c],slP lp 1 [i64 a,i64 b,i64 c],i64 3,i64 0]=bi (decide (a≤64)) (jmpN Tryz.prog 144 za8 (zaf Tryz.prog) RE (finY Tryz.prog [.tmp 8,.tmp 9] [3,32]) (zad Tryz.f69) n [0,0,1,0,1,1] [i64 x,i64 y,u64 z,slP lp 1 [i64 a,i64 b,i64 c],slP lp 1 [i64 a,i64 b,i64 c],i64 3,i64 1]) (ansY (wv (0,3))):=by
  have p:=zak.2 (zeH a)
  rw[zbq hx] at p
  simp only[bV,mk1] at p
  rw[zal,zsc]
  rw[zbq hx]
  simp only[zaE,zaL,zbe,p,b0,bS,zao,n11,zae]
  rfl
theorem zuf(n x y z lp a b c:Nat)(hx:b<2 ^ 64):jmpN Tryz.prog 144 za8 (zaf Tryz.prog) RE (finY Tryz.prog [.tmp 8,.tmp 9] [3,32]) (zad Tryz.f69) (n+1) [0,0,1,0,1,1] [i64 x,i64 y,u64 z,slP lp 1 [i64 a,i64 b,i64 c],slP lp 1 [i64 a,i64 b,i64 c],i64 3,i64 1]=bi (decide (b≤64)) (jmpN Tryz.prog 144 za8 (zaf Tryz.prog) RE (finY Tryz.prog [.tmp 8,.tmp 9] [3,32]) (zad Tryz.f69) n [0,0,1,0,1,1] [i64 x,i64 y,u64 z,slP lp 1 [i64 a,i64 b,i64 c],slP lp 1 [i64 a,i64 b,i64 c],i64 3,i64 2]) (ansY (wv (0,3))):=by
  have p:=zak.2 (zeH b)
  rw[zbq hx] at p
  simp only[bV,mk1] at p
  rw[zal,zsd]
  rw[zbq hx]
  simp only[zaE,zaL,zbe,p,b0,bS,zao,n11,zae]
  rfl
theorem zug(n x y z lp a b c:Nat)(hx:c<2 ^ 64):jmpN Tryz.prog 144 za8 (zaf Tryz.prog) RE (finY Tryz.prog [.tmp 8,.tmp 9] [3,32]) (zad Tryz.f69) (n+1) [0,0,1,0,1,1] [i64 x,i64 y,u64 z,slP lp 1 [i64 a,i64 b,i64 c],slP lp 1 [i64 a,i64 b,i64 c],i64 3,i64 2]=bi (decide (c≤64)) (jmpN Tryz.prog 144 za8 (zaf Tryz.prog) RE (finY Tryz.prog [.tmp 8,.tmp 9] [3,32]) (zad Tryz.f69) n [0,0,1,0,1,1] [i64 x,i64 y,u64 z,slP lp 1 [i64 a,i64 b,i64 c],slP lp 1 [i64 a,i64 b,i64 c],i64 3,i64 3]) (ansY (wv (0,3))):=by
  have p:=zak.2 (zeH c)
  rw[zbq hx] at p
  simp only[bV,mk1] at p
  rw[zal,zse]
  rw[zbq hx]
  simp only[zaE,zaL,zbe,p,b0,bS,zao,n11,zae]
  rfl
theorem zuh(n x y z lp a:Nat)(hx:a<2 ^ 64):jmpN Tryz.prog 133 za9 (zaf Tryz.prog) RE (finY Tryz.prog [.tmp 8,.tmp 9] [3,32]) (zad Tryz.f76) (n+1) [0,0,1,0,1,1] [i64 x,i64 y,u64 z,slP lp 1 [i64 a],i64 1,i64 0]=bi (decide (a≤64)) (jmpN Tryz.prog 133 za9 (zaf Tryz.prog) RE (finY Tryz.prog [.tmp 8,.tmp 9] [3,32]) (zad Tryz.f76) n [0,0,1,0,1,1] [i64 x,i64 y,u64 z,slP lp 1 [i64 a],i64 1,i64 1]) (ansY (wv (0,3))):=by
  have p:=zak.2 (zek a)
  rw[zbq hx] at p
  simp only[bV,mk1] at p
  rw[zal,zsf]
  rw[zbq hx]
  simp only[zaE,zaL,zbe,p,b0,bS,zao,n11,zae]
  rfl
theorem zui(n x y z lp a b:Nat)(hx:a<2 ^ 64):jmpN Tryz.prog 133 za9 (zaf Tryz.prog) RE (finY Tryz.prog [.tmp 8,.tmp 9] [3,32]) (zad Tryz.f76) (n+1) [0,0,1,0,1,1] [i64 x,i64 y,u64 z,slP lp 1 [i64 a,i64 b],i64 2,i64 0]=bi (decide (a≤64)) (jmpN Tryz.prog 133 za9 (zaf Tryz.prog) RE (finY Tryz.prog [.tmp 8,.tmp 9] [3,32]) (zad Tryz.f76) n [0,0,1,0,1,1] [i64 x,i64 y,u64 z,slP lp 1 [i64 a,i64 b],i64 2,i64 1]) (ansY (wv (0,3))):=by
  have p:=zak.2 (zek a)
  rw[zbq hx] at p
  simp only[bV,mk1] at p
  rw[zal,zsg]
  rw[zbq hx]
  simp only[zaE,zaL,zbe,p,b0,bS,zao,n11,zae]
  rfl
theorem zuj(n x y z lp a b:Nat)(hx:b<2 ^ 64):jmpN Tryz.prog 133 za9 (zaf Tryz.prog) RE (finY Tryz.prog [.tmp 8,.tmp 9] [3,32]) (zad Tryz.f76) (n+1) [0,0,1,0,1,1] [i64 x,i64 y,u64 z,slP lp 1 [i64 a,i64 b],i64 2,i64 1]=bi (decide (b≤64)) (jmpN Tryz.prog 133 za9 (zaf Tryz.prog) RE (finY Tryz.prog [.tmp 8,.tmp 9] [3,32]) (zad Tryz.f76) n [0,0,1,0,1,1] [i64 x,i64 y,u64 z,slP lp 1 [i64 a,i64 b],i64 2,i64 2]) (ansY (wv (0,3))):=by
  have p:=zak.2 (zek b)
  rw[zbq hx] at p
  simp only[bV,mk1] at p
  rw[zal,zsh]
  rw[zbq hx]
  simp only[zaE,zaL,zbe,p,b0,bS,zao,n11,zae]
  rfl
theorem zuk(n x y z lp a b c:Nat)(hx:a<2 ^ 64):jmpN Tryz.prog 133 za9 (zaf Tryz.prog) RE (finY Tryz.prog [.tmp 8,.tmp 9] [3,32]) (zad Tryz.f76) (n+1) [0,0,1,0,1,1] [i64 x,i64 y,u64 z,slP lp 1 [i64 a,i64 b,i64 c],i64 3,i64 0]=bi (decide (a≤64)) (jmpN Tryz.prog 133 za9 (zaf Tryz.prog) RE (finY Tryz.prog [.tmp 8,.tmp 9] [3,32]) (zad Tryz.f76) n [0,0,1,0,1,1] [i64 x,i64 y,u64 z,slP lp 1 [i64 a,i64 b,i64 c],i64 3,i64 1]) (ansY (wv (0,3))):=by
  have p:=zak.2 (zek a)
  rw[zbq hx] at p
  simp only[bV,mk1] at p
  rw[zal,zsi]
  rw[zbq hx]
  simp only[zaE,zaL,zbe,p,b0,bS,zao,n11,zae]
  rfl
theorem zul(n x y z lp a b c:Nat)(hx:b<2 ^ 64):jmpN Tryz.prog 133 za9 (zaf Tryz.prog) RE (finY Tryz.prog [.tmp 8,.tmp 9] [3,32]) (zad Tryz.f76) (n+1) [0,0,1,0,1,1] [i64 x,i64 y,u64 z,slP lp 1 [i64 a,i64 b,i64 c],i64 3,i64 1]=bi (decide (b≤64)) (jmpN Tryz.prog 133 za9 (zaf Tryz.prog) RE (finY Tryz.prog [.tmp 8,.tmp 9] [3,32]) (zad Tryz.f76) n [0,0,1,0,1,1] [i64 x,i64 y,u64 z,slP lp 1 [i64 a,i64 b,i64 c],i64 3,i64 2]) (ansY (wv (0,3))):=by
  have p:=zak.2 (zek b)
  rw[zbq hx] at p
  simp only[bV,mk1] at p
  rw[zal,zsj]
  rw[zbq hx]
  simp only[zaE,zaL,zbe,p,b0,bS,zao,n11,zae]
  rfl
theorem zum(n x y z lp a b c:Nat)(hx:c<2 ^ 64):jmpN Tryz.prog 133 za9 (zaf Tryz.prog) RE (finY Tryz.prog [.tmp 8,.tmp 9] [3,32]) (zad Tryz.f76) (n+1) [0,0,1,0,1,1] [i64 x,i64 y,u64 z,slP lp 1 [i64 a,i64 b,i64 c],i64 3,i64 2]=bi (decide (c≤64)) (jmpN Tryz.prog 133 za9 (zaf Tryz.prog) RE (finY Tryz.prog [.tmp 8,.tmp 9] [3,32]) (zad Tryz.f76) n [0,0,1,0,1,1] [i64 x,i64 y,u64 z,slP lp 1 [i64 a,i64 b,i64 c],i64 3,i64 3]) (ansY (wv (0,3))):=by
  have p:=zak.2 (zek c)
  rw[zbq hx] at p
  simp only[bV,mk1] at p
  rw[zal,zsk]
  rw[zbq hx]
  simp only[zaE,zaL,zbe,p,b0,bS,zao,n11,zae]
  rfl
theorem z0g(n y z lp:Nat)(hy:y<2 ^ 64)(hz:z<2 ^ 64):jmpN Tryz.prog 144 za8 (zaf Tryz.prog) RE (finY Tryz.prog [.tmp 8,.tmp 9] [3,32]) (zad Tryz.f69) (n+1) [0,0,1,0,1,1] [i64 1,i64 y,u64 z,slP lp 1 [],slP lp 1 [],i64 0,i64 0]=ansY (wv (wdP 1 y z [])):=by
  rw[wd_0 (show arT 1=0 from rfl) (by omega) ,zal,zsl]
  have q:=zak.2 (zja 1 y z hy hz)
  simp only[tupV] at q
  simp only[zaE,zaL,q,zao,n11,zae]
  cases lfP 1 y z<;>rfl
theorem z0h(n y z lp:Nat)(hy:y<2 ^ 64)(hz:z<2 ^ 64):jmpN Tryz.prog 144 za8 (zaf Tryz.prog) RE (finY Tryz.prog [.tmp 8,.tmp 9] [3,32]) (zad Tryz.f69) (n+1) [0,0,1,0,1,1] [i64 2,i64 y,u64 z,slP lp 1 [],slP lp 1 [],i64 0,i64 0]=ansY (wv (wdP 2 y z [])):=by
  rw[wd_0 (show arT 2=0 from rfl) (by omega) ,zal,zsm]
  have q:=zak.2 (zja 2 y z hy hz)
  simp only[tupV] at q
  simp only[zaE,zaL,q,zao,n11,zae]
  cases lfP 2 y z<;>rfl
theorem z0i(n y z lp a:Nat)(_hy:y<2 ^ 64)(_hz:z<2 ^ 64)(ha:a≤64):jmpN Tryz.prog 144 za8 (zaf Tryz.prog) RE (finY Tryz.prog [.tmp 8,.tmp 9] [3,32]) (zad Tryz.f69) (n+1) [0,0,1,0,1,1] [i64 3,i64 y,u64 z,slP lp 1 [i64 a],slP lp 1 [i64 a],i64 1,i64 1]=ansY (wv (wdP 3 y z [a])):=by
  rw[wd_1 (show arT 3=1 from rfl) (by omega) ha,zal,zsn]
  rfl
theorem z0j(n y z lp a:Nat)(_hy:y<2 ^ 64)(_hz:z<2 ^ 64)(ha:a≤64):jmpN Tryz.prog 144 za8 (zaf Tryz.prog) RE (finY Tryz.prog [.tmp 8,.tmp 9] [3,32]) (zad Tryz.f69) (n+1) [0,0,1,0,1,1] [i64 4,i64 y,u64 z,slP lp 1 [i64 a],slP lp 1 [i64 a],i64 1,i64 1]=ansY (wv (wdP 4 y z [a])):=by
  rw[wd_1 (show arT 4=1 from rfl) (by omega) ha,zal,zso]
  rfl
theorem z0k(n y z lp a b:Nat)(_hy:y<2 ^ 64)(_hz:z<2 ^ 64)(ha:a≤64)(hb:b≤64):jmpN Tryz.prog 144 za8 (zaf Tryz.prog) RE (finY Tryz.prog [.tmp 8,.tmp 9] [3,32]) (zad Tryz.f69) (n+1) [0,0,1,0,1,1] [i64 5,i64 y,u64 z,slP lp 1 [i64 a,i64 b],slP lp 1 [i64 a,i64 b],i64 2,i64 2]=ansY (wv (wdP 5 y z [a,b])):=by
  rw[wd_2 (show arT 5=2 from rfl) (by omega) ha hb,zal,zsp]
  rw[if_neg (show ¬ (5=20) by decide)]
  have q:=zak.2 (zbF (nbeq a b) a)
  simp only[bV,mk1,tupV,i64] at q
  simp only[zao,q,n11,zae]
  by_cases h1:a=b
  · rw[zaa.2 h1,if_pos h1];rfl
  · rw[zam.2 h1,if_neg h1];rfl
theorem z0l(n y z lp a b:Nat)(_hy:y<2 ^ 64)(_hz:z<2 ^ 64)(ha:a≤64)(hb:b≤64):jmpN Tryz.prog 144 za8 (zaf Tryz.prog) RE (finY Tryz.prog [.tmp 8,.tmp 9] [3,32]) (zad Tryz.f69) (n+1) [0,0,1,0,1,1] [i64 6,i64 y,u64 z,slP lp 1 [i64 a,i64 b],slP lp 1 [i64 a,i64 b],i64 2,i64 2]=ansY (wv (wdP 6 y z [a,b])):=by
  rw[wd_2 (show arT 6=2 from rfl) (by omega) ha hb,zal,zsq]
  rw[if_neg (show ¬ (6=20) by decide)]
  have q:=zak.2 (zbF (nbeq a b) a)
  simp only[bV,mk1,tupV,i64] at q
  simp only[zao,q,n11,zae]
  by_cases h1:a=b
  · rw[zaa.2 h1,if_pos h1];rfl
  · rw[zam.2 h1,if_neg h1];rfl
theorem z0m(n y z lp a b:Nat)(_hy:y<2 ^ 64)(_hz:z<2 ^ 64)(ha:a≤64)(hb:b≤64):jmpN Tryz.prog 144 za8 (zaf Tryz.prog) RE (finY Tryz.prog [.tmp 8,.tmp 9] [3,32]) (zad Tryz.f69) (n+1) [0,0,1,0,1,1] [i64 7,i64 y,u64 z,slP lp 1 [i64 a,i64 b],slP lp 1 [i64 a,i64 b],i64 2,i64 2]=ansY (wv (wdP 7 y z [a,b])):=by
  rw[wd_2 (show arT 7=2 from rfl) (by omega) ha hb,zal,zsr]
  rw[if_neg (show ¬ (7=20) by decide)]
  have q:=zak.2 (zbF (nbeq a b) a)
  simp only[bV,mk1,tupV,i64] at q
  simp only[zao,q,n11,zae]
  by_cases h1:a=b
  · rw[zaa.2 h1,if_pos h1];rfl
  · rw[zam.2 h1,if_neg h1];rfl
theorem z0n(n y z lp a b:Nat)(_hy:y<2 ^ 64)(_hz:z<2 ^ 64)(ha:a≤64)(hb:b≤64):jmpN Tryz.prog 144 za8 (zaf Tryz.prog) RE (finY Tryz.prog [.tmp 8,.tmp 9] [3,32]) (zad Tryz.f69) (n+1) [0,0,1,0,1,1] [i64 8,i64 y,u64 z,slP lp 1 [i64 a,i64 b],slP lp 1 [i64 a,i64 b],i64 2,i64 2]=ansY (wv (wdP 8 y z [a,b])):=by
  rw[wd_2 (show arT 8=2 from rfl) (by omega) ha hb,zal,zss]
  rw[if_neg (show ¬ (8=20) by decide)]
  have q:=zak.2 (zbF (nbeq a b) a)
  simp only[bV,mk1,tupV,i64] at q
  simp only[zao,q,n11,zae]
  by_cases h1:a=b
  · rw[zaa.2 h1,if_pos h1];rfl
  · rw[zam.2 h1,if_neg h1];rfl
theorem z0o(n y z lp a b:Nat)(_hy:y<2 ^ 64)(_hz:z<2 ^ 64)(ha:a≤64)(hb:b≤64):jmpN Tryz.prog 144 za8 (zaf Tryz.prog) RE (finY Tryz.prog [.tmp 8,.tmp 9] [3,32]) (zad Tryz.f69) (n+1) [0,0,1,0,1,1] [i64 9,i64 y,u64 z,slP lp 1 [i64 a,i64 b],slP lp 1 [i64 a,i64 b],i64 2,i64 2]=ansY (wv (wdP 9 y z [a,b])):=by
  rw[wd_2 (show arT 9=2 from rfl) (by omega) ha hb,zal,zst]
  rw[if_neg (show ¬ (9=20) by decide)]
  have q:=zak.2 (zbF (nbeq a b) a)
  simp only[bV,mk1,tupV,i64] at q
  simp only[zao,q,n11,zae]
  by_cases h1:a=b
  · rw[zaa.2 h1,if_pos h1];rfl
  · rw[zam.2 h1,if_neg h1];rfl
theorem zwP(n y z lp a b:Nat)(_hy:y<2 ^ 64)(_hz:z<2 ^ 64)(ha:a≤64)(hb:b≤64):jmpN Tryz.prog 144 za8 (zaf Tryz.prog) RE (finY Tryz.prog [.tmp 8,.tmp 9] [3,32]) (zad Tryz.f69) (n+1) [0,0,1,0,1,1] [i64 10,i64 y,u64 z,slP lp 1 [i64 a,i64 b],slP lp 1 [i64 a,i64 b],i64 2,i64 2]=ansY (wv (wdP 10 y z [a,b])):=by
  rw[wd_2 (show arT 10=2 from rfl) (by omega) ha hb,zal,zqb]
  rw[if_neg (show ¬ (10=20) by decide)]
  have q:=zak.2 (zbF (nbeq a b) a)
  simp only[bV,mk1,tupV,i64] at q
  simp only[zao,q,n11,zae]
  by_cases h1:a=b
  · rw[zaa.2 h1,if_pos h1];rfl
  · rw[zam.2 h1,if_neg h1];rfl
theorem zwQ(n y z lp a b:Nat)(_hy:y<2 ^ 64)(_hz:z<2 ^ 64)(ha:a≤64)(hb:b≤64):jmpN Tryz.prog 144 za8 (zaf Tryz.prog) RE (finY Tryz.prog [.tmp 8,.tmp 9] [3,32]) (zad Tryz.f69) (n+1) [0,0,1,0,1,1] [i64 11,i64 y,u64 z,slP lp 1 [i64 a,i64 b],slP lp 1 [i64 a,i64 b],i64 2,i64 2]=ansY (wv (wdP 11 y z [a,b])):=by
  rw[wd_2 (show arT 11=2 from rfl) (by omega) ha hb,zal,zqc]
  rw[if_neg (show ¬ (11=20) by decide)]
  have q:=zak.2 (zbF (nbeq a b) a)
  simp only[bV,mk1,tupV,i64] at q
  simp only[zao,q,n11,zae]
  by_cases h1:a=b
  · rw[zaa.2 h1,if_pos h1];rfl
  · rw[zam.2 h1,if_neg h1];rfl
theorem zwR(n y z lp a b:Nat)(_hy:y<2 ^ 64)(_hz:z<2 ^ 64)(ha:a≤64)(hb:b≤64):jmpN Tryz.prog 144 za8 (zaf Tryz.prog) RE (finY Tryz.prog [.tmp 8,.tmp 9] [3,32]) (zad Tryz.f69) (n+1) [0,0,1,0,1,1] [i64 12,i64 y,u64 z,slP lp 1 [i64 a,i64 b],slP lp 1 [i64 a,i64 b],i64 2,i64 2]=ansY (wv (wdP 12 y z [a,b])):=by
  rw[wd_2 (show arT 12=2 from rfl) (by omega) ha hb,zal,zqd]
  rw[if_neg (show ¬ (12=20) by decide)]
  have q:=zak.2 (zbF (nbeq a b) a)
  simp only[bV,mk1,tupV,i64] at q
  simp only[zao,q,n11,zae]
  by_cases h1:a=b
  · rw[zaa.2 h1,if_pos h1];rfl
  · rw[zam.2 h1,if_neg h1];rfl
theorem zwS(n y z lp a b:Nat)(_hy:y<2 ^ 64)(_hz:z<2 ^ 64)(ha:a≤64)(hb:b≤64):jmpN Tryz.prog 144 za8 (zaf Tryz.prog) RE (finY Tryz.prog [.tmp 8,.tmp 9] [3,32]) (zad Tryz.f69) (n+1) [0,0,1,0,1,1] [i64 13,i64 y,u64 z,slP lp 1 [i64 a,i64 b],slP lp 1 [i64 a,i64 b],i64 2,i64 2]=ansY (wv (wdP 13 y z [a,b])):=by
  rw[wd_2 (show arT 13=2 from rfl) (by omega) ha hb,zal,zqe]
  rw[if_neg (show ¬ (13=20) by decide)]
  have q:=zak.2 (zbF (nbeq a b) a)
  simp only[bV,mk1,tupV,i64] at q
  simp only[zao,q,n11,zae]
  by_cases h1:a=b
  · rw[zaa.2 h1,if_pos h1];rfl
  · rw[zam.2 h1,if_neg h1];rfl
theorem zwT(n y z lp a b:Nat)(_hy:y<2 ^ 64)(_hz:z<2 ^ 64)(ha:a≤64)(hb:b≤64):jmpN Tryz.prog 144 za8 (zaf Tryz.prog) RE (finY Tryz.prog [.tmp 8,.tmp 9] [3,32]) (zad Tryz.f69) (n+1) [0,0,1,0,1,1] [i64 14,i64 y,u64 z,slP lp 1 [i64 a,i64 b],slP lp 1 [i64 a,i64 b],i64 2,i64 2]=ansY (wv (wdP 14 y z [a,b])):=by
  rw[wd_2 (show arT 14=2 from rfl) (by omega) ha hb,zal,zqf]
  rw[if_neg (show ¬ (14=20) by decide)]
  have q:=zak.2 (zbF (nbeq a b) a)
  simp only[bV,mk1,tupV,i64] at q
  simp only[zao,q,n11,zae]
  by_cases h1:a=b
  · rw[zaa.2 h1,if_pos h1];rfl
  · rw[zam.2 h1,if_neg h1];rfl
theorem zwU(n y z lp a b:Nat)(_hy:y<2 ^ 64)(_hz:z<2 ^ 64)(ha:a≤64)(hb:b≤64):jmpN Tryz.prog 144 za8 (zaf Tryz.prog) RE (finY Tryz.prog [.tmp 8,.tmp 9] [3,32]) (zad Tryz.f69) (n+1) [0,0,1,0,1,1] [i64 15,i64 y,u64 z,slP lp 1 [i64 a,i64 b],slP lp 1 [i64 a,i64 b],i64 2,i64 2]=ansY (wv (wdP 15 y z [a,b])):=by
  rw[wd_2 (show arT 15=2 from rfl) (by omega) ha hb,zal,zqg]
  rw[if_neg (show ¬ (15=20) by decide)]
  have q:=zak.2 (zbF (nbeq a b) a)
  simp only[bV,mk1,tupV,i64] at q
  simp only[zao,q,n11,zae]
  by_cases h1:a=b
  · rw[zaa.2 h1,if_pos h1];rfl
  · rw[zam.2 h1,if_neg h1];rfl
theorem zwV(n y z lp a b:Nat)(_hy:y<2 ^ 64)(_hz:z<2 ^ 64)(ha:a≤64)(hb:b≤64):jmpN Tryz.prog 144 za8 (zaf Tryz.prog) RE (finY Tryz.prog [.tmp 8,.tmp 9] [3,32]) (zad Tryz.f69) (n+1) [0,0,1,0,1,1] [i64 16,i64 y,u64 z,slP lp 1 [i64 a,i64 b],slP lp 1 [i64 a,i64 b],i64 2,i64 2]=ansY (wv (wdP 16 y z [a,b])):=by
  rw[wd_2 (show arT 16=2 from rfl) (by omega) ha hb,zal,zqh]
  rw[if_neg (show ¬ (16=20) by decide)]
  have q:=zak.2 (zbF (nbeq a b) 1)
  simp only[bV,mk1,tupV,i64] at q
  simp only[zao,q,n11,zae]
  by_cases h1:a=b
  · rw[zaa.2 h1,if_pos h1];rfl
  · rw[zam.2 h1,if_neg h1];rfl
theorem zwW(n y z lp a b:Nat)(_hy:y<2 ^ 64)(_hz:z<2 ^ 64)(ha:a≤64)(hb:b≤64):jmpN Tryz.prog 144 za8 (zaf Tryz.prog) RE (finY Tryz.prog [.tmp 8,.tmp 9] [3,32]) (zad Tryz.f69) (n+1) [0,0,1,0,1,1] [i64 17,i64 y,u64 z,slP lp 1 [i64 a,i64 b],slP lp 1 [i64 a,i64 b],i64 2,i64 2]=ansY (wv (wdP 17 y z [a,b])):=by
  rw[wd_2 (show arT 17=2 from rfl) (by omega) ha hb,zal,zqi]
  rw[if_neg (show ¬ (17=20) by decide)]
  have q:=zak.2 (zbF (nbeq a b) 1)
  simp only[bV,mk1,tupV,i64] at q
  simp only[zao,q,n11,zae]
  by_cases h1:a=b
  · rw[zaa.2 h1,if_pos h1];rfl
  · rw[zam.2 h1,if_neg h1];rfl
theorem zwX(n y z lp a b:Nat)(_hy:y<2 ^ 64)(_hz:z<2 ^ 64)(ha:a≤64)(hb:b≤64):jmpN Tryz.prog 144 za8 (zaf Tryz.prog) RE (finY Tryz.prog [.tmp 8,.tmp 9] [3,32]) (zad Tryz.f69) (n+1) [0,0,1,0,1,1] [i64 18,i64 y,u64 z,slP lp 1 [i64 a,i64 b],slP lp 1 [i64 a,i64 b],i64 2,i64 2]=ansY (wv (wdP 18 y z [a,b])):=by
  rw[wd_2 (show arT 18=2 from rfl) (by omega) ha hb,zal,zqj]
  rw[if_neg (show ¬ (18=20) by decide)]
  have q:=zak.2 (zbF (nbeq a b) 1)
  simp only[bV,mk1,tupV,i64] at q
  simp only[zao,q,n11,zae]
  by_cases h1:a=b
  · rw[zaa.2 h1,if_pos h1];rfl
  · rw[zam.2 h1,if_neg h1];rfl
theorem zwY(n y z lp a b c:Nat)(_hy:y<2 ^ 64)(_hz:z<2 ^ 64)(ha:a≤64)(hb:b≤64)(hc:c≤64):jmpN Tryz.prog 144 za8 (zaf Tryz.prog) RE (finY Tryz.prog [.tmp 8,.tmp 9] [3,32]) (zad Tryz.f69) (n+1) [0,0,1,0,1,1] [i64 19,i64 y,u64 z,slP lp 1 [i64 a,i64 b,i64 c],slP lp 1 [i64 a,i64 b,i64 c],i64 3,i64 3]=ansY (wv (wdP 19 y z [a,b,c])):=by
  rw[wd_3 (show arT 19=3 from rfl) (by omega) ha hb hc,zal,zq5]
  have q:=zak.2 (zbF (nbeq b c) b)
  have q2:=zak.2 (zbF false b)
  simp only[bV,mk1,tupV,i64,zaj] at q q2
  simp only[zao,ziz,q,q2,n11,zae,b0]
  by_cases h1:a=1
  · rw[zaa.2 h1]
    by_cases h2:b=c
    · rw[zaa.2 h2,if_pos ⟨h1,h2⟩];rfl
    · rw[zam.2 h2,if_neg fun h=>h2 h.2];rfl
  · rw[zam.2 h1,if_neg fun h=>h1 h.1];rfl
theorem zwZ(n y z lp a b:Nat)(_hy:y<2 ^ 64)(_hz:z<2 ^ 64)(ha:a≤64)(hb:b≤64):jmpN Tryz.prog 144 za8 (zaf Tryz.prog) RE (finY Tryz.prog [.tmp 8,.tmp 9] [3,32]) (zad Tryz.f69) (n+1) [0,0,1,0,1,1] [i64 20,i64 y,u64 z,slP lp 1 [i64 a,i64 b],slP lp 1 [i64 a,i64 b],i64 2,i64 2]=ansY (wv (wdP 20 y z [a,b])):=by
  rw[wd_2 (show arT 20=2 from rfl) (by omega) ha hb,zal,zq8]
  rw[if_pos rfl]
  rw[zk1 ha,zk1 hb,addN (by omega),zvD (by omega)]
  have q:=zak.2 (zbF (decide (a+b≤64)) (a+b))
  have q2:=zak.2 (zbF false (a+b))
  simp only[bV,mk1,tupV,i64,zaj] at q q2
  simp only[zao,ziz,q,q2,n11,zae,b0]
  by_cases h1:1≤a
  · rw[decide_eq_true h1]
    by_cases h2:1≤b
    · rw[decide_eq_true h2]
      by_cases h3:a+b≤64
      · rw[decide_eq_true h3,if_pos ⟨h1,h2,h3⟩];rfl
      · rw[decide_eq_false h3,if_neg fun h=>h3 h.2.2];rfl
    · rw[decide_eq_false h2,if_neg fun h=>h2 h.2.1];rfl
  · rw[decide_eq_false h1,if_neg fun h=>h1 h.1];rfl
theorem zxa(n y z lp a:Nat)(hy:y<2 ^ 64)(hz:z<2 ^ 64)(ha:a≤64):jmpN Tryz.prog 144 za8 (zaf Tryz.prog) RE (finY Tryz.prog [.tmp 8,.tmp 9] [3,32]) (zad Tryz.f69) (n+1) [0,0,1,0,1,1] [i64 21,i64 y,u64 z,slP lp 1 [i64 a],slP lp 1 [i64 a],i64 1,i64 1]=ansY (wv (wdP 21 y z [a])):=by
  rw[wd_1 (show arT 21=1 from rfl) (by omega) ha,zal,zqt]
  have q:=zak.2 (zlc 21 y z a hy hz (by omega))
  simp only[tupV] at q
  simp only[zaE,zaL,q,zao,n11,zae,zaj]
  cases rsP 21 y z a<;>rfl
theorem zxb(n y z lp a:Nat)(hy:y<2 ^ 64)(hz:z<2 ^ 64)(ha:a≤64):jmpN Tryz.prog 144 za8 (zaf Tryz.prog) RE (finY Tryz.prog [.tmp 8,.tmp 9] [3,32]) (zad Tryz.f69) (n+1) [0,0,1,0,1,1] [i64 22,i64 y,u64 z,slP lp 1 [i64 a],slP lp 1 [i64 a],i64 1,i64 1]=ansY (wv (wdP 22 y z [a])):=by
  rw[wd_1 (show arT 22=1 from rfl) (by omega) ha,zal,zqu]
  have q:=zak.2 (zlc 22 y z a hy hz (by omega))
  simp only[tupV] at q
  simp only[zaE,zaL,q,zao,n11,zae,zaj]
  cases rsP 22 y z a<;>rfl
theorem zxc(n y z lp a:Nat)(hy:y<2 ^ 64)(hz:z<2 ^ 64)(ha:a≤64):jmpN Tryz.prog 144 za8 (zaf Tryz.prog) RE (finY Tryz.prog [.tmp 8,.tmp 9] [3,32]) (zad Tryz.f69) (n+1) [0,0,1,0,1,1] [i64 23,i64 y,u64 z,slP lp 1 [i64 a],slP lp 1 [i64 a],i64 1,i64 1]=ansY (wv (wdP 23 y z [a])):=by
  rw[wd_1 (show arT 23=1 from rfl) (by omega) ha,zal,zqv]
  have q:=zak.2 (zlc 23 y z a hy hz (by omega))
  simp only[tupV] at q
  simp only[zaE,zaL,q,zao,n11,zae,zaj]
  cases rsP 23 y z a<;>rfl
theorem zxd(n y z lp:Nat)(hy:y<2 ^ 64)(hz:z<2 ^ 64):jmpN Tryz.prog 144 za8 (zaf Tryz.prog) RE (finY Tryz.prog [.tmp 8,.tmp 9] [3,32]) (zad Tryz.f69) (n+1) [0,0,1,0,1,1] [i64 24,i64 y,u64 z,slP lp 1 [],slP lp 1 [],i64 0,i64 0]=ansY (wv (wdP 24 y z [])):=by
  rw[wd_0 (show arT 24=0 from rfl) (by omega) ,zal,zqw]
  have q:=zak.2 (zja 24 y z hy hz)
  simp only[tupV] at q
  simp only[zaE,zaL,q,zao,n11,zae]
  cases lfP 24 y z<;>rfl
theorem zxe(n y z lp:Nat)(hy:y<2 ^ 64)(hz:z<2 ^ 64):jmpN Tryz.prog 144 za8 (zaf Tryz.prog) RE (finY Tryz.prog [.tmp 8,.tmp 9] [3,32]) (zad Tryz.f69) (n+1) [0,0,1,0,1,1] [i64 25,i64 y,u64 z,slP lp 1 [],slP lp 1 [],i64 0,i64 0]=ansY (wv (wdP 25 y z [])):=by
  rw[wd_0 (show arT 25=0 from rfl) (by omega) ,zal,zqx]
  have q:=zak.2 (zja 25 y z hy hz)
  simp only[tupV] at q
  simp only[zaE,zaL,q,zao,n11,zae]
  cases lfP 25 y z<;>rfl
theorem zxf(n y z lp a:Nat)(_hy:y<2 ^ 64)(_hz:z<2 ^ 64)(ha:a≤64):jmpN Tryz.prog 144 za8 (zaf Tryz.prog) RE (finY Tryz.prog [.tmp 8,.tmp 9] [3,32]) (zad Tryz.f69) (n+1) [0,0,1,0,1,1] [i64 26,i64 y,u64 z,slP lp 1 [i64 a],slP lp 1 [i64 a],i64 1,i64 1]=ansY (wv (wdP 26 y z [a])):=by
  rw[wd_1 (show arT 26=1 from rfl) (by omega) ha,zal,zqy]
  rfl
theorem z0p(n y z lp:Nat)(hy:y<2 ^ 64)(hz:z<2 ^ 64):jmpN Tryz.prog 133 za9 (zaf Tryz.prog) RE (finY Tryz.prog [.tmp 8,.tmp 9] [3,32]) (zad Tryz.f76) (n+1) [0,0,1,0,1,1] [i64 1,i64 y,u64 z,slP lp 1 [],i64 0,i64 0]=ansY (wv (wdP 1 y z [])):=by
  rw[wd_0 (show arT 1=0 from rfl) (by omega) ,zal,zsu]
  have p:=zak.2 (zbo 1)
  have e:za3 1=true:=rfl
  have q:=zak.2 (zjb 1 y z hy hz)
  rw[e] at p ⊢
  simp only[bV,mk1,zae,zaj] at p
  simp only[tupV] at q
  simp only[zaE,zaL,p,q,zao,n11,zae]
  cases lfP 1 y z<;>rfl
theorem z0q(n y z lp:Nat)(hy:y<2 ^ 64)(hz:z<2 ^ 64):jmpN Tryz.prog 133 za9 (zaf Tryz.prog) RE (finY Tryz.prog [.tmp 8,.tmp 9] [3,32]) (zad Tryz.f76) (n+1) [0,0,1,0,1,1] [i64 2,i64 y,u64 z,slP lp 1 [],i64 0,i64 0]=ansY (wv (wdP 2 y z [])):=by
  rw[wd_0 (show arT 2=0 from rfl) (by omega) ,zal,zsv]
  have p:=zak.2 (zbo 2)
  have e:za3 2=true:=rfl
  have q:=zak.2 (zjb 2 y z hy hz)
  rw[e] at p ⊢
  simp only[bV,mk1,zae,zaj] at p
  simp only[tupV] at q
  simp only[zaE,zaL,p,q,zao,n11,zae]
  cases lfP 2 y z<;>rfl
theorem z0r(n y z lp a:Nat)(_hy:y<2 ^ 64)(_hz:z<2 ^ 64)(ha:a≤64):jmpN Tryz.prog 133 za9 (zaf Tryz.prog) RE (finY Tryz.prog [.tmp 8,.tmp 9] [3,32]) (zad Tryz.f76) (n+1) [0,0,1,0,1,1] [i64 3,i64 y,u64 z,slP lp 1 [i64 a],i64 1,i64 1]=ansY (wv (wdP 3 y z [a])):=by
  rw[wd_1 (show arT 3=1 from rfl) (by omega) ha,zal,zsw]
  have p:=zak.2 (zbo 3)
  have e:za3 3=false:=rfl
  rw[e] at p ⊢
  simp only[bV,mk1,zae,zaj] at p
  simp only[zaE,zaL,p,zao,n11,zae,zaj]
  rfl
theorem z0s(n y z lp a:Nat)(_hy:y<2 ^ 64)(_hz:z<2 ^ 64)(ha:a≤64):jmpN Tryz.prog 133 za9 (zaf Tryz.prog) RE (finY Tryz.prog [.tmp 8,.tmp 9] [3,32]) (zad Tryz.f76) (n+1) [0,0,1,0,1,1] [i64 4,i64 y,u64 z,slP lp 1 [i64 a],i64 1,i64 1]=ansY (wv (wdP 4 y z [a])):=by
  rw[wd_1 (show arT 4=1 from rfl) (by omega) ha,zal,zsx]
  have p:=zak.2 (zbo 4)
  have e:za3 4=false:=rfl
  rw[e] at p ⊢
  simp only[bV,mk1,zae,zaj] at p
  simp only[zaE,zaL,p,zao,n11,zae,zaj]
  rfl
theorem z0t(n y z lp a b:Nat)(_hy:y<2 ^ 64)(_hz:z<2 ^ 64)(ha:a≤64)(hb:b≤64):jmpN Tryz.prog 133 za9 (zaf Tryz.prog) RE (finY Tryz.prog [.tmp 8,.tmp 9] [3,32]) (zad Tryz.f76) (n+1) [0,0,1,0,1,1] [i64 5,i64 y,u64 z,slP lp 1 [i64 a,i64 b],i64 2,i64 2]=ansY (wv (wdP 5 y z [a,b])):=by
  rw[wd_2 (show arT 5=2 from rfl) (by omega) ha hb,zal,zsy]
  have p:=zak.2 (zbo 5)
  have e:za3 5=false:=rfl
  rw[e] at p ⊢
  simp only[bV,mk1,zae,zaj] at p
  rw[if_neg (show ¬ (5=20) by decide)]
  simp only[zaE,zaL,p,zao,n11,n01,zae,zaj]
  by_cases h1:a=b
  · rw[zaa.2 h1,if_pos h1];rfl
  · rw[zam.2 h1,if_neg h1];rfl
theorem z0u(n y z lp a b:Nat)(_hy:y<2 ^ 64)(_hz:z<2 ^ 64)(ha:a≤64)(hb:b≤64):jmpN Tryz.prog 133 za9 (zaf Tryz.prog) RE (finY Tryz.prog [.tmp 8,.tmp 9] [3,32]) (zad Tryz.f76) (n+1) [0,0,1,0,1,1] [i64 6,i64 y,u64 z,slP lp 1 [i64 a,i64 b],i64 2,i64 2]=ansY (wv (wdP 6 y z [a,b])):=by
  rw[wd_2 (show arT 6=2 from rfl) (by omega) ha hb,zal,zsz]
  have p:=zak.2 (zbo 6)
  have e:za3 6=false:=rfl
  rw[e] at p ⊢
  simp only[bV,mk1,zae,zaj] at p
  rw[if_neg (show ¬ (6=20) by decide)]
  simp only[zaE,zaL,p,zao,n11,n01,zae,zaj]
  by_cases h1:a=b
  · rw[zaa.2 h1,if_pos h1];rfl
  · rw[zam.2 h1,if_neg h1];rfl
theorem z0v(n y z lp a b:Nat)(_hy:y<2 ^ 64)(_hz:z<2 ^ 64)(ha:a≤64)(hb:b≤64):jmpN Tryz.prog 133 za9 (zaf Tryz.prog) RE (finY Tryz.prog [.tmp 8,.tmp 9] [3,32]) (zad Tryz.f76) (n+1) [0,0,1,0,1,1] [i64 7,i64 y,u64 z,slP lp 1 [i64 a,i64 b],i64 2,i64 2]=ansY (wv (wdP 7 y z [a,b])):=by
  rw[wd_2 (show arT 7=2 from rfl) (by omega) ha hb,zal,zs0]
  have p:=zak.2 (zbo 7)
  have e:za3 7=false:=rfl
  rw[e] at p ⊢
  simp only[bV,mk1,zae,zaj] at p
  rw[if_neg (show ¬ (7=20) by decide)]
  simp only[zaE,zaL,p,zao,n11,n01,zae,zaj]
  by_cases h1:a=b
  · rw[zaa.2 h1,if_pos h1];rfl
  · rw[zam.2 h1,if_neg h1];rfl
theorem z0w(n y z lp a b:Nat)(_hy:y<2 ^ 64)(_hz:z<2 ^ 64)(ha:a≤64)(hb:b≤64):jmpN Tryz.prog 133 za9 (zaf Tryz.prog) RE (finY Tryz.prog [.tmp 8,.tmp 9] [3,32]) (zad Tryz.f76) (n+1) [0,0,1,0,1,1] [i64 8,i64 y,u64 z,slP lp 1 [i64 a,i64 b],i64 2,i64 2]=ansY (wv (wdP 8 y z [a,b])):=by
  rw[wd_2 (show arT 8=2 from rfl) (by omega) ha hb,zal,zs1]
  have p:=zak.2 (zbo 8)
  have e:za3 8=false:=rfl
  rw[e] at p ⊢
  simp only[bV,mk1,zae,zaj] at p
  rw[if_neg (show ¬ (8=20) by decide)]
  simp only[zaE,zaL,p,zao,n11,n01,zae,zaj]
  by_cases h1:a=b
  · rw[zaa.2 h1,if_pos h1];rfl
  · rw[zam.2 h1,if_neg h1];rfl
theorem z0x(n y z lp a b:Nat)(_hy:y<2 ^ 64)(_hz:z<2 ^ 64)(ha:a≤64)(hb:b≤64):jmpN Tryz.prog 133 za9 (zaf Tryz.prog) RE (finY Tryz.prog [.tmp 8,.tmp 9] [3,32]) (zad Tryz.f76) (n+1) [0,0,1,0,1,1] [i64 9,i64 y,u64 z,slP lp 1 [i64 a,i64 b],i64 2,i64 2]=ansY (wv (wdP 9 y z [a,b])):=by
  rw[wd_2 (show arT 9=2 from rfl) (by omega) ha hb,zal,zs2]
  have p:=zak.2 (zbo 9)
  have e:za3 9=false:=rfl
  rw[e] at p ⊢
  simp only[bV,mk1,zae,zaj] at p
  rw[if_neg (show ¬ (9=20) by decide)]
  simp only[zaE,zaL,p,zao,n11,n01,zae,zaj]
  by_cases h1:a=b
  · rw[zaa.2 h1,if_pos h1];rfl
  · rw[zam.2 h1,if_neg h1];rfl
theorem zxg(n y z lp a b:Nat)(_hy:y<2 ^ 64)(_hz:z<2 ^ 64)(ha:a≤64)(hb:b≤64):jmpN Tryz.prog 133 za9 (zaf Tryz.prog) RE (finY Tryz.prog [.tmp 8,.tmp 9] [3,32]) (zad Tryz.f76) (n+1) [0,0,1,0,1,1] [i64 10,i64 y,u64 z,slP lp 1 [i64 a,i64 b],i64 2,i64 2]=ansY (wv (wdP 10 y z [a,b])):=by
  rw[wd_2 (show arT 10=2 from rfl) (by omega) ha hb,zal,zqk]
  have p:=zak.2 (zbo 10)
  have e:za3 10=false:=rfl
  rw[e] at p ⊢
  simp only[bV,mk1,zae,zaj] at p
  rw[if_neg (show ¬ (10=20) by decide)]
  simp only[zaE,zaL,p,zao,n11,n01,zae,zaj]
  by_cases h1:a=b
  · rw[zaa.2 h1,if_pos h1];rfl
  · rw[zam.2 h1,if_neg h1];rfl
theorem zxh(n y z lp a b:Nat)(_hy:y<2 ^ 64)(_hz:z<2 ^ 64)(ha:a≤64)(hb:b≤64):jmpN Tryz.prog 133 za9 (zaf Tryz.prog) RE (finY Tryz.prog [.tmp 8,.tmp 9] [3,32]) (zad Tryz.f76) (n+1) [0,0,1,0,1,1] [i64 11,i64 y,u64 z,slP lp 1 [i64 a,i64 b],i64 2,i64 2]=ansY (wv (wdP 11 y z [a,b])):=by
  rw[wd_2 (show arT 11=2 from rfl) (by omega) ha hb,zal,zql]
  have p:=zak.2 (zbo 11)
  have e:za3 11=false:=rfl
  rw[e] at p ⊢
  simp only[bV,mk1,zae,zaj] at p
  rw[if_neg (show ¬ (11=20) by decide)]
  simp only[zaE,zaL,p,zao,n11,n01,zae,zaj]
  by_cases h1:a=b
  · rw[zaa.2 h1,if_pos h1];rfl
  · rw[zam.2 h1,if_neg h1];rfl
theorem zxi(n y z lp a b:Nat)(_hy:y<2 ^ 64)(_hz:z<2 ^ 64)(ha:a≤64)(hb:b≤64):jmpN Tryz.prog 133 za9 (zaf Tryz.prog) RE (finY Tryz.prog [.tmp 8,.tmp 9] [3,32]) (zad Tryz.f76) (n+1) [0,0,1,0,1,1] [i64 12,i64 y,u64 z,slP lp 1 [i64 a,i64 b],i64 2,i64 2]=ansY (wv (wdP 12 y z [a,b])):=by
  rw[wd_2 (show arT 12=2 from rfl) (by omega) ha hb,zal,zqm]
  have p:=zak.2 (zbo 12)
  have e:za3 12=false:=rfl
  rw[e] at p ⊢
  simp only[bV,mk1,zae,zaj] at p
  rw[if_neg (show ¬ (12=20) by decide)]
  simp only[zaE,zaL,p,zao,n11,n01,zae,zaj]
  by_cases h1:a=b
  · rw[zaa.2 h1,if_pos h1];rfl
  · rw[zam.2 h1,if_neg h1];rfl
theorem zxj(n y z lp a b:Nat)(_hy:y<2 ^ 64)(_hz:z<2 ^ 64)(ha:a≤64)(hb:b≤64):jmpN Tryz.prog 133 za9 (zaf Tryz.prog) RE (finY Tryz.prog [.tmp 8,.tmp 9] [3,32]) (zad Tryz.f76) (n+1) [0,0,1,0,1,1] [i64 13,i64 y,u64 z,slP lp 1 [i64 a,i64 b],i64 2,i64 2]=ansY (wv (wdP 13 y z [a,b])):=by
  rw[wd_2 (show arT 13=2 from rfl) (by omega) ha hb,zal,zqn]
  have p:=zak.2 (zbo 13)
  have e:za3 13=false:=rfl
  rw[e] at p ⊢
  simp only[bV,mk1,zae,zaj] at p
  rw[if_neg (show ¬ (13=20) by decide)]
  simp only[zaE,zaL,p,zao,n11,n01,zae,zaj]
  by_cases h1:a=b
  · rw[zaa.2 h1,if_pos h1];rfl
  · rw[zam.2 h1,if_neg h1];rfl
theorem zxk(n y z lp a b:Nat)(_hy:y<2 ^ 64)(_hz:z<2 ^ 64)(ha:a≤64)(hb:b≤64):jmpN Tryz.prog 133 za9 (zaf Tryz.prog) RE (finY Tryz.prog [.tmp 8,.tmp 9] [3,32]) (zad Tryz.f76) (n+1) [0,0,1,0,1,1] [i64 14,i64 y,u64 z,slP lp 1 [i64 a,i64 b],i64 2,i64 2]=ansY (wv (wdP 14 y z [a,b])):=by
  rw[wd_2 (show arT 14=2 from rfl) (by omega) ha hb,zal,zqo]
  have p:=zak.2 (zbo 14)
  have e:za3 14=false:=rfl
  rw[e] at p ⊢
  simp only[bV,mk1,zae,zaj] at p
  rw[if_neg (show ¬ (14=20) by decide)]
  simp only[zaE,zaL,p,zao,n11,n01,zae,zaj]
  by_cases h1:a=b
  · rw[zaa.2 h1,if_pos h1];rfl
  · rw[zam.2 h1,if_neg h1];rfl
theorem zxl(n y z lp a b:Nat)(_hy:y<2 ^ 64)(_hz:z<2 ^ 64)(ha:a≤64)(hb:b≤64):jmpN Tryz.prog 133 za9 (zaf Tryz.prog) RE (finY Tryz.prog [.tmp 8,.tmp 9] [3,32]) (zad Tryz.f76) (n+1) [0,0,1,0,1,1] [i64 15,i64 y,u64 z,slP lp 1 [i64 a,i64 b],i64 2,i64 2]=ansY (wv (wdP 15 y z [a,b])):=by
  rw[wd_2 (show arT 15=2 from rfl) (by omega) ha hb,zal,zqp]
  have p:=zak.2 (zbo 15)
  have e:za3 15=false:=rfl
  rw[e] at p ⊢
  simp only[bV,mk1,zae,zaj] at p
  rw[if_neg (show ¬ (15=20) by decide)]
  simp only[zaE,zaL,p,zao,n11,n01,zae,zaj]
  by_cases h1:a=b
  · rw[zaa.2 h1,if_pos h1];rfl
  · rw[zam.2 h1,if_neg h1];rfl
theorem zxm(n y z lp a b:Nat)(_hy:y<2 ^ 64)(_hz:z<2 ^ 64)(ha:a≤64)(hb:b≤64):jmpN Tryz.prog 133 za9 (zaf Tryz.prog) RE (finY Tryz.prog [.tmp 8,.tmp 9] [3,32]) (zad Tryz.f76) (n+1) [0,0,1,0,1,1] [i64 16,i64 y,u64 z,slP lp 1 [i64 a,i64 b],i64 2,i64 2]=ansY (wv (wdP 16 y z [a,b])):=by
  rw[wd_2 (show arT 16=2 from rfl) (by omega) ha hb,zal,zqq]
  have p:=zak.2 (zbo 16)
  have e:za3 16=false:=rfl
  rw[e] at p ⊢
  simp only[bV,mk1,zae,zaj] at p
  rw[if_neg (show ¬ (16=20) by decide)]
  simp only[zaE,zaL,p,zao,n11,n01,zae,zaj]
  by_cases h1:a=b
  · rw[zaa.2 h1,if_pos h1];rfl
  · rw[zam.2 h1,if_neg h1];rfl
theorem zxn(n y z lp a b:Nat)(_hy:y<2 ^ 64)(_hz:z<2 ^ 64)(ha:a≤64)(hb:b≤64):jmpN Tryz.prog 133 za9 (zaf Tryz.prog) RE (finY Tryz.prog [.tmp 8,.tmp 9] [3,32]) (zad Tryz.f76) (n+1) [0,0,1,0,1,1] [i64 17,i64 y,u64 z,slP lp 1 [i64 a,i64 b],i64 2,i64 2]=ansY (wv (wdP 17 y z [a,b])):=by
  rw[wd_2 (show arT 17=2 from rfl) (by omega) ha hb,zal,zqr]
  have p:=zak.2 (zbo 17)
  have e:za3 17=false:=rfl
  rw[e] at p ⊢
  simp only[bV,mk1,zae,zaj] at p
  rw[if_neg (show ¬ (17=20) by decide)]
  simp only[zaE,zaL,p,zao,n11,n01,zae,zaj]
  by_cases h1:a=b
  · rw[zaa.2 h1,if_pos h1];rfl
  · rw[zam.2 h1,if_neg h1];rfl
theorem zxo(n y z lp a b:Nat)(_hy:y<2 ^ 64)(_hz:z<2 ^ 64)(ha:a≤64)(hb:b≤64):jmpN Tryz.prog 133 za9 (zaf Tryz.prog) RE (finY Tryz.prog [.tmp 8,.tmp 9] [3,32]) (zad Tryz.f76) (n+1) [0,0,1,0,1,1] [i64 18,i64 y,u64 z,slP lp 1 [i64 a,i64 b],i64 2,i64 2]=ansY (wv (wdP 18 y z [a,b])):=by
  rw[wd_2 (show arT 18=2 from rfl) (by omega) ha hb,zal,zqs]
  have p:=zak.2 (zbo 18)
  have e:za3 18=false:=rfl
  rw[e] at p ⊢
  simp only[bV,mk1,zae,zaj] at p
  rw[if_neg (show ¬ (18=20) by decide)]
  simp only[zaE,zaL,p,zao,n11,n01,zae,zaj]
  by_cases h1:a=b
  · rw[zaa.2 h1,if_pos h1];rfl
  · rw[zam.2 h1,if_neg h1];rfl
theorem zxp(n y z lp a b c:Nat)(_hy:y<2 ^ 64)(_hz:z<2 ^ 64)(ha:a≤64)(hb:b≤64)(hc:c≤64):jmpN Tryz.prog 133 za9 (zaf Tryz.prog) RE (finY Tryz.prog [.tmp 8,.tmp 9] [3,32]) (zad Tryz.f76) (n+1) [0,0,1,0,1,1] [i64 19,i64 y,u64 z,slP lp 1 [i64 a,i64 b,i64 c],i64 3,i64 3]=ansY (wv (wdP 19 y z [a,b,c])):=by
  rw[wd_3 (show arT 19=3 from rfl) (by omega) ha hb hc,zal,zq6]
  have p:=zak.2 (zbo 19)
  have e:za3 19=false:=rfl
  rw[e] at p ⊢
  simp only[bV,mk1,zae,zaj] at p
  simp only[zaE,zaL,p,zao,ziz,n11,n01,zae,zaj]
  by_cases h1:a=1
  · rw[zaa.2 h1]
    by_cases h2:b=c
    · rw[zaa.2 h2,if_pos ⟨h1,h2⟩];rfl
    · rw[zam.2 h2,if_neg fun h=>h2 h.2];rfl
  · rw[zam.2 h1,if_neg fun h=>h1 h.1];rfl
theorem zxq(n y z lp a b:Nat)(_hy:y<2 ^ 64)(_hz:z<2 ^ 64)(ha:a≤64)(hb:b≤64):jmpN Tryz.prog 133 za9 (zaf Tryz.prog) RE (finY Tryz.prog [.tmp 8,.tmp 9] [3,32]) (zad Tryz.f76) (n+1) [0,0,1,0,1,1] [i64 20,i64 y,u64 z,slP lp 1 [i64 a,i64 b],i64 2,i64 2]=ansY (wv (wdP 20 y z [a,b])):=by
  rw[wd_2 (show arT 20=2 from rfl) (by omega) ha hb,zal,zq7]
  have p:=zak.2 (zbo 20)
  have e:za3 20=false:=rfl
  rw[e] at p ⊢
  simp only[bV,mk1,zae,zaj] at p
  rw[if_pos rfl]
  rw[zk1 ha,zk1 hb,addN (by omega),zvD (by omega)]
  simp only[zaE,zaL,p,zao,ziz,n11,n01,zae,zaj]
  by_cases h1:1≤a
  · rw[decide_eq_true h1]
    by_cases h2:1≤b
    · rw[decide_eq_true h2]
      by_cases h3:a+b≤64
      · rw[decide_eq_true h3,if_pos ⟨h1,h2,h3⟩];rfl
      · rw[decide_eq_false h3,if_neg fun h=>h3 h.2.2];rfl
    · rw[decide_eq_false h2,if_neg fun h=>h2 h.2.1];rfl
  · rw[decide_eq_false h1,if_neg fun h=>h1 h.1];rfl
theorem zxr(n y z lp a:Nat)(hy:y<2 ^ 64)(hz:z<2 ^ 64)(ha:a≤64):jmpN Tryz.prog 133 za9 (zaf Tryz.prog) RE (finY Tryz.prog [.tmp 8,.tmp 9] [3,32]) (zad Tryz.f76) (n+1) [0,0,1,0,1,1] [i64 21,i64 y,u64 z,slP lp 1 [i64 a],i64 1,i64 1]=ansY (wv (wdP 21 y z [a])):=by
  rw[wd_1 (show arT 21=1 from rfl) (by omega) ha,zal,zqz]
  have p:=zak.2 (zbo 21)
  have e:za3 21=false:=rfl
  rw[e] at p ⊢
  simp only[bV,mk1,zae,zaj] at p
  have q:=zak.2 (zld 21 y z a hy hz (by omega))
  simp only[tupV] at q
  simp only[zaE,zaL,p,q,zao,n11,zae,zaj]
  cases rsP 21 y z a<;>rfl
theorem zxs(n y z lp a:Nat)(hy:y<2 ^ 64)(hz:z<2 ^ 64)(ha:a≤64):jmpN Tryz.prog 133 za9 (zaf Tryz.prog) RE (finY Tryz.prog [.tmp 8,.tmp 9] [3,32]) (zad Tryz.f76) (n+1) [0,0,1,0,1,1] [i64 22,i64 y,u64 z,slP lp 1 [i64 a],i64 1,i64 1]=ansY (wv (wdP 22 y z [a])):=by
  rw[wd_1 (show arT 22=1 from rfl) (by omega) ha,zal,zq0]
  have p:=zak.2 (zbo 22)
  have e:za3 22=false:=rfl
  rw[e] at p ⊢
  simp only[bV,mk1,zae,zaj] at p
  have q:=zak.2 (zld 22 y z a hy hz (by omega))
  simp only[tupV] at q
  simp only[zaE,zaL,p,q,zao,n11,zae,zaj]
  cases rsP 22 y z a<;>rfl
theorem zxt(n y z lp a:Nat)(hy:y<2 ^ 64)(hz:z<2 ^ 64)(ha:a≤64):jmpN Tryz.prog 133 za9 (zaf Tryz.prog) RE (finY Tryz.prog [.tmp 8,.tmp 9] [3,32]) (zad Tryz.f76) (n+1) [0,0,1,0,1,1] [i64 23,i64 y,u64 z,slP lp 1 [i64 a],i64 1,i64 1]=ansY (wv (wdP 23 y z [a])):=by
  rw[wd_1 (show arT 23=1 from rfl) (by omega) ha,zal,zq1]
  have p:=zak.2 (zbo 23)
  have e:za3 23=false:=rfl
  rw[e] at p ⊢
  simp only[bV,mk1,zae,zaj] at p
  have q:=zak.2 (zld 23 y z a hy hz (by omega))
  simp only[tupV] at q
  simp only[zaE,zaL,p,q,zao,n11,zae,zaj]
  cases rsP 23 y z a<;>rfl
theorem zxu(n y z lp:Nat)(hy:y<2 ^ 64)(hz:z<2 ^ 64):jmpN Tryz.prog 133 za9 (zaf Tryz.prog) RE (finY Tryz.prog [.tmp 8,.tmp 9] [3,32]) (zad Tryz.f76) (n+1) [0,0,1,0,1,1] [i64 24,i64 y,u64 z,slP lp 1 [],i64 0,i64 0]=ansY (wv (wdP 24 y z [])):=by
  rw[wd_0 (show arT 24=0 from rfl) (by omega) ,zal,zq2]
  have p:=zak.2 (zbo 24)
  have e:za3 24=true:=rfl
  have q:=zak.2 (zjb 24 y z hy hz)
  rw[e] at p ⊢
  simp only[bV,mk1,zae,zaj] at p
  simp only[tupV] at q
  simp only[zaE,zaL,p,q,zao,n11,zae]
  cases lfP 24 y z<;>rfl
theorem zxv(n y z lp:Nat)(hy:y<2 ^ 64)(hz:z<2 ^ 64):jmpN Tryz.prog 133 za9 (zaf Tryz.prog) RE (finY Tryz.prog [.tmp 8,.tmp 9] [3,32]) (zad Tryz.f76) (n+1) [0,0,1,0,1,1] [i64 25,i64 y,u64 z,slP lp 1 [],i64 0,i64 0]=ansY (wv (wdP 25 y z [])):=by
  rw[wd_0 (show arT 25=0 from rfl) (by omega) ,zal,zq3]
  have p:=zak.2 (zbo 25)
  have e:za3 25=true:=rfl
  have q:=zak.2 (zjb 25 y z hy hz)
  rw[e] at p ⊢
  simp only[bV,mk1,zae,zaj] at p
  simp only[tupV] at q
  simp only[zaE,zaL,p,q,zao,n11,zae]
  cases lfP 25 y z<;>rfl
theorem zxw(n y z lp a:Nat)(_hy:y<2 ^ 64)(_hz:z<2 ^ 64)(ha:a≤64):jmpN Tryz.prog 133 za9 (zaf Tryz.prog) RE (finY Tryz.prog [.tmp 8,.tmp 9] [3,32]) (zad Tryz.f76) (n+1) [0,0,1,0,1,1] [i64 26,i64 y,u64 z,slP lp 1 [i64 a],i64 1,i64 1]=ansY (wv (wdP 26 y z [a])):=by
  rw[wd_1 (show arT 26=1 from rfl) (by omega) ha,zal,zq4]
  have p:=zak.2 (zbo 26)
  have e:za3 26=false:=rfl
  rw[e] at p ⊢
  simp only[bV,mk1,zae,zaj] at p
  simp only[zaE,zaL,p,zao,n11,zae,zaj]
  rfl
end Go.Eng
namespace Go.Eng
open Go.RowKit Go.Proofs
theorem zhd{op y z lp:Nat}(har:arT op=1)(ho:¬ (op=0 ∨ 26<op))(E:∀ n a,a≤64→jmpN Tryz.prog 144 za8 (zaf Tryz.prog) RE (finY Tryz.prog [.tmp 8,.tmp 9] [3,32]) (zad Tryz.f69) (n+1) [0,0,1,0,1,1] [i64 op,i64 y,u64 z,slP lp 1 [i64 a],slP lp 1 [i64 a],i64 1,i64 1]=ansY (wv (wdP op y z [a])))(n a:Nat)(ha:a<2 ^ 64) :
    jmpN Tryz.prog 144 za8 (zaf Tryz.prog) RE (finY Tryz.prog [.tmp 8,.tmp 9] [3,32]) (zad Tryz.f69) (n+4) [0,0,1,0,1,1] [i64 op,i64 y,u64 z,slP lp 1 [i64 a],slP lp 1 [i64 a],i64 1,i64 0]=ansY (wv (wdP op y z [a])):=by
  have hbad:¬ (op=0 ∨ 26<op ∨ ([a]:List Nat).length ≠ arT op):=by rw[har];simp;omega
  refine (zub (n+3) op y z lp a ha).trans ?_
  by_cases ka:a≤64
  rotate_left
  · rw[decide_eq_false ka,zaj,zds hbad (show a ∈ [a] by simp) ka]
  rw[decide_eq_true ka,zae]
  exact E (n+2) a ka
theorem zc8{op y z lp:Nat}(har:arT op=2)(ho:¬ (op=0 ∨ 26<op))(E:∀ n a b,a≤64→b≤64→jmpN Tryz.prog 144 za8 (zaf Tryz.prog) RE (finY Tryz.prog [.tmp 8,.tmp 9] [3,32]) (zad Tryz.f69) (n+1) [0,0,1,0,1,1] [i64 op,i64 y,u64 z,slP lp 1 [i64 a,i64 b],slP lp 1 [i64 a,i64 b],i64 2,i64 2]=ansY (wv (wdP op y z [a,b])))(n a b:Nat)(ha:a<2 ^ 64)(hb:b<2 ^ 64) :
    jmpN Tryz.prog 144 za8 (zaf Tryz.prog) RE (finY Tryz.prog [.tmp 8,.tmp 9] [3,32]) (zad Tryz.f69) (n+4) [0,0,1,0,1,1] [i64 op,i64 y,u64 z,slP lp 1 [i64 a,i64 b],slP lp 1 [i64 a,i64 b],i64 2,i64 0]=ansY (wv (wdP op y z [a,b])):=by
  have hbad:¬ (op=0 ∨ 26<op ∨ ([a,b]:List Nat).length ≠ arT op):=by rw[har];simp;omega
  refine (zuc (n+3) op y z lp a b ha).trans ?_
  by_cases ka:a≤64
  rotate_left
  · rw[decide_eq_false ka,zaj,zds hbad (show a ∈ [a,b] by simp) ka]
  rw[decide_eq_true ka,zae]
  refine (zud (n+2) op y z lp a b hb).trans ?_
  by_cases kb:b≤64
  rotate_left
  · rw[decide_eq_false kb,zaj,zds hbad (show b ∈ [a,b] by simp) kb]
  rw[decide_eq_true kb,zae]
  exact E (n+1) a b ka kb
theorem z0y{op y z lp:Nat}(har:arT op=3)(ho:¬ (op=0 ∨ 26<op))(E:∀ n a b c,a≤64→b≤64→c≤64→jmpN Tryz.prog 144 za8 (zaf Tryz.prog) RE (finY Tryz.prog [.tmp 8,.tmp 9] [3,32]) (zad Tryz.f69) (n+1) [0,0,1,0,1,1] [i64 op,i64 y,u64 z,slP lp 1 [i64 a,i64 b,i64 c],slP lp 1 [i64 a,i64 b,i64 c],i64 3,i64 3]=ansY (wv (wdP op y z [a,b,c])))(n a b c:Nat)(ha:a<2 ^ 64)(hb:b<2 ^ 64)(hc:c<2 ^ 64) :
    jmpN Tryz.prog 144 za8 (zaf Tryz.prog) RE (finY Tryz.prog [.tmp 8,.tmp 9] [3,32]) (zad Tryz.f69) (n+4) [0,0,1,0,1,1] [i64 op,i64 y,u64 z,slP lp 1 [i64 a,i64 b,i64 c],slP lp 1 [i64 a,i64 b,i64 c],i64 3,i64 0]=ansY (wv (wdP op y z [a,b,c])):=by
  have hbad:¬ (op=0 ∨ 26<op ∨ ([a,b,c]:List Nat).length ≠ arT op):=by rw[har];simp;omega
  refine (zue (n+3) op y z lp a b c ha).trans ?_
  by_cases ka:a≤64
  rotate_left
  · rw[decide_eq_false ka,zaj,zds hbad (show a ∈ [a,b,c] by simp) ka]
  rw[decide_eq_true ka,zae]
  refine (zuf (n+2) op y z lp a b c hb).trans ?_
  by_cases kb:b≤64
  rotate_left
  · rw[decide_eq_false kb,zaj,zds hbad (show b ∈ [a,b,c] by simp) kb]
  rw[decide_eq_true kb,zae]
  refine (zug (n+1) op y z lp a b c hc).trans ?_
  by_cases kc:c≤64
  rotate_left
  · rw[decide_eq_false kc,zaj,zds hbad (show c ∈ [a,b,c] by simp) kc]
  rw[decide_eq_true kc,zae]
  exact E (n+0) a b c ka kb kc
theorem z3n{op y z lp:Nat}{ws:List Nat}(hk:1≤op∧op≤26)(hl:ws.length=arT op)(hy:y<2 ^ 64)(hz:z<2 ^ 64)(hws:∀ a ∈ ws,a<2 ^ 64)(n:Nat) :
    jmpN Tryz.prog 144 za8 (zaf Tryz.prog) RE (finY Tryz.prog [.tmp 8,.tmp 9] [3,32]) (zad Tryz.f69) (n+4) [0,0,1,0,1,1] [i64 op,i64 y,u64 z,slP lp 1 (ws.map i64),slP lp 1 (ws.map i64),i64 ws.length,i64 0]=ansY (wv (wdP op y z ws)):=by
  have hb:¬ (op=0 ∨ 26<op):=by omega
  have hc:op=1 ∨ op=2 ∨ op=3 ∨ op=4 ∨ op=5 ∨ op=6 ∨ op=7 ∨ op=8 ∨ op=9 ∨ op=10 ∨ op=11 ∨ op=12 ∨ op=13 ∨ op=14 ∨ op=15 ∨ op=16 ∨ op=17 ∨ op=18 ∨ op=19 ∨ op=20 ∨ op=21 ∨ op=22 ∨ op=23 ∨ op=24 ∨ op=25 ∨ op=26:=by omega
  match ws,hl,hws with
  | [],hl,hws =>
    have hk:op=1 ∨ op=2 ∨ op=24 ∨ op=25:=by
      rcases hc with rfl | rfl | rfl | rfl | rfl | rfl | rfl | rfl | rfl | rfl | rfl | rfl | rfl | rfl | rfl | rfl | rfl | rfl | rfl | rfl | rfl | rfl | rfl | rfl | rfl | rfl<;>first | omega | (simp only[List.length_cons,List.length_nil] at hl;exact absurd hl (by decide))
    rcases hk with rfl | rfl | rfl | rfl
    · exact z0g (n+3) y z lp hy hz
    · exact z0h (n+3) y z lp hy hz
    · exact zxd (n+3) y z lp hy hz
    · exact zxe (n+3) y z lp hy hz
  | [a],hl,hws =>
    have hk:op=3 ∨ op=4 ∨ op=21 ∨ op=22 ∨ op=23 ∨ op=26:=by
      rcases hc with rfl | rfl | rfl | rfl | rfl | rfl | rfl | rfl | rfl | rfl | rfl | rfl | rfl | rfl | rfl | rfl | rfl | rfl | rfl | rfl | rfl | rfl | rfl | rfl | rfl | rfl<;>first | omega | (simp only[List.length_cons,List.length_nil] at hl;exact absurd hl (by decide))
    rcases hk with rfl | rfl | rfl | rfl | rfl | rfl
    · exact zhd rfl hb (fun n a ha=>z0i n y z lp a hy hz ha) n a (hws _ (by simp))
    · exact zhd rfl hb (fun n a ha=>z0j n y z lp a hy hz ha) n a (hws _ (by simp))
    · exact zhd rfl hb (fun n a ha=>zxa n y z lp a hy hz ha) n a (hws _ (by simp))
    · exact zhd rfl hb (fun n a ha=>zxb n y z lp a hy hz ha) n a (hws _ (by simp))
    · exact zhd rfl hb (fun n a ha=>zxc n y z lp a hy hz ha) n a (hws _ (by simp))
    · exact zhd rfl hb (fun n a ha=>zxf n y z lp a hy hz ha) n a (hws _ (by simp))
  | [a,b],hl,hws =>
    have hk:op=5 ∨ op=6 ∨ op=7 ∨ op=8 ∨ op=9 ∨ op=10 ∨ op=11 ∨ op=12 ∨ op=13 ∨ op=14 ∨ op=15 ∨ op=16 ∨ op=17 ∨ op=18 ∨ op=20:=by
      rcases hc with rfl | rfl | rfl | rfl | rfl | rfl | rfl | rfl | rfl | rfl | rfl | rfl | rfl | rfl | rfl | rfl | rfl | rfl | rfl | rfl | rfl | rfl | rfl | rfl | rfl | rfl<;>first | omega | (simp only[List.length_cons,List.length_nil] at hl;exact absurd hl (by decide))
    rcases hk with rfl | rfl | rfl | rfl | rfl | rfl | rfl | rfl | rfl | rfl | rfl | rfl | rfl | rfl | rfl
    · exact zc8 rfl hb (fun n a b ha hb=>z0k n y z lp a b hy hz ha hb) n a b (hws _ (by simp)) (hws _ (by simp))
    · exact zc8 rfl hb (fun n a b ha hb=>z0l n y z lp a b hy hz ha hb) n a b (hws _ (by simp)) (hws _ (by simp))
    · exact zc8 rfl hb (fun n a b ha hb=>z0m n y z lp a b hy hz ha hb) n a b (hws _ (by simp)) (hws _ (by simp))
    · exact zc8 rfl hb (fun n a b ha hb=>z0n n y z lp a b hy hz ha hb) n a b (hws _ (by simp)) (hws _ (by simp))
    · exact zc8 rfl hb (fun n a b ha hb=>z0o n y z lp a b hy hz ha hb) n a b (hws _ (by simp)) (hws _ (by simp))
    · exact zc8 rfl hb (fun n a b ha hb=>zwP n y z lp a b hy hz ha hb) n a b (hws _ (by simp)) (hws _ (by simp))
    · exact zc8 rfl hb (fun n a b ha hb=>zwQ n y z lp a b hy hz ha hb) n a b (hws _ (by simp)) (hws _ (by simp))
    · exact zc8 rfl hb (fun n a b ha hb=>zwR n y z lp a b hy hz ha hb) n a b (hws _ (by simp)) (hws _ (by simp))
    · exact zc8 rfl hb (fun n a b ha hb=>zwS n y z lp a b hy hz ha hb) n a b (hws _ (by simp)) (hws _ (by simp))
    · exact zc8 rfl hb (fun n a b ha hb=>zwT n y z lp a b hy hz ha hb) n a b (hws _ (by simp)) (hws _ (by simp))
    · exact zc8 rfl hb (fun n a b ha hb=>zwU n y z lp a b hy hz ha hb) n a b (hws _ (by simp)) (hws _ (by simp))
    · exact zc8 rfl hb (fun n a b ha hb=>zwV n y z lp a b hy hz ha hb) n a b (hws _ (by simp)) (hws _ (by simp))
    · exact zc8 rfl hb (fun n a b ha hb=>zwW n y z lp a b hy hz ha hb) n a b (hws _ (by simp)) (hws _ (by simp))
    · exact zc8 rfl hb (fun n a b ha hb=>zwX n y z lp a b hy hz ha hb) n a b (hws _ (by simp)) (hws _ (by simp))
    · exact zc8 rfl hb (fun n a b ha hb=>zwZ n y z lp a b hy hz ha hb) n a b (hws _ (by simp)) (hws _ (by simp))
  | [a,b,c],hl,hws =>
    have hk:op=19:=by
      rcases hc with rfl | rfl | rfl | rfl | rfl | rfl | rfl | rfl | rfl | rfl | rfl | rfl | rfl | rfl | rfl | rfl | rfl | rfl | rfl | rfl | rfl | rfl | rfl | rfl | rfl | rfl<;>first | omega | (simp only[List.length_cons,List.length_nil] at hl;exact absurd hl (by decide))
    rcases hk with rfl
    · exact z0y rfl hb (fun n a b c ha hb hc=>zwY n y z lp a b c hy hz ha hb hc) n a b c (hws _ (by simp)) (hws _ (by simp)) (hws _ (by simp))
  | _::_::_::_::_,hl,_ =>
    exfalso
    simp only[List.length_cons] at hl
    have:arT op≤3:=by
      rcases hc with rfl | rfl | rfl | rfl | rfl | rfl | rfl | rfl | rfl | rfl | rfl | rfl | rfl | rfl | rfl | rfl | rfl | rfl | rfl | rfl | rfl | rfl | rfl | rfl | rfl | rfl<;>decide
    omega
theorem zhe{op y z lp:Nat}(har:arT op=1)(ho:¬ (op=0 ∨ 26<op))(E:∀ n a,a≤64→jmpN Tryz.prog 133 za9 (zaf Tryz.prog) RE (finY Tryz.prog [.tmp 8,.tmp 9] [3,32]) (zad Tryz.f76) (n+1) [0,0,1,0,1,1] [i64 op,i64 y,u64 z,slP lp 1 [i64 a],i64 1,i64 1]=ansY (wv (wdP op y z [a])))(n a:Nat)(ha:a<2 ^ 64) :
    jmpN Tryz.prog 133 za9 (zaf Tryz.prog) RE (finY Tryz.prog [.tmp 8,.tmp 9] [3,32]) (zad Tryz.f76) (n+4) [0,0,1,0,1,1] [i64 op,i64 y,u64 z,slP lp 1 [i64 a],i64 1,i64 0]=ansY (wv (wdP op y z [a])):=by
  have hbad:¬ (op=0 ∨ 26<op ∨ ([a]:List Nat).length ≠ arT op):=by rw[har];simp;omega
  refine (zuh (n+3) op y z lp a ha).trans ?_
  by_cases ka:a≤64
  rotate_left
  · rw[decide_eq_false ka,zaj,zds hbad (show a ∈ [a] by simp) ka]
  rw[decide_eq_true ka,zae]
  exact E (n+2) a ka
theorem zc9{op y z lp:Nat}(har:arT op=2)(ho:¬ (op=0 ∨ 26<op))(E:∀ n a b,a≤64→b≤64→jmpN Tryz.prog 133 za9 (zaf Tryz.prog) RE (finY Tryz.prog [.tmp 8,.tmp 9] [3,32]) (zad Tryz.f76) (n+1) [0,0,1,0,1,1] [i64 op,i64 y,u64 z,slP lp 1 [i64 a,i64 b],i64 2,i64 2]=ansY (wv (wdP op y z [a,b])))(n a b:Nat)(ha:a<2 ^ 64)(hb:b<2 ^ 64) :
    jmpN Tryz.prog 133 za9 (zaf Tryz.prog) RE (finY Tryz.prog [.tmp 8,.tmp 9] [3,32]) (zad Tryz.f76) (n+4) [0,0,1,0,1,1] [i64 op,i64 y,u64 z,slP lp 1 [i64 a,i64 b],i64 2,i64 0]=ansY (wv (wdP op y z [a,b])):=by
  have hbad:¬ (op=0 ∨ 26<op ∨ ([a,b]:List Nat).length ≠ arT op):=by rw[har];simp;omega
  refine (zui (n+3) op y z lp a b ha).trans ?_
  by_cases ka:a≤64
  rotate_left
  · rw[decide_eq_false ka,zaj,zds hbad (show a ∈ [a,b] by simp) ka]
  rw[decide_eq_true ka,zae]
  refine (zuj (n+2) op y z lp a b hb).trans ?_
  by_cases kb:b≤64
  rotate_left
  · rw[decide_eq_false kb,zaj,zds hbad (show b ∈ [a,b] by simp) kb]
  rw[decide_eq_true kb,zae]
  exact E (n+1) a b ka kb
theorem z0z{op y z lp:Nat}(har:arT op=3)(ho:¬ (op=0 ∨ 26<op))(E:∀ n a b c,a≤64→b≤64→c≤64→jmpN Tryz.prog 133 za9 (zaf Tryz.prog) RE (finY Tryz.prog [.tmp 8,.tmp 9] [3,32]) (zad Tryz.f76) (n+1) [0,0,1,0,1,1] [i64 op,i64 y,u64 z,slP lp 1 [i64 a,i64 b,i64 c],i64 3,i64 3]=ansY (wv (wdP op y z [a,b,c])))(n a b c:Nat)(ha:a<2 ^ 64)(hb:b<2 ^ 64)(hc:c<2 ^ 64) :
    jmpN Tryz.prog 133 za9 (zaf Tryz.prog) RE (finY Tryz.prog [.tmp 8,.tmp 9] [3,32]) (zad Tryz.f76) (n+4) [0,0,1,0,1,1] [i64 op,i64 y,u64 z,slP lp 1 [i64 a,i64 b,i64 c],i64 3,i64 0]=ansY (wv (wdP op y z [a,b,c])):=by
  have hbad:¬ (op=0 ∨ 26<op ∨ ([a,b,c]:List Nat).length ≠ arT op):=by rw[har];simp;omega
  refine (zuk (n+3) op y z lp a b c ha).trans ?_
  by_cases ka:a≤64
  rotate_left
  · rw[decide_eq_false ka,zaj,zds hbad (show a ∈ [a,b,c] by simp) ka]
  rw[decide_eq_true ka,zae]
  refine (zul (n+2) op y z lp a b c hb).trans ?_
  by_cases kb:b≤64
  rotate_left
  · rw[decide_eq_false kb,zaj,zds hbad (show b ∈ [a,b,c] by simp) kb]
  rw[decide_eq_true kb,zae]
  refine (zum (n+1) op y z lp a b c hc).trans ?_
  by_cases kc:c≤64
  rotate_left
  · rw[decide_eq_false kc,zaj,zds hbad (show c ∈ [a,b,c] by simp) kc]
  rw[decide_eq_true kc,zae]
  exact E (n+0) a b c ka kb kc
theorem z3o{op y z lp:Nat}{ws:List Nat}(hk:1≤op∧op≤26)(hl:ws.length=arT op)(hy:y<2 ^ 64)(hz:z<2 ^ 64)(hws:∀ a ∈ ws,a<2 ^ 64)(n:Nat) :
    jmpN Tryz.prog 133 za9 (zaf Tryz.prog) RE (finY Tryz.prog [.tmp 8,.tmp 9] [3,32]) (zad Tryz.f76) (n+4) [0,0,1,0,1,1] [i64 op,i64 y,u64 z,slP lp 1 (ws.map i64),i64 ws.length,i64 0]=ansY (wv (wdP op y z ws)):=by
  have hb:¬ (op=0 ∨ 26<op):=by omega
  have hc:op=1 ∨ op=2 ∨ op=3 ∨ op=4 ∨ op=5 ∨ op=6 ∨ op=7 ∨ op=8 ∨ op=9 ∨ op=10 ∨ op=11 ∨ op=12 ∨ op=13 ∨ op=14 ∨ op=15 ∨ op=16 ∨ op=17 ∨ op=18 ∨ op=19 ∨ op=20 ∨ op=21 ∨ op=22 ∨ op=23 ∨ op=24 ∨ op=25 ∨ op=26:=by omega
  match ws,hl,hws with
  | [],hl,hws =>
    have hk:op=1 ∨ op=2 ∨ op=24 ∨ op=25:=by
      rcases hc with rfl | rfl | rfl | rfl | rfl | rfl | rfl | rfl | rfl | rfl | rfl | rfl | rfl | rfl | rfl | rfl | rfl | rfl | rfl | rfl | rfl | rfl | rfl | rfl | rfl | rfl<;>first | omega | (simp only[List.length_cons,List.length_nil] at hl;exact absurd hl (by decide))
    rcases hk with rfl | rfl | rfl | rfl
    · exact z0p (n+3) y z lp hy hz
    · exact z0q (n+3) y z lp hy hz
    · exact zxu (n+3) y z lp hy hz
    · exact zxv (n+3) y z lp hy hz
  | [a],hl,hws =>
    have hk:op=3 ∨ op=4 ∨ op=21 ∨ op=22 ∨ op=23 ∨ op=26:=by
      rcases hc with rfl | rfl | rfl | rfl | rfl | rfl | rfl | rfl | rfl | rfl | rfl | rfl | rfl | rfl | rfl | rfl | rfl | rfl | rfl | rfl | rfl | rfl | rfl | rfl | rfl | rfl<;>first | omega | (simp only[List.length_cons,List.length_nil] at hl;exact absurd hl (by decide))
    rcases hk with rfl | rfl | rfl | rfl | rfl | rfl
    · exact zhe rfl hb (fun n a ha=>z0r n y z lp a hy hz ha) n a (hws _ (by simp))
    · exact zhe rfl hb (fun n a ha=>z0s n y z lp a hy hz ha) n a (hws _ (by simp))
    · exact zhe rfl hb (fun n a ha=>zxr n y z lp a hy hz ha) n a (hws _ (by simp))
    · exact zhe rfl hb (fun n a ha=>zxs n y z lp a hy hz ha) n a (hws _ (by simp))
    · exact zhe rfl hb (fun n a ha=>zxt n y z lp a hy hz ha) n a (hws _ (by simp))
    · exact zhe rfl hb (fun n a ha=>zxw n y z lp a hy hz ha) n a (hws _ (by simp))
  | [a,b],hl,hws =>
    have hk:op=5 ∨ op=6 ∨ op=7 ∨ op=8 ∨ op=9 ∨ op=10 ∨ op=11 ∨ op=12 ∨ op=13 ∨ op=14 ∨ op=15 ∨ op=16 ∨ op=17 ∨ op=18 ∨ op=20:=by
      rcases hc with rfl | rfl | rfl | rfl | rfl | rfl | rfl | rfl | rfl | rfl | rfl | rfl | rfl | rfl | rfl | rfl | rfl | rfl | rfl | rfl | rfl | rfl | rfl | rfl | rfl | rfl<;>first | omega | (simp only[List.length_cons,List.length_nil] at hl;exact absurd hl (by decide))
    rcases hk with rfl | rfl | rfl | rfl | rfl | rfl | rfl | rfl | rfl | rfl | rfl | rfl | rfl | rfl | rfl
    · exact zc9 rfl hb (fun n a b ha hb=>z0t n y z lp a b hy hz ha hb) n a b (hws _ (by simp)) (hws _ (by simp))
    · exact zc9 rfl hb (fun n a b ha hb=>z0u n y z lp a b hy hz ha hb) n a b (hws _ (by simp)) (hws _ (by simp))
    · exact zc9 rfl hb (fun n a b ha hb=>z0v n y z lp a b hy hz ha hb) n a b (hws _ (by simp)) (hws _ (by simp))
    · exact zc9 rfl hb (fun n a b ha hb=>z0w n y z lp a b hy hz ha hb) n a b (hws _ (by simp)) (hws _ (by simp))
    · exact zc9 rfl hb (fun n a b ha hb=>z0x n y z lp a b hy hz ha hb) n a b (hws _ (by simp)) (hws _ (by simp))
    · exact zc9 rfl hb (fun n a b ha hb=>zxg n y z lp a b hy hz ha hb) n a b (hws _ (by simp)) (hws _ (by simp))
    · exact zc9 rfl hb (fun n a b ha hb=>zxh n y z lp a b hy hz ha hb) n a b (hws _ (by simp)) (hws _ (by simp))
    · exact zc9 rfl hb (fun n a b ha hb=>zxi n y z lp a b hy hz ha hb) n a b (hws _ (by simp)) (hws _ (by simp))
    · exact zc9 rfl hb (fun n a b ha hb=>zxj n y z lp a b hy hz ha hb) n a b (hws _ (by simp)) (hws _ (by simp))
    · exact zc9 rfl hb (fun n a b ha hb=>zxk n y z lp a b hy hz ha hb) n a b (hws _ (by simp)) (hws _ (by simp))
    · exact zc9 rfl hb (fun n a b ha hb=>zxl n y z lp a b hy hz ha hb) n a b (hws _ (by simp)) (hws _ (by simp))
    · exact zc9 rfl hb (fun n a b ha hb=>zxm n y z lp a b hy hz ha hb) n a b (hws _ (by simp)) (hws _ (by simp))
    · exact zc9 rfl hb (fun n a b ha hb=>zxn n y z lp a b hy hz ha hb) n a b (hws _ (by simp)) (hws _ (by simp))
    · exact zc9 rfl hb (fun n a b ha hb=>zxo n y z lp a b hy hz ha hb) n a b (hws _ (by simp)) (hws _ (by simp))
    · exact zc9 rfl hb (fun n a b ha hb=>zxq n y z lp a b hy hz ha hb) n a b (hws _ (by simp)) (hws _ (by simp))
  | [a,b,c],hl,hws =>
    have hk:op=19:=by
      rcases hc with rfl | rfl | rfl | rfl | rfl | rfl | rfl | rfl | rfl | rfl | rfl | rfl | rfl | rfl | rfl | rfl | rfl | rfl | rfl | rfl | rfl | rfl | rfl | rfl | rfl | rfl<;>first | omega | (simp only[List.length_cons,List.length_nil] at hl;exact absurd hl (by decide))
    rcases hk with rfl
    · exact z0z rfl hb (fun n a b c ha hb hc=>zxp n y z lp a b c hy hz ha hb hc) n a b c (hws _ (by simp)) (hws _ (by simp)) (hws _ (by simp))
  | _::_::_::_::_,hl,_ =>
    exfalso
    simp only[List.length_cons] at hl
    have:arT op≤3:=by
      rcases hc with rfl | rfl | rfl | rfl | rfl | rfl | rfl | rfl | rfl | rfl | rfl | rfl | rfl | rfl | rfl | rfl | rfl | rfl | rfl | rfl | rfl | rfl | rfl | rfl | rfl | rfl<;>decide
    omega
theorem z00{op y z lp:Nat}{ws:List Nat}(hop:op<2 ^ 64)(hy:y<2 ^ 64)(hz:z<2 ^ 64)(hws:∀ a ∈ ws,a<2 ^ 64):zac Tryz.prog 69 [i64 op,i64 y,u64 z,slP lp 1 (ws.map i64)] (wv (wdP op y z ws)):=by
  refine zaF mixed globs fn69 z0e nt69 rs69 zpE za8 [3,32] 4 ((s69 _ _ _ _ _ _).trans ?_)
  have p:=zak.2 (zvZ op)
  have q:=zak.2 (zoA op)
  simp only[i64,bV,mk1] at p q
  rw[p,q]
  simp only[n11,zae,zao,zau]
  rw[zim op,zr7 hop]
  by_cases hk:1≤op∧op≤26
  · rw[decide_eq_true hk]
    show bi (nb (nbeq ws.length (arT op))) _ _=_
    by_cases hl:ws.length=arT op
    · rw[zaa.2 hl,show nb true=false from rfl,zaj]
      exact z3n hk hl hy hz hws 0
    · rw[zam.2 hl,show nb false=true from rfl,zae,zk0 (by omega)]
      rfl
  · rw[decide_eq_false hk,zk0 (by omega)]
    rfl
theorem z01{op y z lp:Nat}{ws:List Nat}(hop:op<2 ^ 64)(hy:y<2 ^ 64)(hz:z<2 ^ 64)(hws:∀ a ∈ ws,a<2 ^ 64):zac Tryz.prog 76 [i64 op,i64 y,u64 z,slP lp 1 (ws.map i64)] (wv (wdP op y z ws)):=by
  refine zaF mixed globs fn76 z0f nt76 rs76 zpE za9 [3,32] 4 ((s76 _ _ _ _ _ _).trans ?_)
  have q:=zak.2 (zoC op)
  simp only[i64] at q
  rw[q]
  simp only[n11,zae,zao,ziz,zau]
  rw[zni hop]
  by_cases hk:1≤op∧op≤26
  · have h3:arT op≤3:=by
      unfold arT
      rw[if_neg (by omega)]
      split<;>first | omega | (split<;>first | omega | (split<;>omega))
    rw[zcm (by omega),show nble 9223372036854775808 (arT op+9223372036854775808)=true from zah.2 (by omega)]
    show bi (nb (nbeq ws.length (arT op))) _ _=_
    by_cases hl:ws.length=arT op
    · rw[zaa.2 hl,show nb true=false from rfl,zaj]
      exact z3o hk hl hy hz hws 0
    · rw[zam.2 hl,show nb false=true from rfl,zae,zk0 (by omega)]
      rfl
  · have h4:arT op=18446744073709551615:=by
      unfold arT
      rw[if_pos (by omega)]
    rw[h4,zk0 (by omega)]
    rfl
end Go.Eng
