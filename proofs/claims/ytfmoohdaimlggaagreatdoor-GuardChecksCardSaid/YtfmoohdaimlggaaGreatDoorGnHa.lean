/- A part of the proof that the evaluator in GnC, and the driver in GnZ, answer as the model does; no conditions. -/
import Derived.Test.YtfmoohdaimlggaaGreatDoorGnTa
import Derived.Test.YtfmoohdaimlggaaGreatDoorProg
import Derived.ProofKit
namespace Go.Eng
open Go.RowKit Go.Proofs
theorem zcz:zhI Tryz.prog:=by
  have h:(Tryz.prog.funcs.all fun fn=>!(fn.name == "runtime.NumGoroutine"))=true:=by kernel_rfl
  intro f fn hf
  have:=Array.all_eq_true_iff_forall_mem.1 h fn (Array.mem_of_getElem? hf)
  simpa using this
theorem mixed:Tryz.prog.follows .mixedOrders=true:=by kernel_rfl
theorem globs:Tryz.prog.globals.size≤32767:=of_decide_eq_true (by kernel_rfl)
noncomputable section
def R0:Rec:=evN Tryz.prog (ntL []) (fun _=>false) 3
def zm6:Lab:=labT [([0,0,1,0,1],[(0,0),(1,0),(7,0),(8,0)])]
def zkd:Lab:=labT [([0,0,1,0,1,1],[(3,2),(6,0),(7,0),(8,0)])]
def zke:Lab:=labT [([0,0,1,0,1,1],[(1,100),(3,2),(4,0)])]
end
theorem zb4:zaU Tryz.prog R0:=zdt mixed zcK zcz 3
end Go.Eng
namespace Go.Eng
open Go.RowKit
theorem nth1(a:AV):nthL [a] 0=a:=rfl
theorem zcZ(t:Tm):(bi (nbeq (tmA t).1 15) (tmA t).6 [tmA t])=[i64 t.op,i64 t.w,u64 t.v,stA t.nq t.np,slP t.p 5 (t.as.map tmA)]:=by
  cases t
  rw[zaP];rfl
theorem zr3(n:Nat):(bi (nbeq (i64 n).1 15) (i64 n).6 [i64 n])=[i64 n]:=rfl
theorem n5_0(a b c d e:AV):nthL [a,b,c,d,e] 0=a:=rfl
theorem n5_1(a b c d e:AV):nthL [a,b,c,d,e] (Nat.succ 0)=b:=rfl
theorem z0T(a b c d e:AV):nthL [a,b,c,d,e] 1=b:=rfl
theorem n5_2(a b c d e:AV):nthL [a,b,c,d,e] (Nat.succ 0).succ=c:=rfl
theorem n5_3(a b c d e:AV):nthL [a,b,c,d,e] (Nat.succ 0).succ.succ=d:=rfl
theorem n5_4(a b c d e:AV):nthL [a,b,c,d,e] (Nat.succ 0).succ.succ.succ=e:=rfl
theorem tg_i(n:Nat):zax 3 (i64 n)=true:=rfl
theorem tg_u(n:Nat):zax 7 (u64 n)=true:=rfl
theorem tg_s(q n:Nat):zax 9 (stA q n)=true:=rfl
theorem tg_l(p:Nat)(l:List AV):zax 37 (slP p 5 l)=true:=rfl
theorem zcQ(n:Nat):(i64 n).2=n:=rfl
theorem zh5(n:Nat):(u64 n).2=n:=rfl
theorem zdI(q n:Nat):(stA q n).2=n:=rfl
theorem zdJ(q n:Nat):(stA q n).3=q:=rfl
theorem zh6(p r:Nat)(l:List AV):(slP p r l).2=p:=rfl
theorem zfM(p r:Nat)(l:List AV):(slP p r l).6=l:=rfl
theorem zaL(n:Nat):(⟨7,n,0,0,0,[]⟩:AV)=u64 n:=rfl
theorem zd6(q n:Nat):(⟨9,n,q,0,0,[]⟩:AV)=stA q n:=rfl
theorem zd7(cs:List AV):(⟨15,0,0,0,0,cs⟩:AV)=aggV cs:=rfl
theorem zgV(c:Bool)(a b:AV):bi c (ansY a) (ansY b)=ansY (bi c a b):=by cases c<;>rfl
theorem zil(c:Bool)(a b:Nat):bi c (i64 a) (i64 b)=i64 (bi c a b):=by cases c<;>rfl
theorem mk_b(p:Nat):(⟨8,p,0,0,0,[]⟩:AV)=mk1 8 p:=rfl
theorem b0(c:Bool){α:Type}(x y:α):bi (nbeq (bi c 1 0) 0) x y=bi c y x:=by cases c<;>rfl
theorem bS(c:Bool){α:Type}(x y:α):bi (nbeq (Nat.sub 1 (bi c 1 0)) 1) x y=bi c y x:=by cases c<;>rfl
theorem zfi{x y:Nat}(h:¬ x≤y):nble x y=false:=by rw[← Bool.not_eq_true,zah];exact h
theorem zbh{x y:Nat}(h:x≤y):nble x y=true:=zah.2 h
theorem zaH(x y:Nat):nbeq x y=decide (x=y):=by rw[Bool.eq_iff_iff,zaa,decide_eq_true_eq]
theorem zbN(x y:Nat):nble x y=decide (x≤y):=by rw[Bool.eq_iff_iff,zah,decide_eq_true_eq]
theorem zm7(c:Bool){α:Type}(x y:α):bi c x y=if c=true then x else y:=by cases c<;>rfl
theorem zej{x:Nat}:biased 3 x=(x+2 ^ 63) % 2 ^ 64:=zbI _ x
theorem zcm{x:Nat}(h:x<2 ^ 63):biased 3 x=x+2 ^ 63:=by rw[zej];omega
theorem zo8(a:Nat)(h:a<2 ^ 64):cnvN 3 7 a=a:=by
  unfold cnvN
  rw[zbI]
  have e:kMod 7=2 ^ 64:=by decide +kernel
  have e3:kMod 3=2 ^ 64:=by decide +kernel
  rw[e,e3]
  cases zbb 3 a
  · rw[zai];exact Nat.mod_eq_of_lt h
  · rw[zag]
    have h1:∀ b m:Nat,Nat.mod (Nat.add a b) m=(a+b) % m:=fun _ _=>rfl
    have h2:Nat.sub (Nat.mul (2 ^ 64) (2 ^ 64)) (2 ^ 64)=2 ^ 64 * (2 ^ 64 - 1):=by decide +kernel
    rw[h2,h1,Nat.add_mul_mod_self_left]
    exact Nat.mod_eq_of_lt h
theorem zvc{α:Type}(X:List α)(f:α→AV)(L:Nat→Nat→Nat→List AV→RL)(fin:Nat→List AV→RL)(hX:X.length≤1000)(hend:∀ k p acc,acc.length≤1000→L (k+1) X.length p acc=fin p acc)
    (hstep:∀ k i p acc (h:i<X.length),acc.length=i→L (k+1) i p acc=L k (i+1) 1 (acc++[f X[i]])):∀ k i p,i+k=X.length→L (k+1) i p ((X.take i).map f)=fin (if k=0 then p else 1) (X.map f):=by
  intro k
  induction k with
  | zero =>
    intro i p hi
    have e:i=X.length:=by omega
    subst e
    rw[List.take_length,hend _ _ _ (by rw[List.length_map];exact hX)];rfl
  | succ k ih =>
    intro i p hi
    have hlt:i<X.length:=by omega
    rw[hstep _ _ _ _ hlt (by rw[List.length_map,List.length_take];omega),ztg f X i hlt,ih (i+1) 1 (by omega)]
    rw[if_neg (show ¬ k+1=0 by omega)]
    split<;>rfl
end Go.Eng
namespace Go.Eng
open Go.RowKit Go.Proofs
theorem s131(J:Jmp)(x:Nat):(zaB Tryz.prog 9 (fun _=>none) (finY Tryz.prog [.tmp 2] [4]) J [] (zad Tryz.f131) (finY Tryz.prog [.tmp 2] [4]) []).run R0 (zar 0 [i64 x] noFr) (zaf Tryz.prog) =
  (bi (nbeq (bi (nble 9223372036854775809 (biased 3 x)) 1 0) 1)
 (ansY ⟨8,bi (nble (biased 3 x) 9223372036854775834) 1 0,0,0,0,[]⟩)
 (ansY ⟨8,0,0,0,0,[]⟩)):=by kernel_rfl
theorem s133(J:Jmp)(x:Nat):(zaB Tryz.prog 9 (fun _=>none) (finY Tryz.prog [.tmp 2] [4]) J [] (zad Tryz.f133) (finY Tryz.prog [.tmp 2] [4]) []).run R0 (zar 0 [i64 x] noFr) (zaf Tryz.prog) =
  (bi (nbeq (bi (nble 9223372036854775808 (biased 3 x)) 1 0) 1)
 (ansY ⟨8,bi (nble (biased 3 x) 9223372036854775872) 1 0,0,0,0,[]⟩)
 (ansY ⟨8,0,0,0,0,[]⟩)):=by kernel_rfl
theorem s144(J:Jmp)(x:Nat):(zaB Tryz.prog 9 (fun _=>none) (finY Tryz.prog [.tmp 2] [4]) J [] (zad Tryz.f144) (finY Tryz.prog [.tmp 2] [4]) []).run R0 (zar 0 [i64 x] noFr) (zaf Tryz.prog) =
  (bi (nbeq (bi (nble 9223372036854775808 (biased 3 x)) 1 0) 1)
 (ansY ⟨8,bi (nble (biased 3 x) 9223372036854775872) 1 0,0,0,0,[]⟩)
 (ansY ⟨8,0,0,0,0,[]⟩)):=by kernel_rfl
theorem s136(J:Jmp)(x:Nat)(b:Bool):(zaB Tryz.prog 9 (fun _=>none) (finY Tryz.prog [.tmp 4,.tmp 5] [3,32]) J [] (zad Tryz.f136) (finY Tryz.prog [.tmp 4,.tmp 5] [3,32]) []).run R0 (zar 0 [bV b,i64 x] noFr) (zaf Tryz.prog) =
  (bi (nbeq (Nat.sub 1 (bi b 1 0)) 1)
 (ansY ⟨16,0,0,0,0,[⟨3,0,0,0,0,[]⟩,⟨3,3,0,0,0,[]⟩]⟩)
 (ansY ⟨16,0,0,0,0,[⟨3,x,0,0,0,[]⟩,⟨3,0,0,0,0,[]⟩]⟩)):=by kernel_rfl
theorem s148(J:Jmp)(x lp:Nat)(ll:List AV):(zaB Tryz.prog 18 zm6 (finY Tryz.prog [.tmp 4] [4]) J [] (zad Tryz.f148) (finY Tryz.prog [.tmp 4] [4]) []).run R0 (zar 0 [i64 x,slP lp 1 ll] noFr) (zaf Tryz.prog) =
  (J [0,0,1,0,1] [⟨3,x,0,0,0,[]⟩,⟨24,lp,0,1,0,ll⟩,⟨3,lenL ll,0,0,0,[]⟩,⟨3,0,0,0,0,[]⟩]):=by kernel_rfl
theorem l148(J:Jmp)(x lp n i:Nat)(ll:List AV):lblY Tryz.prog 18 zm6 (zaf Tryz.prog) R0 (finY Tryz.prog [.tmp 4] [4]) (zad Tryz.f148) J [0,0,1,0,1] [i64 x,slP lp 1 ll,i64 n,i64 i] =
  (bi (nbeq (bi (nb (nble (biased 3 n) (biased 3 i))) 1 0) 1)
 (bi (nble i.succ (lenL ll))
 (bi (bi (zax 3 (nthL (bi (nbeq (nthL [nthL ll i] 0).1 15) (nthL [nthL ll i] 0).6 [nthL [nthL ll i] 0]) 0)) true false)
 (bi (nbeq (bi (nbeq (nthL (bi (nbeq (nthL [nthL ll i] 0).1 15) (nthL [nthL ll i] 0).6 [nthL [nthL ll i] 0]) 0).2 x) 1 0) 1)
 (ansY ⟨8,1,0,0,0,[]⟩)
 (J [0,0,1,0,1] [⟨3,x,0,0,0,[]⟩,⟨24,lp,0,1,0,ll⟩,⟨3,n,0,0,0,[]⟩,⟨3,gt2 (fun a b=>(a.add b).mod (kMod (zap IntKind.i64))) i 1,0,0,0,[]⟩]))
 (zab 201))
 (zab 205))
 (ansY ⟨8,0,0,0,0,[]⟩)):=by kernel_rfl
theorem s132(J:Jmp)(x:Nat):(zaB Tryz.prog 42 (fun _=>none) (finY Tryz.prog [.tmp 2] [3]) J [] (zad Tryz.f132) (finY Tryz.prog [.tmp 2] [3]) []).run R0 (zar 0 [i64 x] noFr) (zaf Tryz.prog) =
  (bi (nbeq (bi (nbeq x 19) 1 0) 1)
 (ansY ⟨3,3,0,0,0,[]⟩)
 (bi (nbeq (bi (nbeq x 5) 1 0) 1)
 (ansY ⟨3,2,0,0,0,[]⟩)
 (bi (nbeq (bi (nbeq x 6) 1 0) 1)
 (ansY ⟨3,2,0,0,0,[]⟩)
 (bi (nbeq (bi (nbeq x 7) 1 0) 1)
 (ansY ⟨3,2,0,0,0,[]⟩)
 (bi (nbeq (bi (nbeq x 8) 1 0) 1)
 (ansY ⟨3,2,0,0,0,[]⟩)
 (bi (nbeq (bi (nbeq x 9) 1 0) 1)
 (ansY ⟨3,2,0,0,0,[]⟩)
 (bi (nbeq (bi (nbeq x 10) 1 0) 1)
 (ansY ⟨3,2,0,0,0,[]⟩)
 (bi (nbeq (bi (nbeq x 11) 1 0) 1)
 (ansY ⟨3,2,0,0,0,[]⟩)
 (bi (nbeq (bi (nbeq x 12) 1 0) 1)
 (ansY ⟨3,2,0,0,0,[]⟩)
 (bi (nbeq (bi (nbeq x 13) 1 0) 1)
 (ansY ⟨3,2,0,0,0,[]⟩)
 (bi (nbeq (bi (nbeq x 14) 1 0) 1)
 (ansY ⟨3,2,0,0,0,[]⟩)
 (bi (nbeq (bi (nbeq x 15) 1 0) 1)
 (ansY ⟨3,2,0,0,0,[]⟩)
 (bi (nbeq (bi (nbeq x 16) 1 0) 1)
 (ansY ⟨3,2,0,0,0,[]⟩)
 (bi (nbeq (bi (nbeq x 17) 1 0) 1)
 (ansY ⟨3,2,0,0,0,[]⟩)
 (bi (nbeq (bi (nbeq x 18) 1 0) 1)
 (ansY ⟨3,2,0,0,0,[]⟩)
 (bi (nbeq (bi (nbeq x 20) 1 0) 1)
 (ansY ⟨3,2,0,0,0,[]⟩)
 (bi (nbeq (bi (nbeq x 3) 1 0) 1)
 (ansY ⟨3,1,0,0,0,[]⟩)
 (bi (nbeq (bi (nbeq x 4) 1 0) 1)
 (ansY ⟨3,1,0,0,0,[]⟩)
 (bi (nbeq (bi (nbeq x 21) 1 0) 1)
 (ansY ⟨3,1,0,0,0,[]⟩)
 (bi (nbeq (bi (nbeq x 22) 1 0) 1)
 (ansY ⟨3,1,0,0,0,[]⟩)
 (bi (nbeq (bi (nbeq x 23) 1 0) 1)
 (ansY ⟨3,1,0,0,0,[]⟩)
 (bi (nbeq (bi (nbeq x 26) 1 0) 1)
 (ansY ⟨3,1,0,0,0,[]⟩)
 (bi (nbeq (bi (nbeq x 1) 1 0) 1)
 (ansY ⟨3,0,0,0,0,[]⟩)
 (bi (nbeq (bi (nbeq x 2) 1 0) 1)
 (ansY ⟨3,0,0,0,0,[]⟩)
 (bi (nbeq (bi (nbeq x 24) 1 0) 1)
 (ansY ⟨3,0,0,0,0,[]⟩)
 (bi (nbeq (bi (nbeq x 25) 1 0) 1)
 (ansY ⟨3,0,0,0,0,[]⟩)
 (ansY ⟨3,18446744073709551615,0,0,0,[]⟩))))))))))))))))))))))))))):=by kernel_rfl
theorem s181(J:Jmp)(lp:Nat)(ll:List AV):(zaB Tryz.prog 19 zkd (finY Tryz.prog [.tmp 2] [43]) J [] (zad Tryz.f181) (finY Tryz.prog [.tmp 2] [43]) []).run R0 (zar 0 [slP lp 5 ll] noFr) (zaf Tryz.prog) =
  (J [0,0,1,0,1,1] [⟨16,0,0,0,0,[]⟩,⟨24,lp,0,5,0,ll⟩,⟨3,lenL ll,0,0,0,[]⟩,⟨3,0,0,0,0,[]⟩]):=by kernel_rfl
theorem l181(J:Jmp)(op lp n i:Nat)(ol ll:List AV):lblY Tryz.prog 19 zkd (zaf Tryz.prog) R0 (finY Tryz.prog [.tmp 2] [43]) (zad Tryz.f181) J [0,0,1,0,1,1] [lsD op ol,slP lp 5 ll,i64 n,i64 i] =
  (bi (nbeq (bi (nb (nble (biased 3 n) (biased 3 i))) 1 0) 1)
 (bi (nble i.succ (lenL ll))
 (bi (bi (zax 3 (nthL (bi (nbeq (nthL [nthL ll i] 0).1 15) (nthL [nthL ll i] 0).6 [nthL [nthL ll i] 0]) 0)) (bi (zax 3 (nthL (bi (nbeq (nthL [nthL ll i] 0).1 15) (nthL [nthL ll i] 0).6 [nthL [nthL ll i] 0]) (Nat.succ 0))) (bi (zax 7 (nthL (bi (nbeq (nthL [nthL ll i] 0).1 15) (nthL [nthL ll i] 0).6 [nthL [nthL ll i] 0]) (Nat.succ 0).succ)) (bi (zax 9 (nthL (bi (nbeq (nthL [nthL ll i] 0).1 15) (nthL [nthL ll i] 0).6 [nthL [nthL ll i] 0]) (Nat.succ 0).succ.succ)) (bi (zax 37 (nthL (bi (nbeq (nthL [nthL ll i] 0).1 15) (nthL [nthL ll i] 0).6 [nthL [nthL ll i] 0]) (Nat.succ 0).succ.succ.succ)) true false) false) false) false) false)
 (bi (nble ((lenL (za4 (lenL ol) ol)).add 1) 100000)
 (J [0,0,1,0,1,1] [⟨16,1,0,0,0,za4 ((lenL (za4 (lenL ol) ol)).add 1) (appL (za4 (lenL ol) ol) [⟨3,(nthL (bi (nbeq (nthL [nthL ll i] 0).1 15) (nthL [nthL ll i] 0).6 [nthL [nthL ll i] 0]) (Nat.succ 0)).2,0,0,0,[]⟩])⟩,⟨24,lp,0,5,0,ll⟩,⟨3,n,0,0,0,[]⟩,⟨3,gt2 (fun a b=>(a.add b).mod (kMod (zap IntKind.i64))) i 1,0,0,0,[]⟩])
 (zab 211))
 (zab 201))
 (zab 205))
 (ansY ⟨24,bi (nbeq op 0) 0 1,0,1,0,za4 (lenL ol) ol⟩)):=by kernel_rfl
theorem s128(J:Jmp)(to tw tv tq tn tp:Nat)(tl:List AV):(zaB Tryz.prog 23 zke (finY Tryz.prog [.tmp 2] [43]) J [] (zad Tryz.f128) (finY Tryz.prog [.tmp 2] [43]) []).run R0 (zar 0 [tmV to tw tv tq tn tp tl] noFr) (zaf Tryz.prog) =
  (J [0,0,1,0,1,1] [⟨16,0,0,1,0,[⟨3,to,0,0,0,[]⟩,⟨3,tw,0,0,0,[]⟩,⟨7,tv,0,0,0,[]⟩,⟨9,tn,tq,0,0,[]⟩,⟨24,tp,0,5,0,tl⟩]⟩,⟨16,2,0,0,0,[]⟩,⟨3,0,0,0,0,[]⟩]):=by kernel_rfl
theorem l128(J:Jmp)(to tw tv tq tn tp op i:Nat)(tl ol:List AV):lblY Tryz.prog 23 zke (zaf Tryz.prog) R0 (finY Tryz.prog [.tmp 2] [43]) (zad Tryz.f128) J [0,0,1,0,1,1] [bxD [i64 to,i64 tw,u64 tv,stA tq tn,slP tp 5 tl],lsD op ol,i64 i] =
  (bi (nbeq (bi (nb (nble (biased 3 (lenL tl)) (biased 3 i))) 1 0) 1)
 (bi (nble i.succ (lenL tl))
 (bi (bi (zax 3 (nthL (bi (nbeq (nthL [nthL [nthL tl i] 0] 0).1 15) (nthL [nthL [nthL tl i] 0] 0).6 [nthL [nthL [nthL tl i] 0] 0]) 1)) true false)
 (bi (nble ((lenL (za4 (lenL ol) ol)).add 1) 100000)
 (J [0,0,1,0,1,1] [⟨16,0,0,1,0,[⟨3,to,0,0,0,[]⟩,⟨3,tw,0,0,0,[]⟩,⟨7,tv,0,0,0,[]⟩,⟨9,tn,tq,0,0,[]⟩,⟨24,tp,0,5,0,tl⟩]⟩,⟨16,1,0,0,0,za4 ((lenL (za4 (lenL ol) ol)).add 1) (appL (za4 (lenL ol) ol) [⟨3,(nthL (bi (nbeq (nthL [nthL [nthL tl i] 0] 0).1 15) (nthL [nthL [nthL tl i] 0] 0).6 [nthL [nthL [nthL tl i] 0] 0]) 1).2,0,0,0,[]⟩])⟩,⟨3,gt2 (fun a b=>(a.add b).mod (kMod (zap IntKind.i64))) i 1,0,0,0,[]⟩])
 (zab 211))
 (zab 201))
 (zab 205))
 (ansY ⟨24,bi (nbeq op 0) 0 1,0,1,0,za4 (lenL ol) ol⟩)):=by kernel_rfl
theorem zvR:Tryz.f131.body=some (zad Tryz.f131):=by kernel_rfl
theorem z0U:Tryz.prog.funcs[131]?=some Tryz.f131:=by kernel_rfl
theorem z0V:Tryz.f131.ntmps=9:=by kernel_rfl
theorem z0W:Tryz.f131.results.toList=[.tmp 2]:=by kernel_rfl
theorem zvS:Tryz.f133.body=some (zad Tryz.f133):=by kernel_rfl
theorem z0X:Tryz.prog.funcs[133]?=some Tryz.f133:=by kernel_rfl
theorem z0Y:Tryz.f133.ntmps=9:=by kernel_rfl
theorem z0Z:Tryz.f133.results.toList=[.tmp 2]:=by kernel_rfl
theorem zvT:Tryz.f144.body=some (zad Tryz.f144):=by kernel_rfl
theorem z1a:Tryz.prog.funcs[144]?=some Tryz.f144:=by kernel_rfl
theorem z1b:Tryz.f144.ntmps=9:=by kernel_rfl
theorem z1c:Tryz.f144.results.toList=[.tmp 2]:=by kernel_rfl
theorem zvU:Tryz.f136.body=some (zad Tryz.f136):=by kernel_rfl
theorem z1d:Tryz.prog.funcs[136]?=some Tryz.f136:=by kernel_rfl
theorem z1e:Tryz.f136.ntmps=9:=by kernel_rfl
theorem z1f:Tryz.f136.results.toList=[.tmp 4,.tmp 5]:=by kernel_rfl
theorem zvV:Tryz.f148.body=some (zad Tryz.f148):=by kernel_rfl
theorem z1g:Tryz.prog.funcs[148]?=some Tryz.f148:=by kernel_rfl
theorem z1h:Tryz.f148.ntmps=18:=by kernel_rfl
theorem z1i:Tryz.f148.results.toList=[.tmp 4]:=by kernel_rfl
theorem zvW:Tryz.f132.body=some (zad Tryz.f132):=by kernel_rfl
theorem z1j:Tryz.prog.funcs[132]?=some Tryz.f132:=by kernel_rfl
theorem z1k:Tryz.f132.ntmps=42:=by kernel_rfl
theorem z1l:Tryz.f132.results.toList=[.tmp 2]:=by kernel_rfl
theorem zvX:Tryz.f181.body=some (zad Tryz.f181):=by kernel_rfl
theorem z1m:Tryz.prog.funcs[181]?=some Tryz.f181:=by kernel_rfl
theorem z1n:Tryz.f181.ntmps=19:=by kernel_rfl
theorem z1o:Tryz.f181.results.toList=[.tmp 2]:=by kernel_rfl
theorem zvY:Tryz.f128.body=some (zad Tryz.f128):=by kernel_rfl
theorem z1p:Tryz.prog.funcs[128]?=some Tryz.f128:=by kernel_rfl
theorem z1q:Tryz.f128.ntmps=23:=by kernel_rfl
theorem z1r:Tryz.f128.results.toList=[.tmp 2]:=by kernel_rfl
noncomputable section
def zey(x:Nat):Nat:=bi (nble (biased 3 (bi (nble (biased 3 x) 9223372036854775809) 1 x)) 9223372036854775872) (bi (nble (biased 3 x) 9223372036854775809) 1 x) 64
def insN(x:Nat):Bool:=bi (nble 9223372036854775808 (biased 3 x)) (nble (biased 3 x) 9223372036854775872) false
def knN(x:Nat):Bool:=bi (nble 9223372036854775809 (biased 3 x)) (nble (biased 3 x) 9223372036854775834) false
def isS(x:Nat)(l:List Nat):Bool:=l.any fun y=>nbeq y x
def arN(x:Nat):Nat:=(bi (nbeq x 19) (3) (bi (nbeq x 5) (2) (bi (nbeq x 6) (2) (bi (nbeq x 7) (2) (bi (nbeq x 8) (2) (bi (nbeq x 9) (2) (bi (nbeq x 10) (2) (bi (nbeq x 11) (2) (bi (nbeq x 12) (2) (bi (nbeq x 13) (2) (bi (nbeq x 14) (2) (bi (nbeq x 15) (2) (bi (nbeq x 16) (2) (bi (nbeq x 17) (2) (bi (nbeq x 18) (2) (bi (nbeq x 20) (2) (bi (nbeq x 3) (1) (bi (nbeq x 4) (1) (bi (nbeq x 21) (1) (bi (nbeq x 22) (1) (bi (nbeq x 23) (1) (bi (nbeq x 26) (1) (bi (nbeq x 1) (0) (bi (nbeq x 2) (0) (bi (nbeq x 24) (0) (bi (nbeq x 25) (0) (18446744073709551615)))))))))))))))))))))))))))
end
theorem zvZ(x:Nat):zac Tryz.prog 131 [i64 x] (bV (knN x)):=by
  refine zaF mixed globs z0U zvR z0V z0W zb4 (fun _=>none) [4] 0 ((s131 _ x).trans ?_)
  unfold knN
  simp only[zao]
  cases nble 9223372036854775809 (biased 3 x)<;>rfl
theorem zeH(x:Nat):zac Tryz.prog 133 [i64 x] (bV (insN x)):=by
  refine zaF mixed globs z0X zvS z0Y z0Z zb4 (fun _=>none) [4] 0 ((s133 _ x).trans ?_)
  unfold insN
  simp only[zao]
  cases nble 9223372036854775808 (biased 3 x)<;>rfl
theorem zek(x:Nat):zac Tryz.prog 144 [i64 x] (bV (insN x)):=by
  refine zaF mixed globs z1a zvT z1b z1c zb4 (fun _=>none) [4] 0 ((s144 _ x).trans ?_)
  unfold insN
  simp only[zao]
  cases nble 9223372036854775808 (biased 3 x)<;>rfl
theorem zbF(b:Bool)(x:Nat):zac Tryz.prog 136 [bV b,i64 x] (tupV [i64 (bi b x 0),i64 (bi b 0 3)]):=by
  refine zaF mixed globs z1d zvU z1e z1f zb4 (fun _=>none) [3,32] 0 ((s136 _ x b).trans ?_)
  cases b<;>rfl
theorem zwa{x y:Nat}(hy:y<64)(hx:x<2 ^ 64):shrN 7 x y=x / 2 ^ y:=by
  unfold shrN
  rw[zbD]
  have e1:zbb 7 x=false:=by
    unfold zbb
    have e:zbj 7=2 ^ 64:=by decide +kernel
    rw[e];exact zfi (by omega)
  have e2:zcM 7=64:=by decide +kernel
  rw[e1,zai,e2,zfi (by omega),zai]
  exact Nat.shiftRight_eq_div_pow x y
theorem zwb(x lp:Nat)(X:List Nat)(hX:X.length<2 ^ 63):∀ k i,i+k=X.length→jmpN Tryz.prog 18 zm6 (zaf Tryz.prog) R0 (finY Tryz.prog [.tmp 4] [4]) (zad Tryz.f148) (k+1) [0,0,1,0,1] [i64 x,slP lp 1 (X.map i64),i64 (lenL (X.map i64)),i64 i]=ansY (bV (isS x (X.drop i))):=by
  intro k
  induction k with
  | zero =>
    intro i hi
    have e:i=X.length:=by omega
    subst e
    rw[zal,l148]
    simp only[zao,zau,zbC hX hX,Nat.le_refl,decide_true,nb_t,zaj,List.drop_length]
    rfl
  | succ k ih =>
    intro i hi
    have hlt:i<X.length:=by omega
    have hi63:i<2 ^ 63:=by omega
    have e1:X.drop i=X[i]::X.drop (i+1):=List.drop_eq_getElem_cons hlt
    rw[zal,l148]
    simp only[zao,n11,n01,zau,zbC hX hi63,show ¬ X.length≤i by omega,decide_false,nb_f,zae,zbh (show i.succ≤X.length from hlt),zca i64 X i hlt,nth1,zr3,tg_i,zcQ,zeO hi63,zbe,zaE]
    rw[e1]
    unfold isS
    rw[List.any_cons]
    cases h:nbeq X[i] x
    · rw[zaj,Bool.false_or]
      have:=ih (i+1) (by omega)
      rw[zau] at this
      exact this
    · rw[zae];rfl
theorem zo9(x lp:Nat)(X:List Nat)(hX:X.length<2 ^ 63):zac Tryz.prog 148 [i64 x,slP lp 1 (X.map i64)] (bV (isS x X)) :=
  zaF mixed globs z1g zvV z1h z1i zb4 zm6 [4] (X.length+1) ((s148 _ _ _ _).trans (zwb x lp X hX X.length 0 (by omega)))
theorem zoA(x:Nat):zac Tryz.prog 132 [i64 x] (i64 (arN x)):=by
  refine zaF mixed globs z1j zvW z1k z1l zb4 (fun _=>none) [3] 0 ((s132 _ x).trans ?_)
  unfold arN
  simp only[zao,zaE,zgV,zil]
theorem zwc(lp:Nat)(X:List Tm)(hX:X.length≤1000):zac Tryz.prog 181 [slP lp 5 (X.map tmA)] (slP (if X.length=0 then 0 else 1) 1 (X.map fun t=>i64 t.w)):=by
  have h:=zvc X (fun t=>i64 t.w) (fun k i p acc=>jmpN Tryz.prog 19 zkd (zaf Tryz.prog) R0 (finY Tryz.prog [.tmp 2] [43]) (zad Tryz.f181) k [0,0,1,0,1,1] [lsD p acc,slP lp 5 (X.map tmA),i64 (lenL (X.map tmA)),i64 i]) (fun p acc=>ansY (slP (bi (nbeq p 0) 0 1) 1 acc)) hX ?_ ?_ X.length 0 0 (by omega)
  · simp only[List.take_zero,List.map_nil] at h
    have h2:=h.trans (show _=ansY (slP (if X.length=0 then 0 else 1) 1 (X.map fun t=>i64 t.w)) by split<;>rfl)
    exact zaF mixed globs z1m zvX z1n z1o zb4 zkd [43] (X.length+1) ((s181 _ _ _).trans h2)
  · intro k p acc ha
    have hx:X.length<2 ^ 63:=by omega
    show jmpN _ _ _ _ _ _ _ (k+1) _ _=_
    rw[zal,l181]
    simp only[zao,n11,n01,zau,zbC hx hx,Nat.le_refl,decide_true,nb_t,zaj,ze6,zbe]
  · intro k i p acc hlt ha
    have hx:X.length<2 ^ 63:=by omega
    have hi63:i<2 ^ 63:=by omega
    show jmpN _ _ _ _ _ _ _ (k+1) _ _=_
    rw[zal,l181]
    simp only[zao,n11,n01,zau,zbC hx hi63,show ¬ X.length≤i by omega,decide_false,nb_f,zae,zbh (show i.succ≤X.length from hlt),zca tmA X i hlt,nth1,zcZ,n5_0,n5_1,n5_2,n5_3,n5_4,tg_i,tg_u,tg_s,tg_l,zcQ,zeO hi63,zbe,zaE,zf1,ze6,zkG]
    rw[zaz,ha,znM (by omega),zae]
theorem zwd(t:Tm)(hX:t.as.length≤1000):zac Tryz.prog 128 [tmA t] (slP 1 1 (t.as.map fun t=>i64 t.w)):=by
  obtain⟨op,w,v,nq,np,p0,X⟩:=t
  have hX:X.length≤1000:=hX
  have h:=zvc X (fun t=>i64 t.w) (fun k i p acc=>jmpN Tryz.prog 23 zke (zaf Tryz.prog) R0 (finY Tryz.prog [.tmp 2] [43]) (zad Tryz.f128) k [0,0,1,0,1,1] [bxD [i64 op,i64 w,u64 v,stA nq np,slP p0 5 (X.map tmA)],lsD p acc,i64 i]) (fun p acc=>ansY (slP (bi (nbeq p 0) 0 1) 1 acc)) hX ?_ ?_ X.length 0 2 (by omega)
  · simp only[List.take_zero,List.map_nil] at h
    rw[zaP]
    have h2:=h.trans (show _=ansY (slP 1 1 (X.map fun t=>i64 t.w)) by split<;>rfl)
    exact zaF mixed globs z1p zvY z1q z1r zb4 zke [43] (X.length+1) ((s128 _ op w v nq np p0 _).trans h2)
  · intro k p acc ha
    have hx:X.length<2 ^ 63:=by omega
    show jmpN _ _ _ _ _ _ _ (k+1) _ _=_
    rw[zal,l128]
    simp only[zao,n11,n01,zau,zbC hx hx,Nat.le_refl,decide_true,nb_t,zaj,ze6,zbe]
  · intro k i p acc hlt ha
    have hx:X.length<2 ^ 63:=by omega
    have hi63:i<2 ^ 63:=by omega
    show jmpN _ _ _ _ _ _ _ (k+1) _ _=_
    rw[zal,l128]
    simp only[zao,n11,n01,zau,zbC hx hi63,show ¬ X.length≤i by omega,decide_false,nb_f,zae,zbh (show i.succ≤X.length from hlt),zca tmA X i hlt,nth1,zcZ,z0T,tg_i,zcQ,zeO hi63,zbe,zaE,zaL,zd6,zd1,zf1,ze6,zkG]
    rw[zaz,ha,znM (by omega),zae]
end Go.Eng
namespace Go.Eng
open Go.RowKit Go.Proofs
noncomputable section
def bitN(x y:Nat):Nat:=gt2 (fun x y=>x / 2 ^ y % 2) x y
def isA(x:Nat)(l:List AV):Bool:=l.any fun a=>nbeq a.p x
def NtB:Nat→Option Native:=ntL [(130,natP Tryz.prog 130 [3] fun l=>i64 (zey (nthL l 0).p)),(131,natP Tryz.prog 131 [22] fun l=>bV (knN (nthL l 0).p)),(133,natP Tryz.prog 133 [3] fun l=>bV (insN (nthL l 0).p)),
  (144,natP Tryz.prog 144 [3] fun l=>bV (insN (nthL l 0).p)),(136,natP Tryz.prog 136 [4, 3] fun l=>tupV [i64 (bi (nbeq (nthL l 0).p 1) (nthL l 1).p 0),i64 (bi (nbeq (nthL l 0).p 1) 0 3)]),(74,natP Tryz.prog 74 [3] fun l=>i64 (zey (nthL l 0).p)),
  (75,natP Tryz.prog 75 [23, 3] fun l=>u64 (bitN (nthL l 0).p (nthL l 1).p)),(148,natP Tryz.prog 148 [22,195] fun l=>bV (isA (nthL l 0).p (nthL l 1).cs)),(132,natP Tryz.prog 132 [22] fun l=>i64 (arN (nthL l 0).p))]
def RB:Rec:=evN Tryz.prog NtB (fun _=>false) 2
def za8:Lab:=labT [([0,0,1,0,1,1],[(0,0),(1,0),(2,0),(3,0),(22,0),(23,0),(24,0)])]
def za9:Lab:=labT [([0,0,1,0,1,1],[(0,0),(1,0),(2,0),(3,0),(22,0),(23,0)])]
def zm8:Lab:=labT [([0,0,1,0,1,1,1],[(1,0),(2,0),(3,100),(7,0)])]
def zkf:Lab:=labT [([0,0,1,0,1,1],[(0,0),(1,0),(5,0)])]
def zcE(l:List AV):List Tm:=l.map unTm
def cntN(t:Tm)(d n:Nat):Nat:=match cnt t d n with | none=>18446744073709551615 | some k=>k
def NtC:Nat→Option Native:=ntL [(37,natP Tryz.prog 37 [26, 3, 3] fun l=>i64 (cntN (unTm (nthL l 0)) (nthL l 1).p (nthL l 2).p)),(123,natP Tryz.prog 123 [26, 26] fun l=>bV (eqT (unTm (nthL l 0)) (unTm (nthL l 1)))),
  (187,natP Tryz.prog 187 [24, 24] fun l=>bV (eqTs (zcE (nthL l 0).cs) (zcE (nthL l 1).cs))),(23,natP Tryz.prog 23 [26] fun l=>tmE (cpT (unTm (nthL l 0))))]
def RC:Rec:=evN Tryz.prog NtC (fun _=>false) 2
end
theorem zkg:zaU Tryz.prog RB:=zdt mixed (zat (zat (zat (zat (zat (zat (zat (zat (zat zcK))))))))) zcz 2
theorem zpD:zaU Tryz.prog RC:=zdt mixed (zat (zat (zat (zat zcK)))) zcz 2
end Go.Eng
namespace Go.Eng
open Go.RowKit Go.Proofs
theorem s145(J:Jmp)(x:Nat):(zaB Tryz.prog 6 (fun _=>none) (finY Tryz.prog [.tmp 2] [4]) J [] (zad Tryz.f145) (finY Tryz.prog [.tmp 2] [4]) []).run RB (zar 0 [i64 x] noFr) (zaf Tryz.prog) =
  (bi (nbeq (okN (zac Tryz.prog 148 [⟨3,x,0,0,0,[]⟩,⟨24,1,0,1,0,[⟨3,1,0,0,0,[]⟩,⟨3,2,0,0,0,[]⟩,⟨3,24,0,0,0,[]⟩,⟨3,25,0,0,0,[]⟩]⟩] ⟨8,bi (isA x [⟨3,1,0,0,0,[]⟩,⟨3,2,0,0,0,[]⟩,⟨3,24,0,0,0,[]⟩,⟨3,25,0,0,0,[]⟩]) 1 0,0,0,0,[]⟩)) 1)
 (ansY ⟨8,bi (isA x [⟨3,1,0,0,0,[]⟩,⟨3,2,0,0,0,[]⟩,⟨3,24,0,0,0,[]⟩,⟨3,25,0,0,0,[]⟩]) 1 0,0,0,0,[]⟩)
 (zab 301)):=by kernel_rfl
theorem s134(J:Jmp)(x y z:Nat):(zaB Tryz.prog 26 (fun _=>none) (finY Tryz.prog [.tmp 6,.tmp 7] [3,32]) J [] (zad Tryz.f134) (finY Tryz.prog [.tmp 6,.tmp 7] [3,32]) []).run RB (zar 0 [i64 x,i64 y,u64 z] noFr) (zaf Tryz.prog) =
  (bi (nbeq (okN (zac Tryz.prog 133 [⟨3,y,0,0,0,[]⟩] ⟨8,bi (insN y) 1 0,0,0,0,[]⟩)) 1)
 (bi (nbeq (Nat.sub 1 (bi (insN y) 1 0)) 0)
 (bi (nbeq (bi (nbeq x 2) 1 0) 1)
 (bi (nbeq (bi (nb (nble (biased 3 y) 9223372036854775808)) 1 0) 1)
 (bi (nble 9223372036854775808 y)
 (zab 9)
 (bi (nbeq (bi (nb (nbeq (shrN 7 z y) 0)) 1 0) 1)
 (ansY ⟨16,0,0,0,0,[⟨3,0,0,0,0,[]⟩,⟨3,3,0,0,0,[]⟩]⟩)
 (ansY ⟨16,0,0,0,0,[⟨3,y,0,0,0,[]⟩,⟨3,0,0,0,0,[]⟩]⟩)))
 (ansY ⟨16,0,0,0,0,[⟨3,y,0,0,0,[]⟩,⟨3,0,0,0,0,[]⟩]⟩))
 (ansY ⟨16,0,0,0,0,[⟨3,y,0,0,0,[]⟩,⟨3,0,0,0,0,[]⟩]⟩))
 (ansY ⟨16,0,0,0,0,[⟨3,0,0,0,0,[]⟩,⟨3,3,0,0,0,[]⟩]⟩))
 (zab 301)):=by kernel_rfl
theorem s135(J:Jmp)(x y z o:Nat):(zaB Tryz.prog 45 (fun _=>none) (finY Tryz.prog [.tmp 8,.tmp 9] [3,32]) J [] (zad Tryz.f135) (finY Tryz.prog [.tmp 8,.tmp 9] [3,32]) []).run RB (zar 0 [i64 x,i64 y,u64 z,i64 o] noFr) (zaf Tryz.prog) =
  (bi (nbeq (bi (nb (nble 9223372036854775809 (biased 3 y))) 1 0) 0)
 (bi (nbeq (bi (nb (nble (biased 3 y) 9223372036854775872)) 1 0) 0)
 (bi (nbeq (bi (nb (nble 9223372036854775809 (biased 3 o))) 1 0) 1)
 (ansY ⟨16,0,0,0,0,[⟨3,0,0,0,0,[]⟩,⟨3,3,0,0,0,[]⟩]⟩)
 (bi (nbeq (bi (nb (nbeq x 21)) 1 0) 1)
 (bi (nbeq (bi (nb (nble (biased 3 o) (biased 3 y))) 1 0) 0)
 (bi (nbeq (bi (nbeq x 21) 1 0) 1)
 (bi (nbeq (bi (nb (nble (biased 3 y) (biased 3 o))) 1 0) 0)
 (bi (nbeq (bi (nb (nble (biased 7 z) (biased 7 (cnvN 3 7 (gt2 (fun a b=>((a.add (kMod (zap IntKind.i64))).sub b).mod (kMod (zap IntKind.i64))) o y))))) 1 0) 1)
 (ansY ⟨16,0,0,0,0,[⟨3,0,0,0,0,[]⟩,⟨3,3,0,0,0,[]⟩]⟩)
 (ansY ⟨16,0,0,0,0,[⟨3,y,0,0,0,[]⟩,⟨3,0,0,0,0,[]⟩]⟩))
 (ansY ⟨16,0,0,0,0,[⟨3,0,0,0,0,[]⟩,⟨3,3,0,0,0,[]⟩]⟩))
 (ansY ⟨16,0,0,0,0,[⟨3,y,0,0,0,[]⟩,⟨3,0,0,0,0,[]⟩]⟩))
 (ansY ⟨16,0,0,0,0,[⟨3,0,0,0,0,[]⟩,⟨3,3,0,0,0,[]⟩]⟩))
 (bi (nbeq (bi (nbeq x 21) 1 0) 1)
 (bi (nbeq (bi (nb (nble (biased 3 y) (biased 3 o))) 1 0) 0)
 (bi (nbeq (bi (nb (nble (biased 7 z) (biased 7 (cnvN 3 7 (gt2 (fun a b=>((a.add (kMod (zap IntKind.i64))).sub b).mod (kMod (zap IntKind.i64))) o y))))) 1 0) 1)
 (ansY ⟨16,0,0,0,0,[⟨3,0,0,0,0,[]⟩,⟨3,3,0,0,0,[]⟩]⟩)
 (ansY ⟨16,0,0,0,0,[⟨3,y,0,0,0,[]⟩,⟨3,0,0,0,0,[]⟩]⟩))
 (ansY ⟨16,0,0,0,0,[⟨3,0,0,0,0,[]⟩,⟨3,3,0,0,0,[]⟩]⟩))
 (ansY ⟨16,0,0,0,0,[⟨3,y,0,0,0,[]⟩,⟨3,0,0,0,0,[]⟩]⟩))))
 (ansY ⟨16,0,0,0,0,[⟨3,0,0,0,0,[]⟩,⟨3,3,0,0,0,[]⟩]⟩))
 (ansY ⟨16,0,0,0,0,[⟨3,0,0,0,0,[]⟩,⟨3,3,0,0,0,[]⟩]⟩)):=by kernel_rfl
theorem s146(J:Jmp)(x y z:Nat):(zaB Tryz.prog 31 (fun _=>none) (finY Tryz.prog [.tmp 6,.tmp 7] [3,32]) J [] (zad Tryz.f146) (finY Tryz.prog [.tmp 6,.tmp 7] [3,32]) []).run RB (zar 0 [i64 x,i64 y,u64 z] noFr) (zaf Tryz.prog) =
  (bi (nbeq (okN (zac Tryz.prog 144 [⟨3,y,0,0,0,[]⟩] ⟨8,bi (insN y) 1 0,0,0,0,[]⟩)) 1)
 (bi (nbeq (Nat.sub 1 (bi (insN y) 1 0)) 0)
 (bi (nbeq (bi (nbeq x 2) 1 0) 1)
 (bi (nbeq (bi (nb (nble (biased 3 y) 9223372036854775808)) 1 0) 1)
 (bi (nbeq (bi (nb (nble 9223372036854775872 (biased 3 y))) 1 0) 1)
 (bi (nble 18446744073709551616 (cnvN 3 7 y))
 (zab 9)
 (bi (nbeq (bi (nble (biased 7 (shlN 7 1 (cnvN 3 7 y))) (biased 7 z)) 1 0) 1)
 (ansY ⟨16,0,0,0,0,[⟨3,0,0,0,0,[]⟩,⟨3,3,0,0,0,[]⟩]⟩)
 (ansY ⟨16,0,0,0,0,[⟨3,y,0,0,0,[]⟩,⟨3,0,0,0,0,[]⟩]⟩)))
 (ansY ⟨16,0,0,0,0,[⟨3,y,0,0,0,[]⟩,⟨3,0,0,0,0,[]⟩]⟩))
 (ansY ⟨16,0,0,0,0,[⟨3,y,0,0,0,[]⟩,⟨3,0,0,0,0,[]⟩]⟩))
 (ansY ⟨16,0,0,0,0,[⟨3,y,0,0,0,[]⟩,⟨3,0,0,0,0,[]⟩]⟩))
 (ansY ⟨16,0,0,0,0,[⟨3,0,0,0,0,[]⟩,⟨3,3,0,0,0,[]⟩]⟩))
 (zab 301)):=by kernel_rfl
theorem s147(J:Jmp)(x y z o:Nat):(zaB Tryz.prog 46 (fun _=>none) (finY Tryz.prog [.tmp 8,.tmp 9] [3,32]) J [] (zad Tryz.f147) (finY Tryz.prog [.tmp 8,.tmp 9] [3,32]) []).run RB (zar 0 [i64 x,i64 y,u64 z,i64 o] noFr) (zaf Tryz.prog) =
  (bi (nbeq (okN (zac Tryz.prog 144 [⟨3,y,0,0,0,[]⟩] ⟨8,bi (insN y) 1 0,0,0,0,[]⟩)) 1)
 (bi (nbeq (Nat.sub 1 (bi (insN y) 1 0)) 0)
 (bi (nbeq (bi (nb (nble 9223372036854775809 (biased 3 y))) 1 0) 0)
 (bi (nbeq (bi (nb (nble 9223372036854775809 (biased 3 o))) 1 0) 1)
 (ansY ⟨16,0,0,0,0,[⟨3,0,0,0,0,[]⟩,⟨3,3,0,0,0,[]⟩]⟩)
 (bi (nbeq (bi (nbeq x 21) 1 0) 1)
 (bi (nbeq (bi (nb (nble (biased 3 y) (biased 3 o))) 1 0) 0)
 (bi (nbeq (bi (nb (nble (biased 7 z) (biased 7 (cnvN 3 7 (gt2 (fun a b=>((a.add (kMod (zap IntKind.i64))).sub b).mod (kMod (zap IntKind.i64))) o y))))) 1 0) 0)
 (bi (nbeq (bi (nb (nbeq x 21)) 1 0) 1)
 (bi (nbeq (bi (nb (nble (biased 3 o) (biased 3 y))) 1 0) 1)
 (ansY ⟨16,0,0,0,0,[⟨3,0,0,0,0,[]⟩,⟨3,3,0,0,0,[]⟩]⟩)
 (ansY ⟨16,0,0,0,0,[⟨3,y,0,0,0,[]⟩,⟨3,0,0,0,0,[]⟩]⟩))
 (ansY ⟨16,0,0,0,0,[⟨3,y,0,0,0,[]⟩,⟨3,0,0,0,0,[]⟩]⟩))
 (ansY ⟨16,0,0,0,0,[⟨3,0,0,0,0,[]⟩,⟨3,3,0,0,0,[]⟩]⟩))
 (ansY ⟨16,0,0,0,0,[⟨3,0,0,0,0,[]⟩,⟨3,3,0,0,0,[]⟩]⟩))
 (bi (nbeq (bi (nb (nbeq x 21)) 1 0) 1)
 (bi (nbeq (bi (nb (nble (biased 3 o) (biased 3 y))) 1 0) 1)
 (ansY ⟨16,0,0,0,0,[⟨3,0,0,0,0,[]⟩,⟨3,3,0,0,0,[]⟩]⟩)
 (ansY ⟨16,0,0,0,0,[⟨3,y,0,0,0,[]⟩,⟨3,0,0,0,0,[]⟩]⟩))
 (ansY ⟨16,0,0,0,0,[⟨3,y,0,0,0,[]⟩,⟨3,0,0,0,0,[]⟩]⟩))))
 (ansY ⟨16,0,0,0,0,[⟨3,0,0,0,0,[]⟩,⟨3,3,0,0,0,[]⟩]⟩))
 (ansY ⟨16,0,0,0,0,[⟨3,0,0,0,0,[]⟩,⟨3,3,0,0,0,[]⟩]⟩))
 (zab 301)):=by kernel_rfl
theorem zwe:Tryz.f145.body=some (zad Tryz.f145):=by kernel_rfl
theorem z1s:Tryz.prog.funcs[145]?=some Tryz.f145:=by kernel_rfl
theorem z1t:Tryz.f145.ntmps=6:=by kernel_rfl
theorem z1u:Tryz.f145.results.toList=[.tmp 2]:=by kernel_rfl
theorem zwf:Tryz.f134.body=some (zad Tryz.f134):=by kernel_rfl
theorem z1v:Tryz.prog.funcs[134]?=some Tryz.f134:=by kernel_rfl
theorem z1w:Tryz.f134.ntmps=26:=by kernel_rfl
theorem z1x:Tryz.f134.results.toList=[.tmp 6,.tmp 7]:=by kernel_rfl
theorem zwg:Tryz.f135.body=some (zad Tryz.f135):=by kernel_rfl
theorem z1y:Tryz.prog.funcs[135]?=some Tryz.f135:=by kernel_rfl
theorem z1z:Tryz.f135.ntmps=45:=by kernel_rfl
theorem z10:Tryz.f135.results.toList=[.tmp 8,.tmp 9]:=by kernel_rfl
theorem zwh:Tryz.f146.body=some (zad Tryz.f146):=by kernel_rfl
theorem z11:Tryz.prog.funcs[146]?=some Tryz.f146:=by kernel_rfl
theorem z12:Tryz.f146.ntmps=31:=by kernel_rfl
theorem z13:Tryz.f146.results.toList=[.tmp 6,.tmp 7]:=by kernel_rfl
theorem zwi:Tryz.f147.body=some (zad Tryz.f147):=by kernel_rfl
theorem z14:Tryz.prog.funcs[147]?=some Tryz.f147:=by kernel_rfl
theorem z15:Tryz.f147.ntmps=46:=by kernel_rfl
theorem z16:Tryz.f147.results.toList=[.tmp 8,.tmp 9]:=by kernel_rfl
noncomputable section
def zeb(x:Nat):Nat:=2 ^ zey x - 1
def cutN(w x:Nat):Nat:=x % 2 ^ zey w
def za3(x:Nat):Bool:=isS x [1,2,24,25]
def lfP(x y z:Nat):Bool:=bi (insN y) (bi (nbeq x 2) (bi (nbeq y 0) true (nbeq (z / 2 ^ y) 0)) true) false
def rsP(x y z o:Nat):Bool:=bi (nble 9223372036854775809 (biased 3 y)) (bi (nble (biased 3 y) 9223372036854775872) (bi (nble 9223372036854775809 (biased 3 o)) (bi (nbeq x 21) (bi (nble (biased 3 y) (biased 3 o)) (nble z (o - y)) false) (nble (biased 3 o) (biased 3 y))) false) false) false
end
theorem subN{o y:Nat}(h:y≤o)(ho:o<2 ^ 64):gt2 (fun a b=>((a.add (kMod (zap IntKind.i64))).sub b).mod (kMod (zap IntKind.i64))) o y=o - y:=by
  rw[zbD]
  have e:kMod (zap IntKind.i64)=2 ^ 64:=by decide +kernel
  rw[e]
  have h1:∀ a b m:Nat,Nat.mod (Nat.sub (Nat.add o a) b) m=(o+a - b) % m:=fun _ _ _=>rfl
  rw[h1]
  omega
noncomputable section
end
theorem zbo(x:Nat):zac Tryz.prog 145 [i64 x] (bV (za3 x)):=by
  refine zaF mixed globs z1s zwe z1t z1u zkg (fun _=>none) [4] 0 ((s145 _ x).trans ?_)
  exact z0H (zo9 x 1 [1,2,24,25] (by decide)) _ _
theorem zbq{y:Nat}(hy:y<2 ^ 64):insN y=decide (y≤64):=by
  unfold insN
  rw[zbN,zbN,zej,Bool.eq_iff_iff,zaw,decide_eq_true_eq,decide_eq_true_eq,decide_eq_true_eq]
  omega
theorem z17{z y:Nat}(hy:y≤64)(hz:z<2 ^ 64):shrN 7 z y=z / 2 ^ y:=by
  by_cases h:y=64
  · subst h
    unfold shrN
    rw[zbD]
    have e1:zbb 7 z=false:=by
      unfold zbb
      have e:zbj 7=2 ^ 64:=by decide +kernel
      rw[e];exact zfi (by omega)
    have e2:nble (zcM 7) 64=true:=by decide +kernel
    rw[e1,zai,e2,zag]
    exact (Nat.div_eq_of_lt hz).symm
  · exact zwa (by omega) hz
theorem zr4{y:Nat}(hy:y≤64):nble (biased 3 y) 9223372036854775808=nbeq y 0:=by
  rw[zbN,zaH,zej,decide_eq_decide]
  omega
theorem zja(x y z:Nat)(hy:y<2 ^ 64)(hz:z<2 ^ 64):zac Tryz.prog 134 [i64 x,i64 y,u64 z] (tupV [i64 (bi (lfP x y z) y 0),i64 (bi (lfP x y z) 0 3)]):=by
  refine zaF mixed globs z1v zwf z1w z1x zkg (fun _=>none) [3,32] 0 ((s134 _ x y z).trans ?_)
  have p:=zak.2 (zeH y)
  simp only[i64,bV,mk1] at p
  rw[p]
  unfold lfP
  have hb0:∀ (c:Bool) (α:Type) (a b:α),bi (nbeq (Nat.sub 1 (bi c 1 0)) 0) a b=bi c a b:=fun c α a b=>by cases c<;>rfl
  simp only[n11,zae,hb0,zao]
  cases hi:insN y
  · rfl
  · rw[zbq hy,decide_eq_true_eq] at hi
    rw[zr4 hi,z17 hi hz,zfi (show ¬ 9223372036854775808≤y by omega)]
    cases nbeq x 2<;>cases nbeq y 0<;>cases nbeq (z / 2 ^ y) 0<;>rfl
theorem zwj{b i:Nat}(hb:b<2)(hi:i<64):shlN 7 b i=2 ^ i * b:=by
  unfold shlN
  rw[zbD]
  have e2:zcM 7=64:=by decide +kernel
  have e:kMod 7=2 ^ 64:=by decide +kernel
  rw[e2,zfi (by omega),zai,e]
  have h1:Nat.shiftLeft b i=b * 2 ^ i:=Nat.shiftLeft_eq b i
  rw[h1]
  have h2:b * 2 ^ i<2 ^ 64:=by
    have:2 ^ i≤2 ^ 63:=Nat.pow_le_pow_right (by omega) (by omega)
    have:b * 2 ^ i≤1 * 2 ^ 63:=Nat.mul_le_mul (by omega) this
    omega
  show b * 2 ^ i % 2 ^ 64=_
  rw[Nat.mod_eq_of_lt h2,Nat.mul_comm]
theorem zjb(x y z:Nat)(hy:y<2 ^ 64)(hz:z<2 ^ 64):zac Tryz.prog 146 [i64 x,i64 y,u64 z] (tupV [i64 (bi (lfP x y z) y 0),i64 (bi (lfP x y z) 0 3)]):=by
  refine zaF mixed globs z11 zwh z12 z13 zkg (fun _=>none) [3,32] 0 ((s146 _ x y z).trans ?_)
  have p:=zak.2 (zek y)
  simp only[i64,bV,mk1] at p
  rw[p]
  unfold lfP
  have hb0:∀ (c:Bool) (α:Type) (a b:α),bi (nbeq (Nat.sub 1 (bi c 1 0)) 0) a b=bi c a b:=fun c α a b=>by cases c<;>rfl
  simp only[n11,zae,hb0,zao]
  cases hi:insN y
  · rfl
  · rw[zbq hy,decide_eq_true_eq] at hi
    have e64:nble 9223372036854775872 (biased 3 y)=nbeq y 64:=by
      rw[zbN,zaH,zej,decide_eq_decide];omega
    rw[zr4 hi,e64,zo8 y hy,zfi (show ¬ 18446744073709551616≤y by omega)]
    by_cases h64:y=64
    · subst h64
      have ez:z / 2 ^ 64=0:=Nat.div_eq_of_lt hz
      rw[ez]
      cases nbeq x 2<;>rfl
    · have es:shlN 7 1 y=2 ^ y:=by rw[zwj (by omega) (by omega),Nat.mul_one]
      have e7:∀ x,x<2 ^ 64→biased 7 x=x:=by
        intro x hx
        have u:biased 7 x=(x+2 ^ 64) % 2 ^ 64:=zbI _ x
        rw[u];omega
      have h2:2 ^ y<2 ^ 64:=Nat.pow_lt_pow_right (by omega) (by omega)
      have ed:nble (2 ^ y) z=nb (nbeq (z / 2 ^ y) 0):=by
        rw[zbN,zaH]
        by_cases h:2 ^ y≤z
        · have:z / 2 ^ y ≠ 0:=by
            have:=Nat.div_pos h (Nat.two_pow_pos y);omega
          rw[decide_eq_true h,decide_eq_false this];rfl
        · rw[decide_eq_false h,Nat.div_eq_of_lt (by omega)];rfl
      rw[es,e7 _ h2,e7 _ hz,ed,zam.2 h64]
      cases nbeq x 2<;>cases nbeq y 0<;>cases nbeq (z / 2 ^ y) 0<;>rfl
theorem ins1{y:Nat}(h:insN y=false):bi (nble 9223372036854775809 (biased 3 y)) (nble (biased 3 y) 9223372036854775872) false=false:=by
  unfold insN at h
  rw[← Bool.not_eq_true,zaw,zah,zah] at h ⊢
  omega
theorem ins2{y:Nat}(h:insN y=true):nble (biased 3 y) 9223372036854775872=true:=by
  unfold insN at h
  exact (zaw.1 h).2
theorem zr5{y o z:Nat}(h1:nble 9223372036854775809 (biased 3 y)=true)(h2:nble (biased 3 y) (biased 3 o)=true)(hy:y<2 ^ 64)(ho:o<2 ^ 64)(hz:z<2 ^ 64):nble (biased 7 z) (biased 7 (cnvN 3 7 (gt2 (fun a b=>((a.add (kMod (zap IntKind.i64))).sub b).mod (kMod (zap IntKind.i64))) o y)))=nble z (o - y):=by
  have h1:=zah.1 h1
  have h2:=zah.1 h2
  rw[zej] at h1 h2
  rw[zej] at h2
  have hyo:y≤o:=by omega
  rw[subN hyo ho,zo8 _ (by omega)]
  have b7:∀ x,x<2 ^ 64→biased 7 x=x:=by
    intro x hx
    have u:biased 7 x=(x+2 ^ 64) % 2 ^ 64:=zbI _ x
    rw[u];omega
  rw[b7 _ hz,b7 _ (by omega)]
theorem zlc(x y z o:Nat)(hy:y<2 ^ 64)(hz:z<2 ^ 64)(ho:o<2 ^ 64):zac Tryz.prog 135 [i64 x,i64 y,u64 z,i64 o] (tupV [i64 (bi (rsP x y z o) y 0),i64 (bi (rsP x y z o) 0 3)]):=by
  refine zaF mixed globs z1y zwg z1z z10 zkg (fun _=>none) [3,32] 0 ((s135 _ x y z o).trans ?_)
  unfold rsP
  have hnb:∀ (c:Bool) (α:Type) (a b:α),bi (nbeq (bi (nb c) 1 0) 0) a b=bi c a b:=fun c α a b=>by cases c<;>rfl
  have hnb1:∀ (c:Bool) (α:Type) (a b:α),bi (nbeq (bi (nb c) 1 0) 1) a b=bi c b a:=fun c α a b=>by cases c<;>rfl
  simp only[hnb,hnb1,zao]
  cases h1:nble 9223372036854775809 (biased 3 y)
  · rfl
  cases nble (biased 3 y) 9223372036854775872
  · rfl
  cases nble 9223372036854775809 (biased 3 o)
  · rfl
  cases nbeq x 21
  · cases nble (biased 3 o) (biased 3 y)<;>rfl
  cases h2:nble (biased 3 y) (biased 3 o)
  · rfl
  rw[zr5 h1 h2 hy ho hz]
  cases nble z (o - y)<;>rfl
theorem zld(x y z o:Nat)(hy:y<2 ^ 64)(hz:z<2 ^ 64)(ho:o<2 ^ 64):zac Tryz.prog 147 [i64 x,i64 y,u64 z,i64 o] (tupV [i64 (bi (rsP x y z o) y 0),i64 (bi (rsP x y z o) 0 3)]):=by
  refine zaF mixed globs z14 zwi z15 z16 zkg (fun _=>none) [3,32] 0 ((s147 _ x y z o).trans ?_)
  have p:=zak.2 (zek y)
  simp only[i64,bV,mk1] at p
  rw[p]
  have hb0:∀ (c:Bool) (α:Type) (a b:α),bi (nbeq (Nat.sub 1 (bi c 1 0)) 0) a b=bi c a b:=fun c α a b=>by cases c<;>rfl
  have hnb:∀ (c:Bool) (α:Type) (a b:α),bi (nbeq (bi (nb c) 1 0) 0) a b=bi c a b:=fun c α a b=>by cases c<;>rfl
  have hnb1:∀ (c:Bool) (α:Type) (a b:α),bi (nbeq (bi (nb c) 1 0) 1) a b=bi c b a:=fun c α a b=>by cases c<;>rfl
  simp only[n11,zae,hb0,hnb,hnb1,zao]
  cases hi:insN y
  · have e:=ins1 hi
    have:rsP x y z o=false:=by
      unfold rsP
      cases h1:nble 9223372036854775809 (biased 3 y)
      · rfl
      · rw[h1,zag] at e
        rw[e];rfl
    rw[this];rfl
  · unfold rsP
    rw[ins2 hi]
    cases h1:nble 9223372036854775809 (biased 3 y)
    · rfl
    cases nble 9223372036854775809 (biased 3 o)
    · rfl
    cases h21:nbeq x 21
    · cases nble (biased 3 o) (biased 3 y)<;>rfl
    cases h2:nble (biased 3 y) (biased 3 o)
    · rfl
    rw[zr5 h1 h2 hy ho hz]
    cases nble z (o - y)<;>rfl
end Go.Eng
namespace Go.Eng
open Go.RowKit Go.Proofs
theorem s37(J:Jmp)(to tw tv tq tn tp d n:Nat)(tl:List AV):(zaB Tryz.prog 37 zm8 (finY Tryz.prog [.tmp 6] [3]) J [] (zad Tryz.f37) (finY Tryz.prog [.tmp 6] [3]) []).run RC (zar 0 [tmV to tw tv tq tn tp tl,i64 d,i64 n] noFr) (zaf Tryz.prog) =
  (bi (nbeq (bi (nb (nble 9223372036854775809 (biased 3 d))) 1 0) 0)
 (bi (nbeq (bi (nb (nble 9223372036854775809 (biased 3 n))) 1 0) 1)
 (ansY ⟨3,18446744073709551615,0,0,0,[]⟩)
 (J [0,0,1,0,1,1,1] [⟨3,d,0,0,0,[]⟩,⟨3,gt2 (fun a b=>((a.add (kMod (zap IntKind.i64))).sub b).mod (kMod (zap IntKind.i64))) n 1,0,0,0,[]⟩,⟨16,0,0,1,0,[⟨3,to,0,0,0,[]⟩,⟨3,tw,0,0,0,[]⟩,⟨7,tv,0,0,0,[]⟩,⟨9,tn,tq,0,0,[]⟩,⟨24,tp,0,5,0,tl⟩]⟩,⟨3,0,0,0,0,[]⟩]))
 (ansY ⟨3,18446744073709551615,0,0,0,[]⟩)):=by kernel_rfl
theorem l37(J:Jmp)(d n to tw tv tq tn tp i:Nat)(tl:List AV):lblY Tryz.prog 37 zm8 (zaf Tryz.prog) RC (finY Tryz.prog [.tmp 6] [3]) (zad Tryz.f37) J [0,0,1,0,1,1,1] [i64 d,i64 n,bxD [i64 to,i64 tw,u64 tv,stA tq tn,slP tp 5 tl],i64 i] =
  (bi (nbeq (bi (nb (nble (biased 3 (lenL tl)) (biased 3 i))) 1 0) 1)
 (bi (nbeq (bi (nble 9223372036854775808 (biased 3 n)) 1 0) 1)
 (bi (nble i.succ (lenL tl))
 (bi (bi (zax 3 (nthL (bi (nbeq (nthL [nthL tl i] 0).1 15) (nthL [nthL tl i] 0).6 [nthL [nthL tl i] 0]) 0)) (bi (zax 3 (nthL (bi (nbeq (nthL [nthL tl i] 0).1 15) (nthL [nthL tl i] 0).6 [nthL [nthL tl i] 0]) (Nat.succ 0))) (bi (zax 7 (nthL (bi (nbeq (nthL [nthL tl i] 0).1 15) (nthL [nthL tl i] 0).6 [nthL [nthL tl i] 0]) (Nat.succ 0).succ)) (bi (zax 9 (nthL (bi (nbeq (nthL [nthL tl i] 0).1 15) (nthL [nthL tl i] 0).6 [nthL [nthL tl i] 0]) (Nat.succ 0).succ.succ)) (bi (zax 37 (nthL (bi (nbeq (nthL [nthL tl i] 0).1 15) (nthL [nthL tl i] 0).6 [nthL [nthL tl i] 0]) (Nat.succ 0).succ.succ.succ)) true false) false) false) false) false)
 (bi (nbeq (okN (zac Tryz.prog 37 [⟨15,0,0,0,0,[⟨3,(nthL (bi (nbeq (nthL [nthL tl i] 0).1 15) (nthL [nthL tl i] 0).6 [nthL [nthL tl i] 0]) 0).2,0,0,0,[]⟩,⟨3,(nthL (bi (nbeq (nthL [nthL tl i] 0).1 15) (nthL [nthL tl i] 0).6 [nthL [nthL tl i] 0]) (Nat.succ 0)).2,0,0,0,[]⟩,⟨7,(nthL (bi (nbeq (nthL [nthL tl i] 0).1 15) (nthL [nthL tl i] 0).6 [nthL [nthL tl i] 0]) (Nat.succ 0).succ).2,0,0,0,[]⟩,⟨9,(nthL (bi (nbeq (nthL [nthL tl i] 0).1 15) (nthL [nthL tl i] 0).6 [nthL [nthL tl i] 0]) (Nat.succ 0).succ.succ).2,(nthL (bi (nbeq (nthL [nthL tl i] 0).1 15) (nthL [nthL tl i] 0).6 [nthL [nthL tl i] 0]) (Nat.succ 0).succ.succ).3,0,0,[]⟩,⟨24,(nthL (bi (nbeq (nthL [nthL tl i] 0).1 15) (nthL [nthL tl i] 0).6 [nthL [nthL tl i] 0]) (Nat.succ 0).succ.succ.succ).2,0,5,0,(nthL (bi (nbeq (nthL [nthL tl i] 0).1 15) (nthL [nthL tl i] 0).6 [nthL [nthL tl i] 0]) (Nat.succ 0).succ.succ.succ).6⟩]⟩,⟨3,gt2 (fun a b=>((a.add (kMod (zap IntKind.i64))).sub b).mod (kMod (zap IntKind.i64))) d 1,0,0,0,[]⟩,⟨3,n,0,0,0,[]⟩] ⟨3,cntN (unTm ⟨15,0,0,0,0,[⟨3,(nthL (bi (nbeq (nthL [nthL tl i] 0).1 15) (nthL [nthL tl i] 0).6 [nthL [nthL tl i] 0]) 0).2,0,0,0,[]⟩,⟨3,(nthL (bi (nbeq (nthL [nthL tl i] 0).1 15) (nthL [nthL tl i] 0).6 [nthL [nthL tl i] 0]) (Nat.succ 0)).2,0,0,0,[]⟩,⟨7,(nthL (bi (nbeq (nthL [nthL tl i] 0).1 15) (nthL [nthL tl i] 0).6 [nthL [nthL tl i] 0]) (Nat.succ 0).succ).2,0,0,0,[]⟩,⟨9,(nthL (bi (nbeq (nthL [nthL tl i] 0).1 15) (nthL [nthL tl i] 0).6 [nthL [nthL tl i] 0]) (Nat.succ 0).succ.succ).2,(nthL (bi (nbeq (nthL [nthL tl i] 0).1 15) (nthL [nthL tl i] 0).6 [nthL [nthL tl i] 0]) (Nat.succ 0).succ.succ).3,0,0,[]⟩,⟨24,(nthL (bi (nbeq (nthL [nthL tl i] 0).1 15) (nthL [nthL tl i] 0).6 [nthL [nthL tl i] 0]) (Nat.succ 0).succ.succ.succ).2,0,5,0,(nthL (bi (nbeq (nthL [nthL tl i] 0).1 15) (nthL [nthL tl i] 0).6 [nthL [nthL tl i] 0]) (Nat.succ 0).succ.succ.succ).6⟩]⟩) (gt2 (fun a b=>((a.add (kMod (zap IntKind.i64))).sub b).mod (kMod (zap IntKind.i64))) d 1) n,0,0,0,[]⟩)) 1)
 (J [0,0,1,0,1,1,1] [⟨3,d,0,0,0,[]⟩,⟨3,cntN (unTm ⟨15,0,0,0,0,[⟨3,(nthL (bi (nbeq (nthL [nthL tl i] 0).1 15) (nthL [nthL tl i] 0).6 [nthL [nthL tl i] 0]) 0).2,0,0,0,[]⟩,⟨3,(nthL (bi (nbeq (nthL [nthL tl i] 0).1 15) (nthL [nthL tl i] 0).6 [nthL [nthL tl i] 0]) (Nat.succ 0)).2,0,0,0,[]⟩,⟨7,(nthL (bi (nbeq (nthL [nthL tl i] 0).1 15) (nthL [nthL tl i] 0).6 [nthL [nthL tl i] 0]) (Nat.succ 0).succ).2,0,0,0,[]⟩,⟨9,(nthL (bi (nbeq (nthL [nthL tl i] 0).1 15) (nthL [nthL tl i] 0).6 [nthL [nthL tl i] 0]) (Nat.succ 0).succ.succ).2,(nthL (bi (nbeq (nthL [nthL tl i] 0).1 15) (nthL [nthL tl i] 0).6 [nthL [nthL tl i] 0]) (Nat.succ 0).succ.succ).3,0,0,[]⟩,⟨24,(nthL (bi (nbeq (nthL [nthL tl i] 0).1 15) (nthL [nthL tl i] 0).6 [nthL [nthL tl i] 0]) (Nat.succ 0).succ.succ.succ).2,0,5,0,(nthL (bi (nbeq (nthL [nthL tl i] 0).1 15) (nthL [nthL tl i] 0).6 [nthL [nthL tl i] 0]) (Nat.succ 0).succ.succ.succ).6⟩]⟩) (gt2 (fun a b=>((a.add (kMod (zap IntKind.i64))).sub b).mod (kMod (zap IntKind.i64))) d 1) n,0,0,0,[]⟩,⟨16,0,0,1,0,[⟨3,to,0,0,0,[]⟩,⟨3,tw,0,0,0,[]⟩,⟨7,tv,0,0,0,[]⟩,⟨9,tn,tq,0,0,[]⟩,⟨24,tp,0,5,0,tl⟩]⟩,⟨3,gt2 (fun a b=>(a.add b).mod (kMod (zap IntKind.i64))) i 1,0,0,0,[]⟩])
 (zab 301))
 (zab 201))
 (zab 205))
 (ansY ⟨3,n,0,0,0,[]⟩))
 (ansY ⟨3,n,0,0,0,[]⟩)):=by kernel_rfl
theorem s187(J:Jmp)(ap bp:Nat)(al bl:List AV):(zaB Tryz.prog 27 zkf (finY Tryz.prog [.tmp 4] [4]) J [] (zad Tryz.f187) (finY Tryz.prog [.tmp 4] [4]) []).run RC (zar 0 [slP ap 5 al,slP bp 5 bl] noFr) (zaf Tryz.prog) =
  (bi (nbeq (bi (nb (nbeq (lenL al) (lenL bl))) 1 0) 1)
 (ansY ⟨8,0,0,0,0,[]⟩)
 (J [0,0,1,0,1,1] [⟨24,ap,0,5,0,al⟩,⟨24,bp,0,5,0,bl⟩,⟨3,0,0,0,0,[]⟩])):=by kernel_rfl
theorem l187(J:Jmp)(ap bp i:Nat)(al bl:List AV):lblY Tryz.prog 27 zkf (zaf Tryz.prog) RC (finY Tryz.prog [.tmp 4] [4]) (zad Tryz.f187) J [0,0,1,0,1,1] [slP ap 5 al,slP bp 5 bl,i64 i] =
  (bi (nbeq (bi (nb (nble (biased 3 (lenL al)) (biased 3 i))) 1 0) 1)
 (bi (nble i.succ (lenL al))
 (bi (bi (zax 3 (nthL (bi (nbeq (nthL [nthL al i] 0).1 15) (nthL [nthL al i] 0).6 [nthL [nthL al i] 0]) 0)) (bi (zax 3 (nthL (bi (nbeq (nthL [nthL al i] 0).1 15) (nthL [nthL al i] 0).6 [nthL [nthL al i] 0]) (Nat.succ 0))) (bi (zax 7 (nthL (bi (nbeq (nthL [nthL al i] 0).1 15) (nthL [nthL al i] 0).6 [nthL [nthL al i] 0]) (Nat.succ 0).succ)) (bi (zax 9 (nthL (bi (nbeq (nthL [nthL al i] 0).1 15) (nthL [nthL al i] 0).6 [nthL [nthL al i] 0]) (Nat.succ 0).succ.succ)) (bi (zax 37 (nthL (bi (nbeq (nthL [nthL al i] 0).1 15) (nthL [nthL al i] 0).6 [nthL [nthL al i] 0]) (Nat.succ 0).succ.succ.succ)) true false) false) false) false) false)
 (bi (nble i.succ (lenL bl))
 (bi (bi (zax 3 (nthL (bi (nbeq (nthL [nthL bl i] 0).1 15) (nthL [nthL bl i] 0).6 [nthL [nthL bl i] 0]) 0)) (bi (zax 3 (nthL (bi (nbeq (nthL [nthL bl i] 0).1 15) (nthL [nthL bl i] 0).6 [nthL [nthL bl i] 0]) (Nat.succ 0))) (bi (zax 7 (nthL (bi (nbeq (nthL [nthL bl i] 0).1 15) (nthL [nthL bl i] 0).6 [nthL [nthL bl i] 0]) (Nat.succ 0).succ)) (bi (zax 9 (nthL (bi (nbeq (nthL [nthL bl i] 0).1 15) (nthL [nthL bl i] 0).6 [nthL [nthL bl i] 0]) (Nat.succ 0).succ.succ)) (bi (zax 37 (nthL (bi (nbeq (nthL [nthL bl i] 0).1 15) (nthL [nthL bl i] 0).6 [nthL [nthL bl i] 0]) (Nat.succ 0).succ.succ.succ)) true false) false) false) false) false)
 (bi (nbeq (okN (zac Tryz.prog 123 [⟨15,0,0,0,0,[⟨3,(nthL (bi (nbeq (nthL [nthL al i] 0).1 15) (nthL [nthL al i] 0).6 [nthL [nthL al i] 0]) 0).2,0,0,0,[]⟩,⟨3,(nthL (bi (nbeq (nthL [nthL al i] 0).1 15) (nthL [nthL al i] 0).6 [nthL [nthL al i] 0]) (Nat.succ 0)).2,0,0,0,[]⟩,⟨7,(nthL (bi (nbeq (nthL [nthL al i] 0).1 15) (nthL [nthL al i] 0).6 [nthL [nthL al i] 0]) (Nat.succ 0).succ).2,0,0,0,[]⟩,⟨9,(nthL (bi (nbeq (nthL [nthL al i] 0).1 15) (nthL [nthL al i] 0).6 [nthL [nthL al i] 0]) (Nat.succ 0).succ.succ).2,(nthL (bi (nbeq (nthL [nthL al i] 0).1 15) (nthL [nthL al i] 0).6 [nthL [nthL al i] 0]) (Nat.succ 0).succ.succ).3,0,0,[]⟩,⟨24,(nthL (bi (nbeq (nthL [nthL al i] 0).1 15) (nthL [nthL al i] 0).6 [nthL [nthL al i] 0]) (Nat.succ 0).succ.succ.succ).2,0,5,0,(nthL (bi (nbeq (nthL [nthL al i] 0).1 15) (nthL [nthL al i] 0).6 [nthL [nthL al i] 0]) (Nat.succ 0).succ.succ.succ).6⟩]⟩,⟨15,0,0,0,0,[⟨3,(nthL (bi (nbeq (nthL [nthL bl i] 0).1 15) (nthL [nthL bl i] 0).6 [nthL [nthL bl i] 0]) 0).2,0,0,0,[]⟩,⟨3,(nthL (bi (nbeq (nthL [nthL bl i] 0).1 15) (nthL [nthL bl i] 0).6 [nthL [nthL bl i] 0]) (Nat.succ 0)).2,0,0,0,[]⟩,⟨7,(nthL (bi (nbeq (nthL [nthL bl i] 0).1 15) (nthL [nthL bl i] 0).6 [nthL [nthL bl i] 0]) (Nat.succ 0).succ).2,0,0,0,[]⟩,⟨9,(nthL (bi (nbeq (nthL [nthL bl i] 0).1 15) (nthL [nthL bl i] 0).6 [nthL [nthL bl i] 0]) (Nat.succ 0).succ.succ).2,(nthL (bi (nbeq (nthL [nthL bl i] 0).1 15) (nthL [nthL bl i] 0).6 [nthL [nthL bl i] 0]) (Nat.succ 0).succ.succ).3,0,0,[]⟩,⟨24,(nthL (bi (nbeq (nthL [nthL bl i] 0).1 15) (nthL [nthL bl i] 0).6 [nthL [nthL bl i] 0]) (Nat.succ 0).succ.succ.succ).2,0,5,0,(nthL (bi (nbeq (nthL [nthL bl i] 0).1 15) (nthL [nthL bl i] 0).6 [nthL [nthL bl i] 0]) (Nat.succ 0).succ.succ.succ).6⟩]⟩] ⟨8,bi (eqT (unTm ⟨15,0,0,0,0,[⟨3,(nthL (bi (nbeq (nthL [nthL al i] 0).1 15) (nthL [nthL al i] 0).6 [nthL [nthL al i] 0]) 0).2,0,0,0,[]⟩,⟨3,(nthL (bi (nbeq (nthL [nthL al i] 0).1 15) (nthL [nthL al i] 0).6 [nthL [nthL al i] 0]) (Nat.succ 0)).2,0,0,0,[]⟩,⟨7,(nthL (bi (nbeq (nthL [nthL al i] 0).1 15) (nthL [nthL al i] 0).6 [nthL [nthL al i] 0]) (Nat.succ 0).succ).2,0,0,0,[]⟩,⟨9,(nthL (bi (nbeq (nthL [nthL al i] 0).1 15) (nthL [nthL al i] 0).6 [nthL [nthL al i] 0]) (Nat.succ 0).succ.succ).2,(nthL (bi (nbeq (nthL [nthL al i] 0).1 15) (nthL [nthL al i] 0).6 [nthL [nthL al i] 0]) (Nat.succ 0).succ.succ).3,0,0,[]⟩,⟨24,(nthL (bi (nbeq (nthL [nthL al i] 0).1 15) (nthL [nthL al i] 0).6 [nthL [nthL al i] 0]) (Nat.succ 0).succ.succ.succ).2,0,5,0,(nthL (bi (nbeq (nthL [nthL al i] 0).1 15) (nthL [nthL al i] 0).6 [nthL [nthL al i] 0]) (Nat.succ 0).succ.succ.succ).6⟩]⟩) (unTm ⟨15,0,0,0,0,[⟨3,(nthL (bi (nbeq (nthL [nthL bl i] 0).1 15) (nthL [nthL bl i] 0).6 [nthL [nthL bl i] 0]) 0).2,0,0,0,[]⟩,⟨3,(nthL (bi (nbeq (nthL [nthL bl i] 0).1 15) (nthL [nthL bl i] 0).6 [nthL [nthL bl i] 0]) (Nat.succ 0)).2,0,0,0,[]⟩,⟨7,(nthL (bi (nbeq (nthL [nthL bl i] 0).1 15) (nthL [nthL bl i] 0).6 [nthL [nthL bl i] 0]) (Nat.succ 0).succ).2,0,0,0,[]⟩,⟨9,(nthL (bi (nbeq (nthL [nthL bl i] 0).1 15) (nthL [nthL bl i] 0).6 [nthL [nthL bl i] 0]) (Nat.succ 0).succ.succ).2,(nthL (bi (nbeq (nthL [nthL bl i] 0).1 15) (nthL [nthL bl i] 0).6 [nthL [nthL bl i] 0]) (Nat.succ 0).succ.succ).3,0,0,[]⟩,⟨24,(nthL (bi (nbeq (nthL [nthL bl i] 0).1 15) (nthL [nthL bl i] 0).6 [nthL [nthL bl i] 0]) (Nat.succ 0).succ.succ.succ).2,0,5,0,(nthL (bi (nbeq (nthL [nthL bl i] 0).1 15) (nthL [nthL bl i] 0).6 [nthL [nthL bl i] 0]) (Nat.succ 0).succ.succ.succ).6⟩]⟩)) 1 0,0,0,0,[]⟩)) 1)
 (bi (nbeq (Nat.sub 1 (bi (eqT (unTm ⟨15,0,0,0,0,[⟨3,(nthL (bi (nbeq (nthL [nthL al i] 0).1 15) (nthL [nthL al i] 0).6 [nthL [nthL al i] 0]) 0).2,0,0,0,[]⟩,⟨3,(nthL (bi (nbeq (nthL [nthL al i] 0).1 15) (nthL [nthL al i] 0).6 [nthL [nthL al i] 0]) (Nat.succ 0)).2,0,0,0,[]⟩,⟨7,(nthL (bi (nbeq (nthL [nthL al i] 0).1 15) (nthL [nthL al i] 0).6 [nthL [nthL al i] 0]) (Nat.succ 0).succ).2,0,0,0,[]⟩,⟨9,(nthL (bi (nbeq (nthL [nthL al i] 0).1 15) (nthL [nthL al i] 0).6 [nthL [nthL al i] 0]) (Nat.succ 0).succ.succ).2,(nthL (bi (nbeq (nthL [nthL al i] 0).1 15) (nthL [nthL al i] 0).6 [nthL [nthL al i] 0]) (Nat.succ 0).succ.succ).3,0,0,[]⟩,⟨24,(nthL (bi (nbeq (nthL [nthL al i] 0).1 15) (nthL [nthL al i] 0).6 [nthL [nthL al i] 0]) (Nat.succ 0).succ.succ.succ).2,0,5,0,(nthL (bi (nbeq (nthL [nthL al i] 0).1 15) (nthL [nthL al i] 0).6 [nthL [nthL al i] 0]) (Nat.succ 0).succ.succ.succ).6⟩]⟩) (unTm ⟨15,0,0,0,0,[⟨3,(nthL (bi (nbeq (nthL [nthL bl i] 0).1 15) (nthL [nthL bl i] 0).6 [nthL [nthL bl i] 0]) 0).2,0,0,0,[]⟩,⟨3,(nthL (bi (nbeq (nthL [nthL bl i] 0).1 15) (nthL [nthL bl i] 0).6 [nthL [nthL bl i] 0]) (Nat.succ 0)).2,0,0,0,[]⟩,⟨7,(nthL (bi (nbeq (nthL [nthL bl i] 0).1 15) (nthL [nthL bl i] 0).6 [nthL [nthL bl i] 0]) (Nat.succ 0).succ).2,0,0,0,[]⟩,⟨9,(nthL (bi (nbeq (nthL [nthL bl i] 0).1 15) (nthL [nthL bl i] 0).6 [nthL [nthL bl i] 0]) (Nat.succ 0).succ.succ).2,(nthL (bi (nbeq (nthL [nthL bl i] 0).1 15) (nthL [nthL bl i] 0).6 [nthL [nthL bl i] 0]) (Nat.succ 0).succ.succ).3,0,0,[]⟩,⟨24,(nthL (bi (nbeq (nthL [nthL bl i] 0).1 15) (nthL [nthL bl i] 0).6 [nthL [nthL bl i] 0]) (Nat.succ 0).succ.succ.succ).2,0,5,0,(nthL (bi (nbeq (nthL [nthL bl i] 0).1 15) (nthL [nthL bl i] 0).6 [nthL [nthL bl i] 0]) (Nat.succ 0).succ.succ.succ).6⟩]⟩)) 1 0)) 1)
 (ansY ⟨8,0,0,0,0,[]⟩)
 (J [0,0,1,0,1,1] [⟨24,ap,0,5,0,al⟩,⟨24,bp,0,5,0,bl⟩,⟨3,gt2 (fun a b=>(a.add b).mod (kMod (zap IntKind.i64))) i 1,0,0,0,[]⟩]))
 (zab 301))
 (zab 201))
 (zab 205))
 (zab 201))
 (zab 205))
 (ansY ⟨8,1,0,0,0,[]⟩)):=by kernel_rfl
theorem s8(J:Jmp)(ao aw av aq an ap bo bw bv bq bn bp:Nat)(al bl:List AV):(zaB Tryz.prog 38 (fun _=>none) (finY Tryz.prog [.tmp 4] [4]) J [] (zad Tryz.f123) (finY Tryz.prog [.tmp 4] [4]) []).run RC (zar 0 [tmV ao aw av aq an ap al,tmV bo bw bv bq bn bp bl] noFr) (zaf Tryz.prog) =
  (bi (nbeq (bi (nbeq ao bo) 1 0) 1)
 (bi (nbeq (bi (nbeq aw bw) 1 0) 1)
 (bi (nbeq (bi (nbeq av bv) 1 0) 1)
 (bi (nbeq (bi (bi (nbeq aq bq) (nbeq an bn) false) 1 0) 1)
 (bi (nbeq (okN (zac Tryz.prog 187 [⟨24,ap,0,5,0,al⟩,⟨24,bp,0,5,0,bl⟩] ⟨8,bi (eqTs (zcE al) (zcE bl)) 1 0,0,0,0,[]⟩)) 1)
 (ansY ⟨8,bi (eqTs (zcE al) (zcE bl)) 1 0,0,0,0,[]⟩)
 (zab 301))
 (ansY ⟨8,0,0,0,0,[]⟩))
 (ansY ⟨8,0,0,0,0,[]⟩))
 (ansY ⟨8,0,0,0,0,[]⟩))
 (ansY ⟨8,0,0,0,0,[]⟩)):=by kernel_rfl
theorem zy6:Tryz.f37.body=some (zad Tryz.f37):=by kernel_rfl
theorem fn37:Tryz.prog.funcs[37]?=some Tryz.f37:=by kernel_rfl
theorem nt37:Tryz.f37.ntmps=37:=by kernel_rfl
theorem rs37:Tryz.f37.results.toList=[.tmp 6]:=by kernel_rfl
theorem zwk:Tryz.f187.body=some (zad Tryz.f187):=by kernel_rfl
theorem z18:Tryz.prog.funcs[187]?=some Tryz.f187:=by kernel_rfl
theorem z19:Tryz.f187.ntmps=27:=by kernel_rfl
theorem z1A:Tryz.f187.results.toList=[.tmp 4]:=by kernel_rfl
theorem z1B:Tryz.f123.body=some (zad Tryz.f123):=by kernel_rfl
theorem fn8:Tryz.prog.funcs[123]?=some Tryz.f123:=by kernel_rfl
theorem nt8:Tryz.f123.ntmps=38:=by kernel_rfl
theorem rs8:Tryz.f123.results.toList=[.tmp 4]:=by kernel_rfl
theorem n00:nbeq 0 0=true:=rfl
theorem n10:nbeq 1 0=false:=rfl
theorem zec(t:Tm):aggV [i64 t.op,i64 t.w,u64 t.v,stA t.nq t.np,slP t.p 5 (t.as.map tmA)]=tmA t:=by
  cases t;rw[zaP];rfl
def zgo(l:List Tm)(d n:Nat):Nat:=match cnts l d n with | none=>18446744073709551615 | some k=>k
theorem zwl(op w v nq np p:Nat)(l:List Tm)(d n:Nat):cntN (.mk op w v nq np p l) d n=if d=0 ∨ n=0 then 18446744073709551615 else zgo l (d - 1) (n - 1):=by
  unfold cntN zgo
  rw[cnt]
  split<;>rename_i h<;>split<;>simp_all
mutual
theorem znh:∀ (t:Tm) (d n k:Nat),cnt t d n=some k→k≤n
  | .mk _ _ _ _ _ _ l,d,n,k,h=>by
    rw[cnt] at h
    split at h
    · cases h
    · have:=zle l _ _ _ h;omega
theorem zle:∀ (l:List Tm) (d n k:Nat),cnts l d n=some k→k≤n
  | [],d,n,k,h=>by rw[cnts] at h;cases h;exact Nat.le_refl _
  | a::l,d,n,k,h=>by
    rw[cnts] at h
    split at h
    · cases h
    · rename_i j hj
      have h1:=znh a d n j hj
      have h2:=zle l d j k h
      omega
end
theorem zoB{d:Nat}(hd:d<2 ^ 62):nble 9223372036854775809 (biased 3 d)=decide (1≤d):=by
  rw[zcm (by omega),zbN,decide_eq_decide];omega
theorem zy7:∀ (t:Tm) (d n:Nat),d<2 ^ 62→n<2 ^ 62→(t.All fun _ _ _ _ _ _ l=>l.length<2 ^ 63)→zac Tryz.prog 37 [tmA t,i64 d,i64 n] (i64 (cntN t d n)):=by
  intro t
  induction t using Tm.ind with
  | h op w v nq np p X ih =>
  intro d n hd hn hall
  obtain⟨hX,hall⟩:X.length<2 ^ 63∧∀ t ∈ X,t.All fun _ _ _ _ _ _ l=>l.length<2 ^ 63:=by
    cases hall with | mk h1 h2=>exact⟨h1,h2⟩
  have loop:1≤d→∀ k i n',n'<2 ^ 62→i+k=X.length→jmpN Tryz.prog 37 zm8 (zaf Tryz.prog) RC (finY Tryz.prog [.tmp 6] [3]) (zad Tryz.f37) (k+2) [0,0,1,0,1,1,1] [i64 d,i64 n',bxD [i64 op,i64 w,u64 v,stA nq np,slP p 5 (X.map tmA)],i64 i]=ansY (i64 (zgo (X.drop i) (d - 1) n')):=by
    intro hd1 k
    induction k with
    | zero =>
      intro i n' hn' hi
      have e:i=X.length:=by omega
      subst e
      rw[zal,l37]
      simp only[zao,n11,n01,zau,zbC hX hX,Nat.le_refl,decide_true,nb_t,zaj,List.drop_length,zaE]
      rfl
    | succ k ihk =>
      intro i n' hn' hi
      have hlt:i<X.length:=by omega
      have hi63:i<2 ^ 63:=by omega
      have e1:X.drop i=X[i]::X.drop (i+1):=List.drop_eq_getElem_cons hlt
      have q:=zak.2 (ih X[i] (List.getElem_mem hlt) (d - 1) n' (by omega) hn' (hall _ (List.getElem_mem hlt)))
      rw[zal,l37]
      simp only[zau,zbC hX hi63,show ¬ X.length≤i by omega,decide_false,nb_f,zae,zaj,zbh (show i.succ≤X.length from hlt),zca tmA X i hlt,subN hd1 (show d<2 ^ 64 by omega),zbh (show 9223372036854775808≤biased 3 n' by rw[zcm (show n'<2 ^ 63 by omega)];omega),zeO hi63,q,nth1,zcZ,n5_0,n5_1,n5_2,n5_3,n5_4,tg_i,tg_u,tg_s,tg_l,zcQ,zh5,zdI,zdJ,zh6,zfM,zaE,zaL,zd6,zbe,zd7,zd1,zf1,zec,zaZ,zao,n11,n01]
      rw[e1]
      cases hc:cnt X[i] (d - 1) n' with
      | none =>
        have e3:cntN X[i] (d - 1) n'=18446744073709551615:=by unfold cntN;rw[hc]
        have e2:zgo (X[i]::X.drop (i+1)) (d - 1) n'=18446744073709551615:=by unfold zgo;rw[cnts,hc]
        rw[e2]
        rw[e3,zal,l37]
        have e4:nble 9223372036854775808 (biased 3 18446744073709551615)=false:=by decide +kernel
        simp only[zao,n11,n01,zau,e4,zaj,zaE]
        cases nb (nble (biased 3 X.length) (biased 3 (i+1)))
        · rfl
        · rfl
      | some j =>
        have e3:cntN X[i] (d - 1) n'=j:=by unfold cntN;rw[hc]
        have e2:zgo (X[i]::X.drop (i+1)) (d - 1) n'=zgo (X.drop (i+1)) (d - 1) j:=by unfold zgo;rw[cnts,hc]
        rw[e2]
        rw[e3]
        exact ihk (i+1) j (by have:=znh _ _ _ _ hc;omega) (by omega)
  rw[zaP,zwl]
  refine zaF mixed globs fn37 zy6 nt37 rs37 zpD zm8 [3] (X.length+2) ((s37 _ op w v nq np p d n _).trans ?_)
  rw[zoB hd,zoB hn]
  by_cases h1:1≤d
  · by_cases h2:1≤n
    · have hl:=loop h1 X.length 0 (n - 1) (by omega) (by omega)
      simp only[h1,h2,decide_true,nb_t,zao,b0,n00,n10,n11,n01,zae,zaj,subN h2 (show n<2 ^ 64 by omega),zaE,zaL,zd6,zbe,zd1]
      rw[if_neg (by omega)]
      exact hl
    · simp only[h1,h2,decide_true,decide_false,nb_t,nb_f,zao,b0,n00,n10,n11,n01,zaj,zae]
      rw[if_pos (by omega)];rfl
  · simp only[h1,decide_false,nb_f,zao,b0,n00,n10,n11,n01,zaj,zae]
    rw[if_pos (by omega)];rfl
theorem zgp{a b:Tm}{l l':List Tm}:eqTs (a::l) (b::l')=(eqT a b && eqTs l l'):=rfl
theorem zwm(X Y:List Tm)(pa pb:Nat)(hX:X.length<2 ^ 63)(hih:∀ t ∈ X,∀ b,(b.All fun _ _ _ _ _ _ l=>l.length<2 ^ 63)→zac Tryz.prog 123 [tmA t,tmA b] (bV (eqT t b)))(hY:∀ t ∈ Y,t.All fun _ _ _ _ _ _ l=>l.length<2 ^ 63):zac Tryz.prog 187 [slP pa 5 (X.map tmA),slP pb 5 (Y.map tmA)] (bV (eqTs X Y)):=by
  have loop:X.length=Y.length→∀ k i,i+k=X.length→jmpN Tryz.prog 27 zkf (zaf Tryz.prog) RC (finY Tryz.prog [.tmp 4] [4]) (zad Tryz.f187) (k+1) [0,0,1,0,1,1] [slP pa 5 (X.map tmA),slP pb 5 (Y.map tmA),i64 i]=ansY (bV (eqTs (X.drop i) (Y.drop i))):=by
    intro hl k
    induction k with
    | zero =>
      intro i hi
      have e:i=X.length:=by omega
      subst e
      rw[zal,l187]
      simp only[zao,n11,n01,zau,zbC hX hX,Nat.le_refl,decide_true,nb_t,zaj,List.drop_length]
      rw[hl,List.drop_length];rfl
    | succ k ihk =>
      intro i hi
      have hlt:i<X.length:=by omega
      have hlty:i<Y.length:=by omega
      have hi63:i<2 ^ 63:=by omega
      have e1:X.drop i=X[i]::X.drop (i+1):=List.drop_eq_getElem_cons hlt
      have e2:Y.drop i=Y[i]::Y.drop (i+1):=List.drop_eq_getElem_cons hlty
      have q:=zak.2 (hih X[i] (List.getElem_mem hlt) Y[i] (hY _ (List.getElem_mem hlty)))
      simp only[bV,mk1] at q
      rw[zal,l187]
      simp only[zau,zbC hX hi63,show ¬ X.length≤i by omega,decide_false,nb_f,zae,zaj,zbh (show i.succ≤X.length from hlt),zbh (show i.succ≤Y.length from hlty),zca tmA X i hlt,zca tmA Y i hlty,zeO hi63,q,bS,nth1,zcZ,n5_0,n5_1,n5_2,n5_3,n5_4,tg_i,tg_u,tg_s,tg_l,zcQ,zh5,zdI,zdJ,zh6,zfM,zaE,zaL,zd6,zbe,zd7,zd1,zf1,zec,zaZ,zao,n11,n01]
      rw[e1,e2,zgp]
      cases eqT X[i] Y[i]
      · rw[zaj,Bool.false_and];rfl
      · rw[zae,Bool.true_and]
        exact ihk (i+1) (by omega)
  refine zaF mixed globs z18 zwk z19 z1A zpD zkf [4] (X.length+1) ((s187 _ pa pb _ _).trans ?_)
  simp only[zau,zao]
  by_cases h:X.length=Y.length
  · rw[zaH,decide_eq_true h,nb_t,zaj]
    exact loop h X.length 0 (by omega)
  · rw[zaH,decide_eq_false h,nb_f,zae]
    have e:∀ X Y:List Tm,X.length ≠ Y.length→eqTs X Y=false:=by
      intro X
      induction X with
      | nil=>intro Y h;cases Y with
        | nil=>exact absurd rfl h
        | cons _ _=>rfl
      | cons a X ihx =>
        intro Y h
        cases Y with
        | nil=>rfl
        | cons b Y=>rw[zgp,ihx Y (by simpa using h),Bool.and_false]
    rw[e X Y h];rfl
theorem z1C:∀ a b:Tm,(a.All fun _ _ _ _ _ _ l=>l.length<2 ^ 63)→(b.All fun _ _ _ _ _ _ l=>l.length<2 ^ 63)→zac Tryz.prog 123 [tmA a,tmA b] (bV (eqT a b)):=by
  intro a
  induction a using Tm.ind with
  | h op w v nq np p X ih =>
  intro b ha hb
  obtain⟨op',w',v',nq',np',p',Y⟩:=b
  obtain⟨hX,ha⟩:X.length<2 ^ 63∧∀ t ∈ X,t.All fun _ _ _ _ _ _ l=>l.length<2 ^ 63:=by
    cases ha with | mk h1 h2=>exact⟨h1,h2⟩
  have hb:∀ t ∈ Y,t.All fun _ _ _ _ _ _ l=>l.length<2 ^ 63:=by
    cases hb with | mk h1 h2=>exact h2
  have q:=zak.2 (zwm X Y p p' hX (fun t ht b hb=>ih t ht b (ha t ht) hb) hb)
  simp only[bV,mk1] at q
  rw[zaP,zaP]
  refine zaF mixed globs fn8 z1B nt8 rs8 zpD (fun _=>none) [4] 0 ((s8 _ op w v nq np p op' w' v' nq' np' p' _ _).trans ?_)
  have eu:∀ l:List Tm,zcE (l.map tmA)=l:=by
    intro l
    unfold zcE
    rw[List.map_map]
    have:unTm ∘ tmA=id:=funext fun t=>zaZ t
    rw[this,List.map_id]
  rw[eu,eu]
  simp only[zbe,q,zao,n11,zae]
  rw[eqT]
  simp only[zaH]
  cases decide (op=op')<;>cases decide (w=w')<;>cases decide (v=v')<;>cases decide (nq=nq')<;>cases decide (np=np')<;>cases eqTs X Y<;>rfl
inductive Tm.Sm:Nat→Tm→Prop
  | mk {d op w v nq np p:Nat} {l:List Tm}:l.length≤1000→(∀ t ∈ l,Tm.Sm d t)→Tm.Sm (d+1) (.mk op w v nq np p l)
theorem zcv(n:Nat)(t p q r s:Nat)(cs:List AV)(h:∀ c ∈ cs,eqA n c c=true):eqA (n+1) ⟨t,p,q,r,s,cs⟩ ⟨t,p,q,r,s,cs⟩=true:=by
  have key:∀ l:List AV,(∀ c ∈ l,eqA n c c=true)→(List.rec (motive:=fun _=>List AV→Bool) (fun l=>List.rec (motive:=fun _=>Bool) true (fun _ _ _=>false) l) (fun x _ ihl l=>List.rec (motive:=fun _=>Bool) false (fun y l _=>bi (eqA n x y) (ihl l) false) l) l l:Bool)=true:=by
    intro l
    induction l with
    | nil=>intro _;rfl
    | cons a l ih =>
      intro h
      show bi (eqA n a a) _ false=true
      rw[h a (by simp),zag]
      exact ih fun c hc=>h c (by simp[hc])
  show bi (nbeq t t) (bi (nbeq p p) (bi (nbeq q q) (bi (nbeq r r) (bi (nbeq s s) _ false) false) false) false) false=true
  rw[zfl,zfl,zfl,zfl,zfl]
  exact key cs h
theorem zr6:∀ (d:Nat) (t:Tm),t.Sm d→∀ n,2 * d≤n→eqA n (tmA t) (tmA t)=true:=by
  intro d
  induction d with
  | zero=>intro t h;cases h
  | succ d ih =>
    intro t h n hn
    obtain⟨op,w,v,nq,np,p,l⟩:=t
    have hl:∀ t ∈ l,t.Sm d:=by cases h with | mk _ h=>exact h
    obtain⟨m,rfl⟩:∃ m,n=m+2:=⟨n - 2,by omega⟩
    rw[zaP]
    refine zcv (m+1) 15 0 0 0 0 _ fun c hc=>?_
    simp only[List.mem_cons,List.not_mem_nil,or_false] at hc
    rcases hc with rfl | rfl | rfl | rfl | rfl
    · exact zcv m _ _ _ _ _ _ fun c hc=>by cases hc
    · exact zcv m _ _ _ _ _ _ fun c hc=>by cases hc
    · exact zcv m _ _ _ _ _ _ fun c hc=>by cases hc
    · exact zcv m _ _ _ _ _ _ fun c hc=>by cases hc
    · refine zcv m 24 p 0 5 0 _ fun c hc=>?_
      obtain⟨t,ht,rfl⟩:=List.mem_map.1 hc
      exact ih t (hl t ht) m (by omega)
end Go.Eng
namespace Go.Eng
open Go.RowKit Go.Proofs
noncomputable section
def arR(x:Nat):Nat:=bi (knN x) (bi (za3 x) 0 (bi (isS x [3,4,21,22,23,26]) 1 (bi (nbeq x 19) 3 2))) 18446744073709551615
def NtE:Nat→Option Native:=ntL [(131,natP Tryz.prog 131 [22] fun l=>bV (knN (nthL l 0).p)),(133,natP Tryz.prog 133 [3] fun l=>bV (insN (nthL l 0).p)),
  (144,natP Tryz.prog 144 [3] fun l=>bV (insN (nthL l 0).p)),(136,natP Tryz.prog 136 [4, 3] fun l=>tupV [i64 (bi (nbeq (nthL l 0).p 1) (nthL l 1).p 0),i64 (bi (nbeq (nthL l 0).p 1) 0 3)]),
  (148,natP Tryz.prog 148 [22,195] fun l=>bV (isA (nthL l 0).p (nthL l 1).cs)),(132,natP Tryz.prog 132 [22] fun l=>i64 (arN (nthL l 0).p)),(125,natP Tryz.prog 125 [22] fun l=>i64 (arR (nthL l 0).p)),(145,natP Tryz.prog 145 [22] fun l=>bV (za3 (nthL l 0).p)),
  (134,natP Tryz.prog 134 [22, 3, 23] fun l=>tupV [i64 (bi (lfP (nthL l 0).p (nthL l 1).p (nthL l 2).p) (nthL l 1).p 0),i64 (bi (lfP (nthL l 0).p (nthL l 1).p (nthL l 2).p) 0 3)]),
  (146,natP Tryz.prog 146 [22, 3, 23] fun l=>tupV [i64 (bi (lfP (nthL l 0).p (nthL l 1).p (nthL l 2).p) (nthL l 1).p 0),i64 (bi (lfP (nthL l 0).p (nthL l 1).p (nthL l 2).p) 0 3)]),
  (135,natP Tryz.prog 135 [22, 3, 23, 3] fun l=>tupV [i64 (bi (rsP (nthL l 0).p (nthL l 1).p (nthL l 2).p (nthL l 3).p) (nthL l 1).p 0),i64 (bi (rsP (nthL l 0).p (nthL l 1).p (nthL l 2).p (nthL l 3).p) 0 3)]),
  (147,natP Tryz.prog 147 [22, 3, 23, 3] fun l=>tupV [i64 (bi (rsP (nthL l 0).p (nthL l 1).p (nthL l 2).p (nthL l 3).p) (nthL l 1).p 0),i64 (bi (rsP (nthL l 0).p (nthL l 1).p (nthL l 2).p (nthL l 3).p) 0 3)])]
def RE:Rec:=evN Tryz.prog NtE (fun _=>false) 2
def zvd:Tm:=.mk 0 0 0 0 0 0 []
def zci(t:Tm)(d n:Nat):Tm:=match cnt t d n with | none=>zvd | some _=>t
def zb2(t:Tm)(d n:Nat):Bool:=match cnt t d n with | none=>false | some _=>true
def NtF:Nat→Option Native:=ntL [(37,natP Tryz.prog 37 [26, 3, 3] fun l=>i64 (cntN (unTm (nthL l 0)) (nthL l 1).p (nthL l 2).p)),(123,natP Tryz.prog 123 [26, 26] fun l=>bV (eqT (unTm (nthL l 0)) (unTm (nthL l 1)))),
  (23,natP Tryz.prog 23 [26] fun l=>tmE (cpT (unTm (nthL l 0)))),(26,natP Tryz.prog 26 [22, 26, 26] fun l=>tmV (nthL l 0).p 1 0 0 0 1 [nthL l 1,nthL l 2]),(27,natP Tryz.prog 27 [22, 3, 26, 26] fun l=>tmV (nthL l 0).p (nthL l 1).p 0 0 0 1 [nthL l 2,nthL l 3]),
  (14,natP Tryz.prog 14 [26, 3, 3] fun l=>tupV [tmE (zci (unTm (nthL l 0)) (nthL l 1).p (nthL l 2).p),bV (zb2 (unTm (nthL l 0)) (nthL l 1).p (nthL l 2).p)])]
def RF:Rec:=evN Tryz.prog NtF (fun _=>false) 2
end
end Go.Eng
namespace Go.Eng
open Go.RowKit Go.Proofs
theorem s125(J:Jmp)(x:Nat):(zaB Tryz.prog 16 (fun _=>none) (finY Tryz.prog [.tmp 2] [3]) J [] (zad Tryz.f125) (finY Tryz.prog [.tmp 2] [3]) []).run RE (zar 0 [i64 x] noFr) (zaf Tryz.prog) =
  (bi (nbeq (bi (nb (nble 9223372036854775809 (biased 3 x))) 1 0) 0)
 (bi (nbeq (bi (nb (nble (biased 3 x) 9223372036854775834)) 1 0) 1)
 (ansY ⟨3,18446744073709551615,0,0,0,[]⟩)
 (bi (nbeq (okN (zac Tryz.prog 145 [⟨3,x,0,0,0,[]⟩] ⟨8,bi (za3 x) 1 0,0,0,0,[]⟩)) 1)
 (bi (nbeq (bi (za3 x) 1 0) 1)
 (ansY ⟨3,0,0,0,0,[]⟩)
 (bi (nbeq (okN (zac Tryz.prog 148 [⟨3,x,0,0,0,[]⟩,⟨24,1,0,1,0,[⟨3,3,0,0,0,[]⟩,⟨3,4,0,0,0,[]⟩,⟨3,21,0,0,0,[]⟩,⟨3,22,0,0,0,[]⟩,⟨3,23,0,0,0,[]⟩,⟨3,26,0,0,0,[]⟩]⟩] ⟨8,bi (isA x [⟨3,3,0,0,0,[]⟩,⟨3,4,0,0,0,[]⟩,⟨3,21,0,0,0,[]⟩,⟨3,22,0,0,0,[]⟩,⟨3,23,0,0,0,[]⟩,⟨3,26,0,0,0,[]⟩]) 1 0,0,0,0,[]⟩)) 1)
 (bi (nbeq (bi (isA x [⟨3,3,0,0,0,[]⟩,⟨3,4,0,0,0,[]⟩,⟨3,21,0,0,0,[]⟩,⟨3,22,0,0,0,[]⟩,⟨3,23,0,0,0,[]⟩,⟨3,26,0,0,0,[]⟩]) 1 0) 1)
 (ansY ⟨3,1,0,0,0,[]⟩)
 (bi (nbeq (bi (nbeq x 19) 1 0) 1)
 (ansY ⟨3,3,0,0,0,[]⟩)
 (ansY ⟨3,2,0,0,0,[]⟩)))
 (zab 301)))
 (zab 301)))
 (ansY ⟨3,18446744073709551615,0,0,0,[]⟩)):=by kernel_rfl
theorem zwn:Tryz.f125.body=some (zad Tryz.f125):=by kernel_rfl
theorem z1D:Tryz.prog.funcs[125]?=some Tryz.f125:=by kernel_rfl
theorem z1E:Tryz.f125.ntmps=16:=by kernel_rfl
theorem z1F:Tryz.f125.results.toList=[.tmp 2]:=by kernel_rfl
theorem zpE:zaU Tryz.prog RE:=zdt mixed (zat (zat (zat (zat (zat (zat (zat (zat (zat (zat (zat (zat zcK)))))))))))) zcz 2
theorem zve:zaU Tryz.prog RF:=zdt mixed (zat (zat (zat (zat (zat (zat zcK)))))) zcz 2
theorem zoC(x:Nat):zac Tryz.prog 125 [i64 x] (i64 (arR x)):=by
  refine zaF mixed globs z1D zwn z1E z1F zpE (fun _=>none) [3] 0 ((s125 _ x).trans ?_)
  have p:=zak.2 (zbo x)
  have q:=zak.2 (zo9 x 1 [3,4,21,22,23,26] (by decide))
  have e:isA x [i64 3,i64 4,i64 21,i64 22,i64 23,i64 26]=isS x [3,4,21,22,23,26]:=rfl
  simp only[i64,bV,mk1] at p e
  rw[e]
  simp only[i64,bV,mk1,slP,List.map_cons,List.map_nil] at q
  rw[p,q]
  unfold arR knN
  simp only[zao,b0,n11,n01,n00,n10,zae,zaj]
  cases nble 9223372036854775809 (biased 3 x)<;>cases nble (biased 3 x) 9223372036854775834<;>cases za3 x<;>cases isS x [3,4,21,22,23,26]<;>cases nbeq x 19<;>rfl
def arT(x:Nat):Nat:=if x=0 ∨ 26<x then 18446744073709551615 else if x=1 ∨ x=2 ∨ x=24 ∨ x=25 then 0 else if x=3 ∨ x=4 ∨ x=21 ∨ x=22 ∨ x=23 ∨ x=26 then 1 else if x=19 then 3 else 2
theorem zr7{x:Nat}(hx:x<2 ^ 64):knN x=decide (1≤x∧x≤26):=by
  unfold knN
  rw[zbN,zbN,zej,Bool.eq_iff_iff,zaw,decide_eq_true_eq,decide_eq_true_eq,decide_eq_true_eq]
  omega
theorem zr8(x:Nat):za3 x=decide (x=1 ∨ x=2 ∨ x=24 ∨ x=25):=by
  unfold za3 isS
  simp only[List.any_cons,List.any_nil,zaH,Bool.or_false]
  rw[Bool.eq_iff_iff]
  simp only[Bool.or_eq_true,decide_eq_true_eq]
  omega
theorem zwo(x:Nat):isS x [3,4,21,22,23,26]=decide (x=3 ∨ x=4 ∨ x=21 ∨ x=22 ∨ x=23 ∨ x=26):=by
  unfold isS
  simp only[List.any_cons,List.any_nil,zaH,Bool.or_false]
  rw[Bool.eq_iff_iff]
  simp only[Bool.or_eq_true,decide_eq_true_eq]
  omega
theorem zni{x:Nat}(hx:x<2 ^ 64):arR x=arT x:=by
  unfold arR arT
  rw[zr7 hx,zr8,zwo,zaH]
  simp only[zm7,decide_eq_true_eq]
  by_cases h:1≤x∧x≤26
  · rw[if_pos h,if_neg (show ¬ (x=0 ∨ 26<x) by omega)]
  · rw[if_neg h,if_pos (show x=0 ∨ 26<x by omega)]
theorem zim(x:Nat):arN x=arT x:=by
  by_cases h:x≤26
  · have:∀ x,x≤26→arN x=arT x:=by
      intro x hx
      rcases (by omega:x=0 ∨ x=1 ∨ x=2 ∨ x=3 ∨ x=4 ∨ x=5 ∨ x=6 ∨ x=7 ∨ x=8 ∨ x=9 ∨ x=10 ∨ x=11 ∨ x=12 ∨ x=13 ∨ x=14 ∨ x=15 ∨ x=16 ∨ x=17 ∨ x=18 ∨ x=19 ∨ x=20 ∨ x=21 ∨ x=22 ∨ x=23 ∨ x=24 ∨ x=25 ∨ x=26) with rfl | rfl | rfl | rfl | rfl | rfl | rfl | rfl | rfl | rfl | rfl | rfl | rfl | rfl | rfl | rfl | rfl | rfl | rfl | rfl | rfl | rfl | rfl | rfl | rfl | rfl | rfl<;>rfl
    exact this x h
  · have hk:∀ k,k<27→nbeq x k=false:=fun k hk=>zam.2 (by omega)
    unfold arN arT
    rw[if_pos (by omega)]
    simp only[hk 1 (by decide),hk 2 (by decide),hk 3 (by decide),hk 4 (by decide),hk 5 (by decide),hk 6 (by decide),hk 7 (by decide),hk 8 (by decide),hk 9 (by decide),hk 10 (by decide),hk 11 (by decide),hk 12 (by decide),hk 13 (by decide),hk 14 (by decide),hk 15 (by decide),hk 16 (by decide),hk 17 (by decide),hk 18 (by decide),hk 19 (by decide),hk 20 (by decide),hk 21 (by decide),hk 22 (by decide),hk 23 (by decide),hk 24 (by decide),hk 25 (by decide),hk 26 (by decide),zaj]
noncomputable def wdP(op w v:Nat)(ws:List Nat):Nat × Nat :=
  if op=0 ∨ 26<op ∨ ws.length ≠ arT op then (0,4) else if ws.all (fun a=>decide (a≤64))=false then (0,3) else
  match ws with
  | []=>(if lfP op w v=true then (w,0) else (0,3))
  | [a]=>if op=21 ∨ op=22 ∨ op=23 then (if rsP op w v a=true then (w,0) else (0,3)) else (a,0)
  | [a,b]=>if op=20 then (if 1≤a∧1≤b∧a+b≤64 then (a+b,0) else (0,3)) else if a=b then (if op=16 ∨ op=17 ∨ op=18 then (1,0) else (a,0)) else (0,3)
  | [a,b,c]=>if a=1∧b=c then (b,0) else (0,3)
  | _=>(0,4)
end Go.Eng
namespace Go.Eng
open Go.RowKit Go.Proofs
theorem s14(J:Jmp)(to tw tv tq tn tp d n:Nat)(tl:List AV):(zaB Tryz.prog 15 (fun _=>none) (finY Tryz.prog [.cell 6 26,.tmp 7] [26, 4]) J [] (zad Tryz.f14) (finY Tryz.prog [.cell 6 26,.tmp 7] [26, 4]) []).run RF (zar 0 [tmV to tw tv tq tn tp tl,i64 d,i64 n] noFr) (zaf Tryz.prog) =
  (bi (nbeq (okN (zac Tryz.prog 37 [(aggV [(i64 to),(i64 tw),(u64 tv),(stA tq tn),(slP tp 5 tl)]),(i64 d),(i64 n)] (i64 (cntN (unTm (aggV [(i64 to),(i64 tw),(u64 tv),(stA tq tn),(slP tp 5 tl)])) d n)))) 1)
 (bi (nbeq (bi (nb (nble 9223372036854775808 (biased 3 (cntN (unTm (aggV [(i64 to),(i64 tw),(u64 tv),(stA tq tn),(slP tp 5 tl)])) d n)))) 1 0) 1)
 (ansY ⟨16,0,0,0,0,[(aggV [(i64 0),(i64 0),(u64 0),(stA 0 0),(slP 0 5 [])]),⟨8,0,0,0,0,[]⟩]⟩)
 (ansY ⟨16,0,0,0,0,[(aggV [(i64 to),(i64 tw),(u64 tv),(stA tq tn),(slP tp 5 tl)]),⟨8,1,0,0,0,[]⟩]⟩))
 (zab 301)):=by kernel_rfl
theorem s5(J:Jmp)(k ao aw av aq an ap bo bw bv bq bn bp:Nat)(al bl:List AV):(zaB Tryz.prog 23 (fun _=>none) (finY Tryz.prog [.tmp 2] [4]) J [] (zad Tryz.f5) (finY Tryz.prog [.tmp 2] [4]) []).run RF (zar 0 [aggV [i64 k,i64 ao,i64 aw,u64 av,stA aq an,slP ap 5 al,i64 bo,i64 bw,u64 bv,stA bq bn,slP bp 5 bl]] noFr) (zaf Tryz.prog) =
  (bi (nbeq (okN (zac Tryz.prog 14 [(aggV [(i64 ao),(i64 aw),(u64 av),(stA aq an),(slP ap 5 al)]),(i64 12),(i64 20)] ⟨16,0,0,0,0,[(aggV [(i64 ((zci (unTm (aggV [(i64 ao),(i64 aw),(u64 av),(stA aq an),(slP ap 5 al)])) 12 20).op)),(i64 ((zci (unTm (aggV [(i64 ao),(i64 aw),(u64 av),(stA aq an),(slP ap 5 al)])) 12 20).w)),(u64 ((zci (unTm (aggV [(i64 ao),(i64 aw),(u64 av),(stA aq an),(slP ap 5 al)])) 12 20).v)),(stA ((zci (unTm (aggV [(i64 ao),(i64 aw),(u64 av),(stA aq an),(slP ap 5 al)])) 12 20).nq) ((zci (unTm (aggV [(i64 ao),(i64 aw),(u64 av),(stA aq an),(slP ap 5 al)])) 12 20).np)),(slP ((zci (unTm (aggV [(i64 ao),(i64 aw),(u64 av),(stA aq an),(slP ap 5 al)])) 12 20).p) 5 (List.map tmA (zci (unTm (aggV [(i64 ao),(i64 aw),(u64 av),(stA aq an),(slP ap 5 al)])) 12 20).as))]),⟨8,bi (zb2 (unTm (aggV [(i64 ao),(i64 aw),(u64 av),(stA aq an),(slP ap 5 al)])) 12 20) 1 0,0,0,0,[]⟩]⟩)) 1)
 (bi (nbeq (okN (zac Tryz.prog 14 [(aggV [(i64 bo),(i64 bw),(u64 bv),(stA bq bn),(slP bp 5 bl)]),(i64 12),(i64 20)] ⟨16,0,0,0,0,[(aggV [(i64 ((zci (unTm (aggV [(i64 bo),(i64 bw),(u64 bv),(stA bq bn),(slP bp 5 bl)])) 12 20).op)),(i64 ((zci (unTm (aggV [(i64 bo),(i64 bw),(u64 bv),(stA bq bn),(slP bp 5 bl)])) 12 20).w)),(u64 ((zci (unTm (aggV [(i64 bo),(i64 bw),(u64 bv),(stA bq bn),(slP bp 5 bl)])) 12 20).v)),(stA ((zci (unTm (aggV [(i64 bo),(i64 bw),(u64 bv),(stA bq bn),(slP bp 5 bl)])) 12 20).nq) ((zci (unTm (aggV [(i64 bo),(i64 bw),(u64 bv),(stA bq bn),(slP bp 5 bl)])) 12 20).np)),(slP ((zci (unTm (aggV [(i64 bo),(i64 bw),(u64 bv),(stA bq bn),(slP bp 5 bl)])) 12 20).p) 5 (List.map tmA (zci (unTm (aggV [(i64 bo),(i64 bw),(u64 bv),(stA bq bn),(slP bp 5 bl)])) 12 20).as))]),⟨8,bi (zb2 (unTm (aggV [(i64 bo),(i64 bw),(u64 bv),(stA bq bn),(slP bp 5 bl)])) 12 20) 1 0,0,0,0,[]⟩]⟩)) 1)
 (bi (nbeq (bi (zb2 (unTm (aggV [(i64 ao),(i64 aw),(u64 av),(stA aq an),(slP ap 5 al)])) 12 20) 1 0) 1)
 (ansY ⟨8,bi (zb2 (unTm (aggV [(i64 bo),(i64 bw),(u64 bv),(stA bq bn),(slP bp 5 bl)])) 12 20) 1 0,0,0,0,[]⟩)
 (ansY ⟨8,0,0,0,0,[]⟩))
 (zab 301))
 (zab 301)):=by kernel_rfl
theorem zy8:Tryz.f14.body=some (zad Tryz.f14):=by kernel_rfl
theorem fn14:Tryz.prog.funcs[14]?=some Tryz.f14:=by kernel_rfl
theorem nt14:Tryz.f14.ntmps=15:=by kernel_rfl
theorem rs14:Tryz.f14.results.toList=[.cell 6 26,.tmp 7]:=by kernel_rfl
theorem z1G:Tryz.f5.body=some (zad Tryz.f5):=by kernel_rfl
theorem fn5:Tryz.prog.funcs[5]?=some Tryz.f5:=by kernel_rfl
theorem nt5:Tryz.f5.ntmps=23:=by kernel_rfl
theorem rs5:Tryz.f5.results.toList=[.tmp 2]:=by kernel_rfl
abbrev zkh(t:Tm):Prop:=t.All fun _ _ _ _ _ _ l=>l.length<2 ^ 63
theorem zvf(t:Tm):tmA t=tmV t.op t.w t.v t.nq t.np t.p (t.as.map tmA):=(ztm t).symm
theorem ztK{t:Tm}{d n:Nat}(hn:n<2 ^ 62):nble 9223372036854775808 (biased 3 (cntN t d n))=zb2 t d n:=by
  unfold cntN zb2
  cases h:cnt t d n with
  | none=>decide +kernel
  | some k =>
    have:=znh t d n k h
    simp only
    rw[zcm (by omega)]
    exact zbh (by omega)
theorem zr9(t:Tm)(d n:Nat)(hd:d<2 ^ 62)(hn:n<2 ^ 62)(hall:zkh t):zac Tryz.prog 14 [tmA t,i64 d,i64 n] (tupV [tmA (zci t d n),bV (zb2 t d n)]):=by
  have q:=zak.2 (zy7 t d n hd hn hall)
  have e:zac Tryz.prog 14 [tmV t.op t.w t.v t.nq t.np t.p (t.as.map tmA),i64 d,i64 n] (tupV [tmA (zci t d n),bV (zb2 t d n)]):=by
    refine zaF mixed globs fn14 zy8 nt14 rs14 zve (fun _=>none) [26, 4] 0 ((s14 _ t.op t.w t.v t.nq t.np t.p d n _).trans ?_)
    simp only[zaE,zaL,zd6,zbe,zd7,zec,zaZ,zao,b0,n11,n01,n00,n10,zae,zaj,q,ztK hn]
    unfold zb2 zci
    cases cnt t d n with
    | none=>rw[zvf];rfl
    | some k=>simp only[nb_t,zaj];rfl
  rw[← zvf] at e
  exact e
noncomputable def gdA(k:Nat)(a b:Tm):AV:=aggV [i64 k,i64 a.op,i64 a.w,u64 a.v,stA a.nq a.np,slP a.p 5 (a.as.map tmA),i64 b.op,i64 b.w,u64 b.v,stA b.nq b.np,slP b.p 5 (b.as.map tmA)]
theorem z1H(k:Nat)(a b:Tm)(ha:zkh a)(hb:zkh b):zac Tryz.prog 5 [gdA k a b] (bV (zb2 a 12 20 && zb2 b 12 20)):=by
  have q:=zak.2 (zr9 a 12 20 (by decide) (by decide) ha)
  have q2:=zak.2 (zr9 b 12 20 (by decide) (by decide) hb)
  unfold gdA
  refine zaF mixed globs fn5 z1G nt5 rs5 zve (fun _=>none) [4] 0 ((s5 _ k a.op a.w a.v a.nq a.np a.p b.op b.w b.v b.nq b.np b.p _ _).trans ?_)
  simp only[tupV,bV,mk1] at q q2
  simp only[zaE,zaL,zd6,zbe,zd7,zec,zaZ,zao,b0,n11,n01,n00,n10,zae,zaj,q,q2]
  cases zb2 a 12 20<;>cases zb2 b 12 20<;>rfl
theorem zvg(t:Tm):tmV t.op t.w t.v t.nq t.np t.p (t.as.map tmA)=tmA t:=ztm t
theorem zrA(op w v nq np p:Nat)(l:List AV):aggV [i64 op,i64 w,u64 v,stA nq np,slP p 5 l]=tmV op w v nq np p l:=rfl
end Go.Eng
