/- A part of the proof that the evaluator in GnC, and the driver in GnZ, answer as the model does; no conditions. -/
import Derived.Test.YtfmoohdaimlggaaGreatDoorGnJb
namespace Go.Eng
open Go.RowKit Go.Proofs
set_option maxRecDepth 4000
theorem s118(J:Jmp)(to tw tv tq tn tp:Nat)(tl:List AV):(zaB Tryz.prog 102 zdf (finY Tryz.prog [.tmp 4] [32]) J [] (zad Tryz.f118) (finY Tryz.prog [.tmp 4] [32]) []).run RJ (zar 0 [tmV to tw tv tq tn tp tl,bV false] noFr) (zaf Tryz.prog) =
  (bi (nbeq (okN (zac PT 132 [(i64 to)] (i64 (arN to)))) 1)
 (bi (nbeq (bi (nb (nble 9223372036854775808 (biased 3 (arN to)))) 1 0) 0)
 (bi (nbeq (bi (nbeq to 1) 1 0) 0)
 (bi (nbeq (bi (nbeq to 26) 1 0) 1)
 (J [1,0,0,1,1] [(mk1 8 0),⟨16,0,0,1,0,[(i64 to),(i64 tw),(u64 tv),(stA tq tn),⟨24,tp,0,5,0,tl⟩]⟩,(i64 (arN to)),(mk1 8 1)])
 (J [1,0,0,1,1] [(mk1 8 0),⟨16,0,0,1,0,[(i64 to),(i64 tw),(u64 tv),(stA tq tn),⟨24,tp,0,5,0,tl⟩]⟩,(i64 (arN to)),(mk1 8 (bi (nb (nbeq (lenL tl) (arN to))) 1 0))]))
 (J [1,0,0,1,1] [(mk1 8 0),⟨16,0,0,1,0,[(i64 to),(i64 tw),(u64 tv),(stA tq tn),⟨24,tp,0,5,0,tl⟩]⟩,(i64 (arN to)),(mk1 8 1)]))
 (J [1,0,0,1,1] [(mk1 8 0),⟨16,0,0,1,0,[(i64 to),(i64 tw),(u64 tv),(stA tq tn),⟨24,tp,0,5,0,tl⟩]⟩,(i64 (arN to)),(mk1 8 1)]))
 (zab 301)):=by kernel_rfl
theorem z2C(J:Jmp)(to tw tv tq tn tp m:Nat)(c:Bool)(tl:List AV):lblY Tryz.prog 102 zdf (zaf Tryz.prog) RJ (finY Tryz.prog [.tmp 4] [32]) (zad Tryz.f118) J [1,0,0,1,1] [bV false,bxD [i64 to,i64 tw,u64 tv,stA tq tn,slP tp 5 tl],i64 m,bV c] =
  (bi (nbeq (bi c 1 0) 1)
 (ansY (i64 4))
 (bi (nbeq (bi (nb (bi (nbeq tq 0) (nbeq tn 0) false)) 1 0) 1)
 (bi (nbeq (okN (zac PT 56 [(i64 to)] (mk1 8 (bi (bi (nbeq to 24) true (nbeq to 25)) 1 0)))) 1)
 (bi (nbeq (Nat.sub 1 (bi (bi (nbeq to 24) true (nbeq to 25)) 1 0)) 0)
 (bi (nbeq (bi (nb (nbeq tv 0)) 1 0) 1)
 (bi (nbeq (bi (nb (nbeq to 2)) 1 0) 1)
 (J [1,1,1,0,0,1,1] [(mk1 8 0),⟨16,0,0,1,0,[(i64 to),(i64 tw),(u64 tv),(stA tq tn),⟨24,tp,0,5,0,tl⟩]⟩,(mk1 8 (bi (nb (nbeq to 21)) 1 0))])
 (J [1,1,1,0,0,1,1] [(mk1 8 0),⟨16,0,0,1,0,[(i64 to),(i64 tw),(u64 tv),(stA tq tn),⟨24,tp,0,5,0,tl⟩]⟩,(mk1 8 0)]))
 (J [1,1,1,0,0,1,1] [(mk1 8 0),⟨16,0,0,1,0,[(i64 to),(i64 tw),(u64 tv),(stA tq tn),⟨24,tp,0,5,0,tl⟩]⟩,(mk1 8 0)]))
 (J [1,1,1,0,0,1,1] [(mk1 8 0),⟨16,0,0,1,0,[(i64 to),(i64 tw),(u64 tv),(stA tq tn),⟨24,tp,0,5,0,tl⟩]⟩,(mk1 8 1)]))
 (zab 301))
 (bi (nbeq (bi (nb (nbeq tv 0)) 1 0) 1)
 (bi (nbeq (bi (nb (nbeq to 2)) 1 0) 1)
 (J [1,1,1,0,0,1,1] [(mk1 8 0),⟨16,0,0,1,0,[(i64 to),(i64 tw),(u64 tv),(stA tq tn),⟨24,tp,0,5,0,tl⟩]⟩,(mk1 8 (bi (nb (nbeq to 21)) 1 0))])
 (J [1,1,1,0,0,1,1] [(mk1 8 0),⟨16,0,0,1,0,[(i64 to),(i64 tw),(u64 tv),(stA tq tn),⟨24,tp,0,5,0,tl⟩]⟩,(mk1 8 0)]))
 (J [1,1,1,0,0,1,1] [(mk1 8 0),⟨16,0,0,1,0,[(i64 to),(i64 tw),(u64 tv),(stA tq tn),⟨24,tp,0,5,0,tl⟩]⟩,(mk1 8 0)])))):=by kernel_rfl
theorem z2D(J:Jmp)(to tw tv tq tn tp:Nat)(c:Bool)(tl:List AV):lblY Tryz.prog 102 zdf (zaf Tryz.prog) RJ (finY Tryz.prog [.tmp 4] [32]) (zad Tryz.f118) J [1,1,1,0,0,1,1] [bV false,bxD [i64 to,i64 tw,u64 tv,stA tq tn,slP tp 5 tl],bV c] =
  (bi (nbeq (bi c 1 0) 1)
 (ansY (i64 4))
 (bi (nbeq (okN (zac PT 56 [(i64 to)] (mk1 8 (bi (bi (nbeq to 24) true (nbeq to 25)) 1 0)))) 1)
 (bi (nbeq (bi (bi (nbeq to 24) true (nbeq to 25)) 1 0) 1)
 (bi (nbeq (okN (zac PT 162 [(stA tq tn)] (mk1 8 (bi (zcc tq tn) 1 0)))) 1)
 (J [1,1,1,1,1,0,0,1,1] [(mk1 8 0),⟨16,0,0,1,0,[(i64 to),(i64 tw),(u64 tv),(stA tq tn),⟨24,tp,0,5,0,tl⟩]⟩,(mk1 8 (Nat.sub 1 (bi (zcc tq tn) 1 0)))])
 (zab 301))
 (J [1,1,1,1,1,0,0,1,1] [(mk1 8 0),⟨16,0,0,1,0,[(i64 to),(i64 tw),(u64 tv),(stA tq tn),⟨24,tp,0,5,0,tl⟩]⟩,(mk1 8 0)]))
 (zab 301))):=by kernel_rfl
theorem z2E(J:Jmp)(to tw tv tq tn tp:Nat)(c:Bool)(tl:List AV):lblY Tryz.prog 102 zdf (zaf Tryz.prog) RJ (finY Tryz.prog [.tmp 4] [32]) (zad Tryz.f118) J [1,1,1,1,1,0,0,1,1] [bV false,bxD [i64 to,i64 tw,u64 tv,stA tq tn,slP tp 5 tl],bV c] =
  (bi (nbeq (bi c 1 0) 1)
 (ansY (i64 5))
 (J [1,1,1] [(mk1 8 0),⟨16,0,0,1,0,[(i64 to),(i64 tw),(u64 tv),(stA tq tn),⟨24,tp,0,5,0,tl⟩]⟩])):=by kernel_rfl
theorem z2F(J:Jmp)(to tw tv tq tn tp:Nat)(tl:List AV):lblY Tryz.prog 102 zdf (zaf Tryz.prog) RJ (finY Tryz.prog [.tmp 4] [32]) (zad Tryz.f118) J [1,1,1] [bV false,bxD [i64 to,i64 tw,u64 tv,stA tq tn,slP tp 5 tl]] =
  (bi (nbeq (okN (zac PT 181 [⟨24,tp,0,5,0,tl⟩] ⟨24,bi (nbeq (lenL tl) 0) 0 1,0,1,0,zcw tl⟩)) 1)
 (bi (eqA 1000 (u64 tv) (u64 tv))
 (bi (eqA 1000 (i64 tw) (i64 tw))
 (bi (eqA 1000 (i64 to) (i64 to))
 (bi (nbeq (okN (zac PT 69 [(i64 to),(i64 tw),(u64 tv),⟨24,bi (nbeq (lenL tl) 0) 0 1,0,1,0,zcw tl⟩] (tupV [(i64 (zgu to tw tv (zcw tl))),(i64 (zee to tw tv (zcw tl)))]))) 1)
 (bi (eqA 1000 (i64 (zee to tw tv (zcw tl))) (i64 (zee to tw tv (zcw tl))))
 (bi (nbeq (bi (nb (nbeq (zee to tw tv (zcw tl)) 0)) 1 0) 0)
 (bi (nbeq (bi (nb (nbeq (zgu to tw tv (zcw tl)) tw)) 1 0) 1)
 (ansY (i64 3))
 (J [1,1,1,1,1] [⟨16,0,0,1,0,[(i64 to),(i64 tw),(u64 tv),(stA tq tn),⟨24,tp,0,5,0,tl⟩]⟩]))
 (ansY (i64 3)))
 (zab 90))
 (zab 301))
 (zab 90))
 (zab 90))
 (zab 90))
 (zab 301)):=by kernel_rfl
theorem z2G(J:Jmp)(to tw tv tq tn tp:Nat)(tl:List AV):lblY Tryz.prog 102 zdf (zaf Tryz.prog) RJ (finY Tryz.prog [.tmp 4] [32]) (zad Tryz.f118) J [1,1,1,1,1] [bxD [i64 to,i64 tw,u64 tv,stA tq tn,slP tp 5 tl]] =
  (bi (nbeq (bi (nbeq to 26) 1 0) 1)
 (bi (nble (Nat.succ 0) (lenL tl))
 (bi (bi (zax 3 (nthL (bi (nbeq (nthL [nthL tl 0] 0).1 15) (nthL [nthL tl 0] 0).6 [nthL [nthL tl 0] 0]) 0)) (bi (zax 3 (nthL (bi (nbeq (nthL [nthL tl 0] 0).1 15) (nthL [nthL tl 0] 0).6 [nthL [nthL tl 0] 0]) (Nat.succ 0))) (bi (zax 7 (nthL (bi (nbeq (nthL [nthL tl 0] 0).1 15) (nthL [nthL tl 0] 0).6 [nthL [nthL tl 0] 0]) (Nat.succ 0).succ)) (bi (zax 9 (nthL (bi (nbeq (nthL [nthL tl 0] 0).1 15) (nthL [nthL tl 0] 0).6 [nthL [nthL tl 0] 0]) (Nat.succ 0).succ.succ)) (bi (zax 37 (nthL (bi (nbeq (nthL [nthL tl 0] 0).1 15) (nthL [nthL tl 0] 0).6 [nthL [nthL tl 0] 0]) (Nat.succ 0).succ.succ.succ)) true false) false) false) false) false)
 (zab 300)
 (zab 201))
 (zab 205))
 (ansY (i64 0))):=by kernel_rfl
theorem s54(J:Jmp)(to tw tv tq tn tp:Nat)(tl:List AV):(zaB Tryz.prog 25 zmC (finY Tryz.prog [.tmp 4] [32]) J [] (zad Tryz.f54) (finY Tryz.prog [.tmp 4] [32]) []).run RJ (zar 0 [tmV to tw tv tq tn tp tl,bV false] noFr) (zaf Tryz.prog) =
  (J [0,0,1,0,1] [(mk1 8 0),⟨16,0,0,1,0,[(i64 to),(i64 tw),(u64 tv),(stA tq tn),⟨24,tp,0,5,0,tl⟩]⟩,⟨24,tp,0,5,0,tl⟩,(i64 (lenL tl)),(i64 0)]):=by kernel_rfl
theorem l54(J:Jmp)(to tw tv tq tn tp lp n i:Nat)(tl ll:List AV):lblY Tryz.prog 25 zmC (zaf Tryz.prog) RJ (finY Tryz.prog [.tmp 4] [32]) (zad Tryz.f54) J [0,0,1,0,1] [bV false,bxD [i64 to,i64 tw,u64 tv,stA tq tn,slP tp 5 tl],slP lp 5 ll,i64 n,i64 i] =
  (bi (nbeq (bi (nb (nble (biased 3 n) (biased 3 i))) 1 0) 1)
 (bi (nble i.succ (lenL ll))
 (bi (bi (zax 3 (nthL (bi (nbeq (nthL [nthL ll i] 0).1 15) (nthL [nthL ll i] 0).6 [nthL [nthL ll i] 0]) 0)) (bi (zax 3 (nthL (bi (nbeq (nthL [nthL ll i] 0).1 15) (nthL [nthL ll i] 0).6 [nthL [nthL ll i] 0]) (Nat.succ 0))) (bi (zax 7 (nthL (bi (nbeq (nthL [nthL ll i] 0).1 15) (nthL [nthL ll i] 0).6 [nthL [nthL ll i] 0]) (Nat.succ 0).succ)) (bi (zax 9 (nthL (bi (nbeq (nthL [nthL ll i] 0).1 15) (nthL [nthL ll i] 0).6 [nthL [nthL ll i] 0]) (Nat.succ 0).succ.succ)) (bi (zax 37 (nthL (bi (nbeq (nthL [nthL ll i] 0).1 15) (nthL [nthL ll i] 0).6 [nthL [nthL ll i] 0]) (Nat.succ 0).succ.succ.succ)) true false) false) false) false) false)
 (bi (nbeq (okN (zac PT 54 [⟨15,0,0,0,0,[(i64 ((nthL (bi (nbeq (nthL [nthL ll i] 0).1 15) (nthL [nthL ll i] 0).6 [nthL [nthL ll i] 0]) 0).2)),(i64 ((nthL (bi (nbeq (nthL [nthL ll i] 0).1 15) (nthL [nthL ll i] 0).6 [nthL [nthL ll i] 0]) (Nat.succ 0)).2)),(u64 ((nthL (bi (nbeq (nthL [nthL ll i] 0).1 15) (nthL [nthL ll i] 0).6 [nthL [nthL ll i] 0]) (Nat.succ 0).succ).2)),(stA ((nthL (bi (nbeq (nthL [nthL ll i] 0).1 15) (nthL [nthL ll i] 0).6 [nthL [nthL ll i] 0]) (Nat.succ 0).succ.succ).3) ((nthL (bi (nbeq (nthL [nthL ll i] 0).1 15) (nthL [nthL ll i] 0).6 [nthL [nthL ll i] 0]) (Nat.succ 0).succ.succ).2)),⟨24,(nthL (bi (nbeq (nthL [nthL ll i] 0).1 15) (nthL [nthL ll i] 0).6 [nthL [nthL ll i] 0]) (Nat.succ 0).succ.succ.succ).2,0,5,0,(nthL (bi (nbeq (nthL [nthL ll i] 0).1 15) (nthL [nthL ll i] 0).6 [nthL [nthL ll i] 0]) (Nat.succ 0).succ.succ.succ).6⟩]⟩,(mk1 8 0)] ⟨3,zbA ⟨15,0,0,0,0,[(i64 ((nthL (bi (nbeq (nthL [nthL ll i] 0).1 15) (nthL [nthL ll i] 0).6 [nthL [nthL ll i] 0]) 0).2)),(i64 ((nthL (bi (nbeq (nthL [nthL ll i] 0).1 15) (nthL [nthL ll i] 0).6 [nthL [nthL ll i] 0]) (Nat.succ 0)).2)),(u64 ((nthL (bi (nbeq (nthL [nthL ll i] 0).1 15) (nthL [nthL ll i] 0).6 [nthL [nthL ll i] 0]) (Nat.succ 0).succ).2)),(stA ((nthL (bi (nbeq (nthL [nthL ll i] 0).1 15) (nthL [nthL ll i] 0).6 [nthL [nthL ll i] 0]) (Nat.succ 0).succ.succ).3) ((nthL (bi (nbeq (nthL [nthL ll i] 0).1 15) (nthL [nthL ll i] 0).6 [nthL [nthL ll i] 0]) (Nat.succ 0).succ.succ).2)),⟨24,(nthL (bi (nbeq (nthL [nthL ll i] 0).1 15) (nthL [nthL ll i] 0).6 [nthL [nthL ll i] 0]) (Nat.succ 0).succ.succ.succ).2,0,5,0,(nthL (bi (nbeq (nthL [nthL ll i] 0).1 15) (nthL [nthL ll i] 0).6 [nthL [nthL ll i] 0]) (Nat.succ 0).succ.succ.succ).6⟩]⟩,0,0,0,[]⟩)) 1)
 (bi (nbeq (bi (nb (nbeq (zbA ⟨15,0,0,0,0,[(i64 ((nthL (bi (nbeq (nthL [nthL ll i] 0).1 15) (nthL [nthL ll i] 0).6 [nthL [nthL ll i] 0]) 0).2)),(i64 ((nthL (bi (nbeq (nthL [nthL ll i] 0).1 15) (nthL [nthL ll i] 0).6 [nthL [nthL ll i] 0]) (Nat.succ 0)).2)),(u64 ((nthL (bi (nbeq (nthL [nthL ll i] 0).1 15) (nthL [nthL ll i] 0).6 [nthL [nthL ll i] 0]) (Nat.succ 0).succ).2)),(stA ((nthL (bi (nbeq (nthL [nthL ll i] 0).1 15) (nthL [nthL ll i] 0).6 [nthL [nthL ll i] 0]) (Nat.succ 0).succ.succ).3) ((nthL (bi (nbeq (nthL [nthL ll i] 0).1 15) (nthL [nthL ll i] 0).6 [nthL [nthL ll i] 0]) (Nat.succ 0).succ.succ).2)),⟨24,(nthL (bi (nbeq (nthL [nthL ll i] 0).1 15) (nthL [nthL ll i] 0).6 [nthL [nthL ll i] 0]) (Nat.succ 0).succ.succ.succ).2,0,5,0,(nthL (bi (nbeq (nthL [nthL ll i] 0).1 15) (nthL [nthL ll i] 0).6 [nthL [nthL ll i] 0]) (Nat.succ 0).succ.succ.succ).6⟩]⟩) 0)) 1 0) 1)
 (ansY ⟨3,zbA ⟨15,0,0,0,0,[(i64 ((nthL (bi (nbeq (nthL [nthL ll i] 0).1 15) (nthL [nthL ll i] 0).6 [nthL [nthL ll i] 0]) 0).2)),(i64 ((nthL (bi (nbeq (nthL [nthL ll i] 0).1 15) (nthL [nthL ll i] 0).6 [nthL [nthL ll i] 0]) (Nat.succ 0)).2)),(u64 ((nthL (bi (nbeq (nthL [nthL ll i] 0).1 15) (nthL [nthL ll i] 0).6 [nthL [nthL ll i] 0]) (Nat.succ 0).succ).2)),(stA ((nthL (bi (nbeq (nthL [nthL ll i] 0).1 15) (nthL [nthL ll i] 0).6 [nthL [nthL ll i] 0]) (Nat.succ 0).succ.succ).3) ((nthL (bi (nbeq (nthL [nthL ll i] 0).1 15) (nthL [nthL ll i] 0).6 [nthL [nthL ll i] 0]) (Nat.succ 0).succ.succ).2)),⟨24,(nthL (bi (nbeq (nthL [nthL ll i] 0).1 15) (nthL [nthL ll i] 0).6 [nthL [nthL ll i] 0]) (Nat.succ 0).succ.succ.succ).2,0,5,0,(nthL (bi (nbeq (nthL [nthL ll i] 0).1 15) (nthL [nthL ll i] 0).6 [nthL [nthL ll i] 0]) (Nat.succ 0).succ.succ.succ).6⟩]⟩,0,0,0,[]⟩)
 (J [0,0,1,0,1] [(mk1 8 0),⟨16,0,0,1,0,[(i64 to),(i64 tw),(u64 tv),(stA tq tn),⟨24,tp,0,5,0,tl⟩]⟩,⟨24,lp,0,5,0,ll⟩,(i64 n),(i64 (zaR i 1))]))
 (zab 301))
 (zab 201))
 (zab 205))
 (bi (nbeq (okN (zac PT 118 [⟨15,0,0,0,0,[(i64 to),(i64 tw),(u64 tv),(stA tq tn),⟨24,tp,0,5,0,tl⟩]⟩,(mk1 8 0)] ⟨3,zc6 ⟨15,0,0,0,0,[(i64 to),(i64 tw),(u64 tv),(stA tq tn),⟨24,tp,0,5,0,tl⟩]⟩,0,0,0,[]⟩)) 1)
 (ansY ⟨3,zc6 ⟨15,0,0,0,0,[(i64 to),(i64 tw),(u64 tv),(stA tq tn),⟨24,tp,0,5,0,tl⟩]⟩,0,0,0,[]⟩)
 (zab 301))):=by kernel_rfl
theorem zw3:Tryz.f118.body=some (zad Tryz.f118):=by kernel_rfl
theorem z2H:Tryz.prog.funcs[118]?=some Tryz.f118:=by kernel_rfl
theorem z2I:Tryz.f118.ntmps=102:=by kernel_rfl
theorem z2J:Tryz.f118.results.toList=[.tmp 4]:=by kernel_rfl
theorem zzo:Tryz.f54.body=some (zad Tryz.f54):=by kernel_rfl
theorem fn54:Tryz.prog.funcs[54]?=some Tryz.f54:=by kernel_rfl
theorem nt54:Tryz.f54.ntmps=25:=by kernel_rfl
theorem rs54:Tryz.f54.results.toList=[.tmp 4]:=by kernel_rfl
theorem bS0(c:Bool){α:Type}(x y:α):bi (nbeq (Nat.sub 1 (bi c 1 0)) 0) x y=bi c x y:=by cases c<;>rfl
theorem not1(c:Bool):mk1 8 (Nat.sub 1 (bi c 1 0))=bV (!c):=by cases c<;>rfl
theorem bf8:mk1 8 0=bV false:=rfl
theorem bt8:mk1 8 1=bV true:=rfl
theorem b8(c:Bool):mk1 8 (bi c 1 0)=bV c:=rfl
noncomputable def ndA(op n:Nat):Bool:=decide (arT op=18446744073709551615 ∨ op=1 ∨ op=26 ∨ n ≠ arT op)
noncomputable def ndB(op v nq np:Nat):Bool:=decide (((nq ≠ 0 ∨ np ≠ 0)∧varB op=false) ∨ (v ≠ 0∧op ≠ 2∧op ≠ 21))
noncomputable def ndC(op nq np:Nat):Bool:=decide (varB op=true∧zcc nq np=false)
noncomputable def ndD(op w v:Nat)(ws:List Nat):Bool:=decide ((wdP op w v ws).2 ≠ 0 ∨ (wdP op w v ws).1 ≠ w)
theorem znl(op w v nq np p:Nat)(X:List Tm):zdk (.mk op w v nq np p X)=bi (ndA op X.length) 4 (bi (ndB op v nq np) 4 (bi (ndC op nq np) 5 (bi (ndD op w v (X.map Tm.w)) 3 0))):=by
  rw[zdk];unfold ndA ndB ndC ndD
  simp only[zm7,decide_eq_true_eq]
theorem q56(op:Nat):okN (zac PT 56 [i64 op] (bV (varB op)))=1:=zak.2 (zrK op)
theorem q162(q n:Nat)(h:q<2 ^ 62):okN (zac PT 162 [stA q n] (bV (zcc q n)))=1:=zak.2 (zw1 q n h)
theorem zgY(op:Nat):(bi (nbeq op 24) true (nbeq op 25))=varB op:=rfl
theorem a118(J:Jmp)(op w v nq np p:Nat)(X:List Tm)(m:Nat)(c:Bool):lblY Tryz.prog 102 zdf (zaf Tryz.prog) RJ (finY Tryz.prog [.tmp 4] [32]) (zad Tryz.f118) J [1,0,0,1,1] [bV false,bxD [i64 op,i64 w,u64 v,stA nq np,slP p 5 (X.map tmA)],i64 m,bV c]=bi c (ansY (i64 4)) (J [1,1,1,0,0,1,1] [bV false,bxD [i64 op,i64 w,u64 v,stA nq np,slP p 5 (X.map tmA)],bV (ndB op v nq np)]):=by
  rw[z2C]
  simp only[zao,bS0,q56,n11,zae,zgY,zbe,zd1,bf8,bt8,b8]
  simp only[zaH]
  unfold ndB
  cases c
  · rw[zaj,zaj]
    cases varB op<;>by_cases h1:nq=0<;>by_cases h2:np=0<;>by_cases h3:v=0<;>by_cases h4:op=2<;>by_cases h5:op=21<;>simp only[h1,h2,h3,h4,h5,show ¬ (21:Nat)=2 by decide,decide_true,decide_false,nb_t,nb_f,zae,zaj,ne_eq,not_true_eq_false,not_false_eq_true,and_true,true_and,and_false,false_and,or_true,true_or,or_false,false_or,Bool.true_eq_false,Bool.false_eq_true,and_self,or_self]
  · rfl
theorem b118(J:Jmp)(op w v nq np p:Nat)(X:List Tm)(c:Bool)(hq:nq<2 ^ 62):lblY Tryz.prog 102 zdf (zaf Tryz.prog) RJ (finY Tryz.prog [.tmp 4] [32]) (zad Tryz.f118) J [1,1,1,0,0,1,1] [bV false,bxD [i64 op,i64 w,u64 v,stA nq np,slP p 5 (X.map tmA)],bV c]=bi c (ansY (i64 4)) (J [1,1,1,1,1,0,0,1,1] [bV false,bxD [i64 op,i64 w,u64 v,stA nq np,slP p 5 (X.map tmA)],bV (ndC op nq np)]):=by
  rw[z2D]
  simp only[zao,bS0,q56,q162 nq np hq,n11,zae,zgY,zbe,zd1,bf8,not1,b8]
  unfold ndC
  cases c
  · rw[zaj,zaj]
    cases varB op<;>cases zcc nq np<;>rfl
  · rfl
theorem c118(J:Jmp)(op w v nq np p:Nat)(X:List Tm)(c:Bool):lblY Tryz.prog 102 zdf (zaf Tryz.prog) RJ (finY Tryz.prog [.tmp 4] [32]) (zad Tryz.f118) J [1,1,1,1,1,0,0,1,1] [bV false,bxD [i64 op,i64 w,u64 v,stA nq np,slP p 5 (X.map tmA)],bV c]=bi c (ansY (i64 5)) (J [1,1,1] [bV false,bxD [i64 op,i64 w,u64 v,stA nq np,slP p 5 (X.map tmA)]]):=by
  rw[z2E]
  simp only[zao,zbe,zd1,bf8]
theorem zv2(X:List Tm):zcw (X.map tmA)=(X.map Tm.w).map i64:=by
  unfold zcw;rw[List.map_map,List.map_map]
  exact List.map_congr_left fun t _=>by cases t;rw[Function.comp_apply,zaP];rfl
theorem zv3(op w v:Nat)(ws:List Nat):zgu op w v (ws.map i64)=(wdP op w v ws).1:=by
  unfold zgu;rw[List.map_map,show (AV.p ∘ i64)=id from rfl,List.map_id]
theorem zv4(op w v:Nat)(ws:List Nat):zee op w v (ws.map i64)=(wdP op w v ws).2:=by
  unfold zee;rw[List.map_map,show (AV.p ∘ i64)=id from rfl,List.map_id]
theorem zpT(n:Nat):eqA 1000 (i64 n) (i64 n)=true:=zcv 999 _ _ _ _ _ _ fun c hc=>by cases hc
theorem zv5(n:Nat):eqA 1000 (u64 n) (u64 n)=true:=zcv 999 _ _ _ _ _ _ fun c hc=>by cases hc
theorem d118(J:Jmp)(op w v nq np p:Nat)(X:List Tm)(ho:op<2 ^ 64)(hw:w<2 ^ 64)(hv:v<2 ^ 64)(hX:X.length≤1000)(hws:∀ t ∈ X,t.w<2 ^ 64):lblY Tryz.prog 102 zdf (zaf Tryz.prog) RJ (finY Tryz.prog [.tmp 4] [32]) (zad Tryz.f118) J [1,1,1] [bV false,bxD [i64 op,i64 w,u64 v,stA nq np,slP p 5 (X.map tmA)]]=bi (ndD op w v (X.map Tm.w)) (ansY (i64 3)) (J [1,1,1,1,1] [bxD [i64 op,i64 w,u64 v,stA nq np,slP p 5 (X.map tmA)]]):=by
  have q1:=zak.2 (zwc p X hX)
  have e0:(if X.length=0 then 0 else 1)=bi (decide (X.length=0)) 0 1:=by rw[zm7];simp only[decide_eq_true_eq]
  have e1:(X.map fun t=>i64 t.w)=(X.map Tm.w).map i64:=by rw[List.map_map];rfl
  rw[e0,e1] at q1
  have q2:=zak.2 (z00 (lp:=bi (decide (X.length=0)) 0 1) ho hw hv (ws:=X.map Tm.w) (fun a ha=>by obtain⟨t,ht,rfl⟩:=List.mem_map.1 ha;exact hws t ht))
  unfold wv at q2
  rw[z2F]
  simp only[zau,zv2,zv3,zv4,zbe,zd1,zaH X.length 0,q1,q2,n11,zae,zpT,zv5,bf8,zao,b0]
  unfold ndD
  simp only[zaH]
  by_cases h1:(wdP op w v (X.map Tm.w)).2=0<;>by_cases h2:(wdP op w v (X.map Tm.w)).1=w<;>simp only[h1,h2,decide_true,decide_false,nb_t,nb_f,zae,zaj,ne_eq,not_true_eq_false,not_false_eq_true,or_true,true_or,or_self]
theorem e118(J:Jmp)(op w v nq np p:Nat)(X:List Tm)(h:op ≠ 26):lblY Tryz.prog 102 zdf (zaf Tryz.prog) RJ (finY Tryz.prog [.tmp 4] [32]) (zad Tryz.f118) J [1,1,1,1,1] [bxD [i64 op,i64 w,u64 v,stA nq np,slP p 5 (X.map tmA)]]=ansY (i64 0):=by
  rw[z2G,zaH op 26,decide_eq_false h,zao,zaj]
theorem zrL(x:Nat):nble 9223372036854775808 (biased 3 (arN x))=decide (arT x ≠ 18446744073709551615):=by
  rw[zim,zbN,decide_eq_decide]
  have:arT x=18446744073709551615 ∨ arT x<2 ^ 63:=by
    unfold arT
    split
    · exact .inl rfl
    · right;repeat' split
      all_goals omega
  rcases this with h | h
  · rw[h];constructor
    · intro h2;exact absurd h2 (by decide +kernel)
    · intro h2;exact absurd rfl h2
  · rw[zcm h];constructor<;>intro _<;>omega
theorem zw4(op w v nq np p:Nat)(X:List Tm)(ho:op<2 ^ 64)(hw:w<2 ^ 64)(hv:v<2 ^ 64)(hq:nq<2 ^ 62)(hX:X.length≤1000)(hws:∀ t ∈ X,t.w<2 ^ 64):zac Tryz.prog 118 [tmA (.mk op w v nq np p X),bV false] (i64 (zdk (.mk op w v nq np p X))):=by
  rw[zaP,znl]
  refine zaF mixed globs z2H zw3 z2I z2J zbQ zdf [32] 5 ((s118 _ op w v nq np p (X.map tmA)).trans ?_)
  have q:=zak.2 (zoA op)
  rw[q,n11,zae,zrL,zim,zau]
  have fin:∀ c:Bool,(c=false→op ≠ 26)→jmpN Tryz.prog 102 zdf (zaf Tryz.prog) RJ (finY Tryz.prog [.tmp 4] [32]) (zad Tryz.f118) 5 [1,0,0,1,1] [bV false,bxD [i64 op,i64 w,u64 v,stA nq np,slP p 5 (X.map tmA)],i64 (arT op),bV c]=bi c (ansY (i64 4)) (bi (ndB op v nq np) (ansY (i64 4)) (bi (ndC op nq np) (ansY (i64 5)) (bi (ndD op w v (X.map Tm.w)) (ansY (i64 3)) (ansY (i64 0))))):=by
    intro c hc
    rw[zal,a118]
    cases c
    · rw[zaj,zaj,zal,b118 _ _ _ _ _ _ _ _ _ hq]
      cases ndB op v nq np
      · rw[zaj,zaj,zal,c118]
        cases ndC op nq np
        · rw[zaj,zaj,zal,d118 _ _ _ _ _ _ _ _ ho hw hv hX hws]
          cases ndD op w v (X.map Tm.w)
          · rw[zaj,zaj,zal,e118 _ _ _ _ _ _ _ _ (hc rfl)]
          · rw[zae,zae]
        · rw[zae,zae]
      · rw[zae,zae]
    · rw[zae,zae]
  have hA:∀ Z:RL,bi (ndA op X.length) (ansY (i64 4)) Z=bi (bi (decide (arT op ≠ 18446744073709551615)) (bi (nbeq op 1) true (bi (nbeq op 26) true (nb (nbeq X.length (arT op))))) true) (ansY (i64 4)) Z:=by
    intro Z
    unfold ndA
    rw[zaH,zaH,zaH]
    by_cases h1:arT op=18446744073709551615
    · rw[decide_eq_true (.inl h1),decide_eq_false (fun h=>h h1)];rfl
    · by_cases h2:op=1
      · rw[decide_eq_true (.inr (.inl h2)),decide_eq_true h1,decide_eq_true h2];rfl
      · by_cases h3:op=26
        · rw[decide_eq_true (.inr (.inr (.inl h3))),decide_eq_true h1,decide_eq_false h2,decide_eq_true h3];rfl
        · by_cases h4:X.length=arT op
          · rw[decide_eq_false (fun h=>by rcases h with h | h | h | h;exact h1 h;exact h2 h;exact h3 h;exact h h4),decide_eq_true h1,decide_eq_false h2,decide_eq_false h3,decide_eq_true h4];rfl
          · rw[decide_eq_true (.inr (.inr (.inr h4))),decide_eq_true h1,decide_eq_false h2,decide_eq_false h3,decide_eq_false h4];rfl
  have hR:ansY (i64 (bi (ndA op X.length) 4 (bi (ndB op v nq np) 4 (bi (ndC op nq np) 5 (bi (ndD op w v (X.map Tm.w)) 3 0)))))=bi (ndA op X.length) (ansY (i64 4)) (bi (ndB op v nq np) (ansY (i64 4)) (bi (ndC op nq np) (ansY (i64 5)) (bi (ndD op w v (X.map Tm.w)) (ansY (i64 3)) (ansY (i64 0))))):=by
    rw[zgV,zgV,zgV,zgV,zil,zil,zil,zil]
  rw[hR,hA]
  have ft:=fin true (fun h=>by cases h)
  rw[zae] at ft
  have ff:=fin (nb (nbeq X.length (arT op)))
  simp only[b0,zao,zbe,zd1,bf8,bt8,b8]
  cases decide (arT op ≠ 18446744073709551615)
  · simp only[nb_t,nb_f,zaj,zae];exact ft
  · cases nbeq op 1
    · cases h3:nbeq op 26
      · simp only[nb_t,nb_f,zaj,zae]
        refine ff (fun _ h=>?_)
        rw[zaH,decide_eq_false_iff_not] at h3;exact h3 h
      · simp only[nb_t,nb_f,zaj,zae];exact ft
    · simp only[nb_t,nb_f,zaj,zae];exact ft
end Go.Eng
namespace Go.Eng
open Go.RowKit Go.Proofs
set_option maxRecDepth 4000
def NdQ(op w v nq _ _:Nat)(l:List Tm):Prop:=op<2 ^ 64∧w<2 ^ 64∧v<2 ^ 64∧nq<2 ^ 62∧l.length≤1000
theorem zms(a b:List Tm):zbz (a++b)=if zbz a=0 then zbz b else zbz a:=by
  induction a with
  | nil=>rw[List.nil_append,zbz,if_pos rfl]
  | cons x a ih =>
    rw[List.cons_append,zbz,zbz,ih]
    by_cases h:zdk x=0
    · rw[if_pos h,if_pos h]
    · rw[if_neg h,if_neg h,if_neg h]
theorem zzp:∀ t:Tm,t.All NdQ→zac Tryz.prog 54 [tmA t,bV false] (i64 (zbA (tmA t))):=by
  intro t
  induction t using Tm.ind with
  | h op w v nq np p X ih =>
  intro hall
  obtain⟨⟨ho,hw,hv,hq,hX⟩,hall⟩:NdQ op w v nq np p X∧∀ t ∈ X,t.All NdQ:=by
    cases hall with | mk h1 h2=>exact⟨h1,h2⟩
  have hws:∀ t ∈ X,t.w<2 ^ 64:=fun t ht=>by
    have:=hall t ht
    cases this with | mk h1 _=>exact h1.2.1
  have q0:=zak.2 (zw4 op w v nq np p X ho hw hv hq hX hws)
  have eT:zc6 (tmA (.mk op w v nq np p X))=zdk (.mk op w v nq np p X):=by unfold zc6;rw[zaZ]
  have e0:zbA (tmA (.mk op w v nq np p X))=zbz (poTs X++[.mk op w v nq np p X]):=by unfold zbA;rw[zaZ,poT]
  rw[e0]
  have h:=zd0 (n:=X.length) (L:=fun k i=>jmpN Tryz.prog 25 zmC (zaf Tryz.prog) RJ (finY Tryz.prog [.tmp 4] [32]) (zad Tryz.f54) k [0,0,1,0,1] [bV false,bxD [i64 op,i64 w,u64 v,stA nq np,slP p 5 (X.map tmA)],slP p 5 (X.map tmA),i64 X.length,i64 i]) (A:=fun i=>ansY (i64 (zbz (poTs (X.drop i)++[.mk op w v nq np p X])))) (fun k=>?_) (fun k i hi ih2=>?_) X.length 0 (by omega)
  · rw[zaP]
    refine zaF mixed globs fn54 zzo nt54 rs54 zbQ zmC [32] (X.length+1) ((s54 _ op w v nq np p (X.map tmA)).trans ?_)
    rw[zau]
    exact h
  · show jmpN _ _ _ _ _ _ _ (k+1) _ _=_
    rw[zaP] at q0 eT
    rw[zal,l54,ctr (by omega) (by omega),if_neg (by omega),List.drop_length,poTs,List.nil_append,zbz,zbz]
    simp only[zbe,zd7,zrA,zaE,eT]
    have q0:okN (zac PT 118 [tmV op w v nq np p (X.map tmA),mk1 8 0] (i64 (zdk (.mk op w v nq np p X))))=1:=q0
    rw[q0,n11,zae]
    by_cases h0:zdk (.mk op w v nq np p X)=0
    · rw[if_pos h0,h0]
    · rw[if_neg h0]
  · show jmpN _ _ _ _ _ _ _ (k+1) _ _=_
    have q:=zak.2 (ih X[i] (List.getElem_mem hi) (hall _ (List.getElem_mem hi)))
    have e1:zbA (tmA X[i])=zbz (poT X[i]):=by unfold zbA;rw[zaZ]
    rw[e1] at q
    have q:okN (zac PT 54 [tmA X[i],mk1 8 0] (i64 (zbz (poT X[i]))))=1:=q
    rw[zal,l54,ctr (by omega) (by omega),if_pos hi,zau,zbh (show i.succ≤X.length from hi),zae,zca tmA X i hi]
    simp only[nth1,zcZ,n5_0,n5_1,n5_2,n5_3,n5_4,tg_i,tg_u,tg_s,tg_l,zcQ,zh5,zdI,zdJ,zh6,zfM,zaE,zaL,zd6,zbe,zd7,zd1,zf1,zec,e1]
    rw[List.drop_eq_getElem_cons hi,poTs,List.append_assoc,zms]
    simp only[q,n11,zae,zao,zcf (show i<2 ^ 63 by omega)]
    rw[zaH]
    by_cases h0:zbz (poT X[i])=0
    · rw[if_pos h0,decide_eq_true h0,nb_t,zaj];exact ih2
    · rw[if_neg h0,decide_eq_false h0,nb_f,zae]
end Go.Eng
namespace Go.Eng
open Go.RowKit Go.Proofs
set_option maxRecDepth 4000
theorem s64(J:Jmp)(to tw tv tq tn tp:Nat)(tl:List AV):(zaB Tryz.prog 115 zdL (finY Tryz.prog [.tmp 4] [32]) J [] (zad Tryz.f64) (finY Tryz.prog [.tmp 4] [32]) []).run RJ (zar 0 [tmV to tw tv tq tn tp tl,bV false] noFr) (zaf Tryz.prog) =
  (bi (nbeq (okN (zac PT 125 [(i64 to)] (i64 (arR to)))) 1)
 (bi (nbeq (bi (nb (nble 9223372036854775808 (biased 3 (arR to)))) 1 0) 1)
 (J [1,0,1] [(mk1 8 0),⟨16,0,0,1,0,[(i64 to),(i64 tw),(u64 tv),(stA tq tn),⟨24,tp,0,5,0,tl⟩]⟩,(mk1 8 1)])
 (bi (nbeq (bi (nb (nble 9223372036854775808 (biased 3 (arR to)))) 1 0) 0)
 (bi (nbeq (bi (nbeq to 1) 1 0) 1)
 (J [1,0,1] [(mk1 8 0),⟨16,0,0,1,0,[(i64 to),(i64 tw),(u64 tv),(stA tq tn),⟨24,tp,0,5,0,tl⟩]⟩,(mk1 8 1)])
 (bi (nbeq (bi (nbeq to 1) 1 0) 0)
 (bi (nbeq (bi (nbeq to 26) 1 0) 1)
 (J [1,0,1] [(mk1 8 0),⟨16,0,0,1,0,[(i64 to),(i64 tw),(u64 tv),(stA tq tn),⟨24,tp,0,5,0,tl⟩]⟩,(mk1 8 1)])
 (bi (nbeq (bi (nbeq to 26) 1 0) 0)
 (bi (nbeq (okN (zac PT 125 [(i64 to)] (i64 (arR to)))) 1)
 (bi (eqA 1000 (mk1 3 (lenL tl)) (mk1 3 (lenL tl)))
 (bi (eqA 1000 (slP tp 5 tl) (slP tp 5 tl))
 (J [1,0,1] [(mk1 8 0),⟨16,0,0,1,0,[(i64 to),(i64 tw),(u64 tv),(stA tq tn),⟨24,tp,0,5,0,tl⟩]⟩,(mk1 8 (bi (nb (nbeq (lenL tl) (arR to))) 1 0))])
 (zab 90)) (zab 90))
 (zab 301))
 (zab 40)))
 (zab 40)))
 (zab 40)))
 (zab 301)):=by kernel_rfl
end Go.Eng
