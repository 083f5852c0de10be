/- A part of the proof that the evaluator in GnC, and the driver in GnZ, answer as the model does; no conditions. -/
import Derived.Test.YtfmoohdaimlggaaGreatDoorGnJe
namespace Go.Eng
open Go.RowKit Go.Proofs
set_option maxRecDepth 4000
theorem l64a(J:Jmp)(to tw tv tq tn tp:Nat)(c:Bool)(tl:List AV):lblY Tryz.prog 115 zdL (zaf Tryz.prog) RJ (finY Tryz.prog [.tmp 4] [32]) (zad Tryz.f64) J [1,0,1] [bV false,bxD [i64 to,i64 tw,u64 tv,stA tq tn,slP tp 5 tl],bV c] =
  (bi (nbeq (bi c 1 0) 1)
 (ansY (i64 4))
 (bi (nbeq (okN (zac PT 126 [(tmV to tw tv tq tn tp tl)] (mk1 8 (bi (bi (nbeq to 24) true (nbeq to 25)) 1 0)))) 1)
 (bi (nbeq (Nat.sub 1 (bi (bi (nbeq to 24) true (nbeq to 25)) 1 0)) 1)
 (bi (nbeq (bi (nb (bi (nbeq tq 0) (nbeq tn 0) false)) 1 0) 0)
 (bi (nbeq (bi (nb (nbeq to 2)) 1 0) 1)
 (bi (nbeq (bi (nb (nbeq to 21)) 1 0) 1)
 (J [1,0,1,1] [(mk1 8 0),(bxD [i64 to,i64 tw,u64 tv,stA tq tn,slP tp 5 tl]),(mk1 8 (bi (nb (nbeq tv 0)) 1 0))])
 (J [1,0,1,1] [(mk1 8 0),(bxD [i64 to,i64 tw,u64 tv,stA tq tn,slP tp 5 tl]),(mk1 8 0)]))
 (J [1,0,1,1] [(mk1 8 0),(bxD [i64 to,i64 tw,u64 tv,stA tq tn,slP tp 5 tl]),(mk1 8 0)]))
 (J [1,0,1,1] [(mk1 8 0),(bxD [i64 to,i64 tw,u64 tv,stA tq tn,slP tp 5 tl]),(mk1 8 1)]))
 (bi (nbeq (bi (nb (nbeq to 2)) 1 0) 1)
 (bi (nbeq (bi (nb (nbeq to 21)) 1 0) 1)
 (J [1,0,1,1] [(mk1 8 0),(bxD [i64 to,i64 tw,u64 tv,stA tq tn,slP tp 5 tl]),(mk1 8 (bi (nb (nbeq tv 0)) 1 0))])
 (J [1,0,1,1] [(mk1 8 0),(bxD [i64 to,i64 tw,u64 tv,stA tq tn,slP tp 5 tl]),(mk1 8 0)]))
 (J [1,0,1,1] [(mk1 8 0),(bxD [i64 to,i64 tw,u64 tv,stA tq tn,slP tp 5 tl]),(mk1 8 0)])))
 (zab 301))):=by kernel_rfl
theorem l64b(J:Jmp)(to tw tv tq tn tp:Nat)(c:Bool)(tl:List AV):lblY Tryz.prog 115 zdL (zaf Tryz.prog) RJ (finY Tryz.prog [.tmp 4] [32]) (zad Tryz.f64) J [1,0,1,1] [bV false,bxD [i64 to,i64 tw,u64 tv,stA tq tn,slP tp 5 tl],bV c] =
  (bi (nbeq (bi c 1 0) 1)
 (ansY (i64 4))
 (bi (nbeq (okN (zac PT 126 [(tmV to tw tv tq tn tp tl)] (mk1 8 (bi (bi (nbeq to 24) true (nbeq to 25)) 1 0)))) 1)
 (bi (nbeq (bi (bi (nbeq to 24) true (nbeq to 25)) 1 0) 1)
 (bi (nbeq (okN (zac PT 127 [(stA tq tn)] (mk1 8 (bi (zcc tq tn) 1 0)))) 1)
 (J [1,0,1,1,1] [(mk1 8 0),(bxD [i64 to,i64 tw,u64 tv,stA tq tn,slP tp 5 tl]),(mk1 8 (Nat.sub 1 (bi (zcc tq tn) 1 0)))])
 (zab 301))
 (J [1,0,1,1,1] [(mk1 8 0),(bxD [i64 to,i64 tw,u64 tv,stA tq tn,slP tp 5 tl]),(mk1 8 0)]))
 (zab 301))):=by kernel_rfl
theorem l64c(J:Jmp)(to tw tv tq tn tp:Nat)(c:Bool)(tl:List AV):lblY Tryz.prog 115 zdL (zaf Tryz.prog) RJ (finY Tryz.prog [.tmp 4] [32]) (zad Tryz.f64) J [1,0,1,1,1] [bV false,bxD [i64 to,i64 tw,u64 tv,stA tq tn,slP tp 5 tl],bV c] =
  (bi (nbeq (bi c 1 0) 1)
 (ansY (i64 5))
 (J [1,1,1,1] [(mk1 8 0),(bxD [i64 to,i64 tw,u64 tv,stA tq tn,slP tp 5 tl])])):=by kernel_rfl
theorem l64d(J:Jmp)(to tw tv tq tn tp:Nat)(tl:List AV):lblY Tryz.prog 115 zdL (zaf Tryz.prog) RJ (finY Tryz.prog [.tmp 4] [32]) (zad Tryz.f64) J [1,1,1,1] [bV false,bxD [i64 to,i64 tw,u64 tv,stA tq tn,slP tp 5 tl]] =
  (bi (nbeq (okN (zac PT 128 [(tmV to tw tv tq tn tp tl)] ⟨24,1,0,1,0,zcw tl⟩)) 1)
 (bi (eqA 1000 (u64 tv) (u64 tv))
 (bi (eqA 1000 (i64 tw) (i64 tw))
 (bi (eqA 1000 (i64 to) (i64 to))
 (bi (nbeq (okN (zac PT 76 [(i64 to),(i64 tw),(u64 tv),⟨24,1,0,1,0,zcw tl⟩] (tupV [(i64 (zgu to tw tv (zcw tl))),(i64 (zee to tw tv (zcw tl)))]))) 1)
 (bi (eqA 1000 (i64 (zee to tw tv (zcw tl))) (i64 (zee to tw tv (zcw tl))))
 (bi (nbeq (bi (nb (nbeq (zee to tw tv (zcw tl)) 0)) 1 0) 0)
 (bi (nbeq (bi (nb (nbeq (zgu to tw tv (zcw tl)) tw)) 1 0) 1)
 (ansY (i64 3))
 (J [1,1,1,1,1,1] [(bxD [i64 to,i64 tw,u64 tv,stA tq tn,slP tp 5 tl])]))
 (ansY (i64 3)))
 (zab 90))
 (zab 301))
 (zab 90))
 (zab 90))
 (zab 90))
 (zab 301)):=by kernel_rfl
theorem l64e(J:Jmp)(to tw tv tq tn tp:Nat)(tl:List AV):lblY Tryz.prog 115 zdL (zaf Tryz.prog) RJ (finY Tryz.prog [.tmp 4] [32]) (zad Tryz.f64) J [1,1,1,1,1,1] [bxD [i64 to,i64 tw,u64 tv,stA tq tn,slP tp 5 tl]] =
  (bi (nbeq (bi (nb (nbeq to 26)) 1 0) 1)
 (ansY (i64 0))
 (bi (nble 1 (lenL tl))
 (bi (tgT tl 0)
 (bi (nbeq (okN (zac PT 63 [(elT tl 0)] ⟨24,1,0,5,0,zdr (elT tl 0)⟩)) 1)
 (zab 240)
 (zab 301))
 (zab 201))
 (zab 205))):=by kernel_rfl
theorem zz7:Tryz.f64.body=some (zad Tryz.f64):=by kernel_rfl
theorem fn64:Tryz.prog.funcs[64]?=some Tryz.f64:=by kernel_rfl
theorem nt64:Tryz.f64.ntmps=115:=by kernel_rfl
theorem rs64:Tryz.f64.results.toList=[.tmp 4]:=by kernel_rfl
theorem q126(op w v nq np p:Nat)(X:List Tm):okN (zac PT 126 [tmV op w v nq np p (X.map tmA)] (bV (varB op)))=1:=by
  have:=zoG (.mk op w v nq np p X)
  rw[zaP] at this
  exact zak.2 this
theorem q127(q n:Nat)(h:q<2 ^ 62):okN (zac PT 127 [stA q n] (bV (zcc q n)))=1:=zak.2 (zw2 q n h)
theorem zz8(cs:List AV):(⟨16,0,0,1,0,cs⟩:AV)=bxD cs:=rfl
theorem a64(J:Jmp)(op w v nq np p:Nat)(X:List Tm)(c:Bool):lblY Tryz.prog 115 zdL (zaf Tryz.prog) RJ (finY Tryz.prog [.tmp 4] [32]) (zad Tryz.f64) J [1,0,1] [bV false,bxD [i64 op,i64 w,u64 v,stA nq np,slP p 5 (X.map tmA)],bV c]=bi c (ansY (i64 4)) (J [1,0,1,1] [bV false,bxD [i64 op,i64 w,u64 v,stA nq np,slP p 5 (X.map tmA)],bV (ndB op v nq np)]):=by
  rw[l64a]
  simp only[zao,b0,bS1,q126,n11,zae,zgY,bf8,bt8,b8]
  simp only[zaH]
  unfold ndB
  cases c
  · rw[zaj,zaj]
    cases varB op<;>by_cases h1:nq=0<;>by_cases h2:np=0<;>by_cases h3:v=0<;>by_cases h4:op=2<;>by_cases h5:op=21<;>simp only[h1,h2,h3,h4,h5,show ¬ (21:Nat)=2 by decide,decide_true,decide_false,nb_t,nb_f,zae,zaj,ne_eq,not_true_eq_false,not_false_eq_true,and_true,true_and,and_false,false_and,or_true,true_or,or_false,false_or,Bool.true_eq_false,Bool.false_eq_true,and_self,or_self]
  · rfl
theorem b64(J:Jmp)(op w v nq np p:Nat)(X:List Tm)(c:Bool)(hq:nq<2 ^ 62):lblY Tryz.prog 115 zdL (zaf Tryz.prog) RJ (finY Tryz.prog [.tmp 4] [32]) (zad Tryz.f64) J [1,0,1,1] [bV false,bxD [i64 op,i64 w,u64 v,stA nq np,slP p 5 (X.map tmA)],bV c]=bi c (ansY (i64 4)) (J [1,0,1,1,1] [bV false,bxD [i64 op,i64 w,u64 v,stA nq np,slP p 5 (X.map tmA)],bV (ndC op nq np)]):=by
  rw[l64b]
  simp only[zao,q126,q127 nq np hq,n11,zae,zgY,bf8,not1,b8]
  unfold ndC
  cases c
  · rw[zaj,zaj]
    cases varB op<;>cases zcc nq np<;>rfl
  · rfl
theorem c64(J:Jmp)(op w v nq np p:Nat)(X:List Tm)(c:Bool):lblY Tryz.prog 115 zdL (zaf Tryz.prog) RJ (finY Tryz.prog [.tmp 4] [32]) (zad Tryz.f64) J [1,0,1,1,1] [bV false,bxD [i64 op,i64 w,u64 v,stA nq np,slP p 5 (X.map tmA)],bV c]=bi c (ansY (i64 5)) (J [1,1,1,1] [bV false,bxD [i64 op,i64 w,u64 v,stA nq np,slP p 5 (X.map tmA)]]):=by
  rw[l64c]
  simp only[zao,bf8]
theorem d64(J:Jmp)(op w v nq np p:Nat)(X:List Tm)(ho:op<2 ^ 64)(hw:w<2 ^ 64)(hv:v<2 ^ 64)(hX:X.length≤1000)(hws:∀ t ∈ X,t.w<2 ^ 64):lblY Tryz.prog 115 zdL (zaf Tryz.prog) RJ (finY Tryz.prog [.tmp 4] [32]) (zad Tryz.f64) J [1,1,1,1] [bV false,bxD [i64 op,i64 w,u64 v,stA nq np,slP p 5 (X.map tmA)]]=bi (ndD op w v (X.map Tm.w)) (ansY (i64 3)) (J [1,1,1,1,1,1] [bxD [i64 op,i64 w,u64 v,stA nq np,slP p 5 (X.map tmA)]]):=by
  have q1:=zak.2 (zwd (.mk op w v nq np p X) hX)
  have e1:((Tm.mk op w v nq np p X).as.map fun t=>i64 t.w)=(X.map Tm.w).map i64:=by rw[List.map_map];rfl
  rw[e1,zaP] at q1
  have q2:=zak.2 (z01 (lp:=1) ho hw hv (ws:=X.map Tm.w) (fun a ha=>by obtain⟨t,ht,rfl⟩:=List.mem_map.1 ha;exact hws t ht))
  unfold wv at q2
  rw[l64d]
  simp only[zv2,zv3,zv4,zbe,q1,q2,n11,zae,zpT,zv5,bf8,zao,b0]
  unfold ndD
  simp only[zaH]
  by_cases h1:(wdP op w v (X.map Tm.w)).2=0<;>by_cases h2:(wdP op w v (X.map Tm.w)).1=w<;>simp only[h1,h2,decide_true,decide_false,nb_t,nb_f,zae,zaj,ne_eq,not_true_eq_false,not_false_eq_true,or_true,true_or,or_self]
theorem e64(J:Jmp)(op w v nq np p:Nat)(X:List Tm)(h:op ≠ 26):lblY Tryz.prog 115 zdL (zaf Tryz.prog) RJ (finY Tryz.prog [.tmp 4] [32]) (zad Tryz.f64) J [1,1,1,1,1,1] [bxD [i64 op,i64 w,u64 v,stA nq np,slP p 5 (X.map tmA)]]=ansY (i64 0):=by
  rw[l64e,zaH op 26,decide_eq_false h,zao,nb_f,zae]
theorem zz9(op w v nq np p:Nat)(X:List Tm)(hsm:∀ t ∈ X,t.Sm 400)(ho:op<2 ^ 64)(hw:w<2 ^ 64)(hv:v<2 ^ 64)(hq:nq<2 ^ 62)(hX:X.length≤1000)(hws:∀ t ∈ X,t.w<2 ^ 64):zac Tryz.prog 64 [tmA (.mk op w v nq np p X),bV false] (i64 (zdk (.mk op w v nq np p X))):=by
  rw[zaP,znl]
  refine zaF mixed globs fn64 zz7 nt64 rs64 zbQ zdL [32] 5 ((s64 _ op w v nq np p (X.map tmA)).trans ?_)
  have q:=zak.2 (zoC op)
  have hpos:nble 9223372036854775808 (biased 3 (arR op))=decide (arT op ≠ 18446744073709551615):=by rw[zni ho,← zim,zrL,zim]
  have ea:∀ n,eqA 1000 (mk1 3 n) (mk1 3 n)=true:=fun n=>zpT n
  have eb:eqA 1000 (slP p 5 (X.map tmA)) (slP p 5 (X.map tmA))=true:=zcv 999 _ _ _ _ _ _ fun c hc=>by
    obtain⟨t,ht,rfl⟩:=List.mem_map.1 hc
    exact zr6 400 t (hsm t ht) 999 (by omega)
  rw[q,n11,zae,hpos,zni ho,zau,ea,eb,zae,zae]
  have fin:∀ c:Bool,(c=false→op ≠ 26)→jmpN Tryz.prog 115 zdL (zaf Tryz.prog) RJ (finY Tryz.prog [.tmp 4] [32]) (zad Tryz.f64) 5 [1,0,1] [bV false,bxD [i64 op,i64 w,u64 v,stA nq np,slP p 5 (X.map tmA)],bV c]=bi c (ansY (i64 4)) (bi (ndB op v nq np) (ansY (i64 4)) (bi (ndC op nq np) (ansY (i64 5)) (bi (ndD op w v (X.map Tm.w)) (ansY (i64 3)) (ansY (i64 0))))):=by
    intro c hc
    rw[zal,a64]
    cases c
    · rw[zaj,zaj,zal,b64 _ _ _ _ _ _ _ _ _ hq]
      cases ndB op v nq np
      · rw[zaj,zaj,zal,c64]
        cases ndC op nq np
        · rw[zaj,zaj,zal,d64 _ _ _ _ _ _ _ _ ho hw hv hX hws]
          cases ndD op w v (X.map Tm.w)
          · rw[zaj,zaj,zal,e64 _ _ _ _ _ _ _ _ (hc rfl)]
          · rw[zae,zae]
        · rw[zae,zae]
      · rw[zae,zae]
    · rw[zae,zae]
  simp only[zao,b0,zz8,zbe,bf8,bt8,b8]
  by_cases h1:arT op=18446744073709551615
  · have e1:ndA op X.length=true:=by unfold ndA;exact decide_eq_true (.inl h1)
    rw[decide_eq_false (fun h=>h h1),e1,zae,nb_f,zae]
    exact (fin true (fun h=>by cases h)).trans rfl
  · rw[decide_eq_true h1,nb_t,zaj,zaj,zaH op 1]
    by_cases h2:op=1
    · have e1:ndA op X.length=true:=by unfold ndA;exact decide_eq_true (.inr (.inl h2))
      rw[decide_eq_true h2,e1,zae,zae]
      exact (fin true (fun h=>by cases h)).trans rfl
    · rw[decide_eq_false h2,zaj,zaj,zaH op 26]
      by_cases h3:op=26
      · have e1:ndA op X.length=true:=by unfold ndA;exact decide_eq_true (.inr (.inr (.inl h3)))
        rw[decide_eq_true h3,e1,zae,zae]
        exact (fin true (fun h=>by cases h)).trans rfl
      · rw[decide_eq_false h3,zaj,zaj,zae,zaH X.length]
        by_cases h4:X.length=arT op
        · have e1:ndA op X.length=false:=by unfold ndA;exact decide_eq_false (fun h=>by rcases h with h | h | h | h;exact h1 h;exact h2 h;exact h3 h;exact h h4)
          rw[decide_eq_true h4,e1,zaj]
          exact (fin false (fun _=>h3)).trans (by rw[zaj];cases ndB op v nq np<;>cases ndC op nq np<;>cases ndD op w v (X.map Tm.w)<;>rfl)
        · have e1:ndA op X.length=true:=by unfold ndA;exact decide_eq_true (.inr (.inr (.inr h4)))
          rw[decide_eq_false h4,e1,zae]
          exact (fin true (fun h=>by cases h)).trans rfl
end Go.Eng
namespace Go.Eng
open Go.RowKit Go.Proofs
set_option maxRecDepth 4000
theorem zkx(vs:List (Nat × Nat × Nat))(i:Nat)(h:i<vs.length):elA (vs.map vbA) i=[stA vs[i].1 vs[i].2.1,i64 vs[i].2.2]:=znm vs i h
theorem n2_0(a b:AV):nthL [a,b] 0=a:=rfl
theorem n2_1(a b:AV):nthL [a,b] 1=b:=rfl
theorem bdd(p q:Prop)[Decidable p][Decidable q]:bi (decide p) (decide q) false=decide (p∧q):=by
  by_cases h:p<;>by_cases h2:q<;>simp[h,h2,zae,zaj]
theorem zrQ(v:Nat × Nat × Nat)(vs:List (Nat × Nat × Nat))(t:Tm):hasV (v::vs) t=(decide (v.1=t.nq∧v.2.1=t.np∧v.2.2=t.w) || hasV vs t):=by
  unfold hasV;rw[List.any_cons]
theorem s67(J:Jmp)(xp to tw tv tq tn tp:Nat)(xl tl:List AV):(zaB Tryz.prog 30 zmD (finY Tryz.prog [.tmp 4] [4]) J [] (zad Tryz.f67) (finY Tryz.prog [.tmp 4] [4]) []).run RJ (zar 0 [slP xp 2 xl,tmV to tw tv tq tn tp tl] noFr) (zaf Tryz.prog) =
  (J [0,0,1,0,1] [(slP xp 2 xl),(bxD [i64 to,i64 tw,u64 tv,stA tq tn,slP tp 5 tl]),(i64 0)]):=by kernel_rfl
theorem l67(J:Jmp)(xp to tw tv tq tn tp i:Nat)(xl tl:List AV):lblY Tryz.prog 30 zmD (zaf Tryz.prog) RJ (finY Tryz.prog [.tmp 4] [4]) (zad Tryz.f67) J [0,0,1,0,1] [slP xp 2 xl,bxD [i64 to,i64 tw,u64 tv,stA tq tn,slP tp 5 tl],i64 i] =
  (bi (nbeq (bi (nb (nble (biased 3 (lenL xl)) (biased 3 i))) 1 0) 1)
 (bi (nble i.succ (lenL xl))
 (bi (bi (zax 9 (nthL (elA xl i) 0)) true false)
 (bi (nbeq (bi (bi (nbeq (nthL (elA xl i) 0).3 tq) (nbeq (nthL (elA xl i) 0).2 tn) false) 1 0) 1)
 (bi (nble i.succ (lenL xl))
 (bi (bi (zax 3 (nthL (elA xl i) 1)) true false)
 (bi (nbeq (bi (nbeq (nthL (elA xl i) 1).2 tw) 1 0) 1)
 (ansY (mk1 8 1))
 (J [0,0,1,0,1] [(slP xp 2 xl),(bxD [i64 to,i64 tw,u64 tv,stA tq tn,slP tp 5 tl]),(i64 (zaR i 1))]))
 (zab 201))
 (zab 205))
 (bi (nbeq (bi (bi (nbeq (nthL (elA xl i) 0).3 tq) (nbeq (nthL (elA xl i) 0).2 tn) false) 1 0) 0)
 (J [0,0,1,0,1] [(slP xp 2 xl),(bxD [i64 to,i64 tw,u64 tv,stA tq tn,slP tp 5 tl]),(i64 (zaR i 1))])
 (zab 40)))
 (zab 201))
 (zab 205))
 (ansY (mk1 8 0))):=by kernel_rfl
theorem zzA:Tryz.f67.body=some (zad Tryz.f67):=by kernel_rfl
theorem fn67:Tryz.prog.funcs[67]?=some Tryz.f67:=by kernel_rfl
theorem nt67:Tryz.f67.ntmps=30:=by kernel_rfl
theorem rs67:Tryz.f67.results.toList=[.tmp 4]:=by kernel_rfl
theorem zrR(vs:List (Nat × Nat × Nat))(p:Nat)(t:Tm)(hl:vs.length<2 ^ 62):zac PT 67 [slP p 2 (vs.map vbA),tmA t] (bV (hasV vs t)):=by
  have he:tmA t=tmV t.op t.w t.v t.nq t.np t.p (t.as.map tmA):=by cases t;rw[zaP];rfl
  rw[he]
  refine zaF mixed globs fn67 zzA nt67 rs67 zbQ zmD [4] (vs.length+1) ((s67 _ p t.op t.w t.v t.nq t.np t.p (vs.map vbA) (t.as.map tmA)).trans ?_)
  refine zd0 (n:=vs.length) (L:=fun k i=>jmpN Tryz.prog 30 zmD (zaf Tryz.prog) RJ (finY Tryz.prog [.tmp 4] [4]) (zad Tryz.f67) k [0,0,1,0,1] [slP p 2 (vs.map vbA),bxD [i64 t.op,i64 t.w,u64 t.v,stA t.nq t.np,slP t.p 5 (t.as.map tmA)],i64 i]) (A:=fun i=>ansY (bV (hasV (vs.drop i) t))) (fun k=>?_) (fun k i hi ih=>?_) vs.length 0 (by omega)
  · show jmpN _ _ _ _ _ _ _ (k+1) _ _=_
    rw[zal,l67,zao,zau,zb9 (by omega) (by omega),decide_eq_false (by omega),zaj,List.drop_length]
    rfl
  · show jmpN _ _ _ _ _ _ _ (k+1) _ _=_
    rw[zal,l67,zao,zau,zb9 (by omega) (by omega),decide_eq_true hi,zae]
    simp only[zbh (show i.succ≤vs.length from hi),zae,zkx vs i hi,n2_0,n2_1,tg_s,tg_i,zdJ,zdI,zcQ,zao,b0,zcf (show i<2 ^ 63 by omega)]
    simp only[zaH,bdd]
    rw[List.drop_eq_getElem_cons hi,zrQ]
    by_cases h1:vs[i].1=t.nq∧vs[i].2.1=t.np
    · rw[decide_eq_true h1,zae]
      by_cases h2:vs[i].2.2=t.w
      · rw[decide_eq_true h2,zae,decide_eq_true ⟨h1.1,h1.2,h2⟩];rfl
      · rw[decide_eq_false h2,zaj,decide_eq_false (fun h=>h2 h.2.2),Bool.false_or];exact ih
    · rw[decide_eq_false h1,zaj,zaj,decide_eq_false (fun h=>h1 ⟨h.1,h.2.1⟩),Bool.false_or];exact ih
theorem s27(J:Jmp)(to tw tv tq tn tp xp yp:Nat)(tl xl yl:List AV):(zaB Tryz.prog 49 zko (finY Tryz.prog [.tmp 6] [4]) J [] (zad Tryz.f27) (finY Tryz.prog [.tmp 6] [4]) []).run RJ (zar 0 [tmV to tw tv tq tn tp tl,slP xp 2 xl,slP yp 2 yl] noFr) (zaf Tryz.prog) =
  (bi (nbeq (okN (zac PT 66 [(tmV to tw tv tq tn tp tl)] ⟨24,1,0,5,0,zbK (tmV to tw tv tq tn tp tl)⟩)) 1)
 (J [0,0,1,0,1,1] [(slP xp 2 xl),(slP yp 2 yl),⟨24,1,0,5,0,zbK (tmV to tw tv tq tn tp tl)⟩,(i64 0)])
 (zab 301)):=by kernel_rfl
theorem l27(J:Jmp)(xp yp lp i:Nat)(xl yl ll:List AV):lblY Tryz.prog 49 zko (zaf Tryz.prog) RJ (finY Tryz.prog [.tmp 6] [4]) (zad Tryz.f27) J [0,0,1,0,1,1] [slP xp 2 xl,slP yp 2 yl,slP lp 5 ll,i64 i] =
  (bi (nbeq (bi (nb (nble (biased 3 (lenL ll)) (biased 3 i))) 1 0) 1)
 (bi (nble i.succ (lenL ll))
 (bi (bi (zax 3 (nthL (elA ll i) 0)) true false)
 (bi (nbeq (bi (nbeq (nthL (elA ll i) 0).2 24) 1 0) 1)
 (bi (nble i.succ (lenL ll))
 (bi (tgT ll i)
 (bi (nbeq (okN (zac PT 67 [(slP xp 2 xl),(elT ll i)] (mk1 8 (bi (zdK xl (elT ll i)) 1 0)))) 1)
 (bi (nbeq (Nat.sub 1 (bi (zdK xl (elT ll i)) 1 0)) 0)
 (bi (nble i.succ (lenL ll))
 (bi (bi (zax 3 (nthL (elA ll i) 0)) true false)
 (bi (nbeq (bi (nbeq (nthL (elA ll i) 0).2 25) 1 0) 1)
 (bi (nble i.succ (lenL ll))
 (bi (tgT ll i)
 (bi (nbeq (okN (zac PT 67 [(slP yp 2 yl),(elT ll i)] (mk1 8 (bi (zdK yl (elT ll i)) 1 0)))) 1)
 (bi (nbeq (Nat.sub 1 (bi (zdK yl (elT ll i)) 1 0)) 1)
 (ansY (mk1 8 0))
 (J [0,0,1,0,1,1] [(slP xp 2 xl),(slP yp 2 yl),(slP lp 5 ll),(i64 (zaR i 1))]))
 (zab 301))
 (zab 201))
 (zab 205))
 (J [0,0,1,0,1,1] [(slP xp 2 xl),(slP yp 2 yl),(slP lp 5 ll),(i64 (zaR i 1))]))
 (zab 201))
 (zab 205))
 (ansY (mk1 8 0)))
 (zab 301))
 (zab 201))
 (zab 205))
 (bi (nble i.succ (lenL ll))
 (bi (bi (zax 3 (nthL (elA ll i) 0)) true false)
 (bi (nbeq (bi (nbeq (nthL (elA ll i) 0).2 25) 1 0) 1)
 (bi (nble i.succ (lenL ll))
 (bi (tgT ll i)
 (bi (nbeq (okN (zac PT 67 [(slP yp 2 yl),(elT ll i)] (mk1 8 (bi (zdK yl (elT ll i)) 1 0)))) 1)
 (bi (nbeq (Nat.sub 1 (bi (zdK yl (elT ll i)) 1 0)) 1)
 (ansY (mk1 8 0))
 (J [0,0,1,0,1,1] [(slP xp 2 xl),(slP yp 2 yl),(slP lp 5 ll),(i64 (zaR i 1))]))
 (zab 301))
 (zab 201))
 (zab 205))
 (J [0,0,1,0,1,1] [(slP xp 2 xl),(slP yp 2 yl),(slP lp 5 ll),(i64 (zaR i 1))]))
 (zab 201))
 (zab 205)))
 (zab 201))
 (zab 205))
 (ansY (mk1 8 1))):=by kernel_rfl
theorem zzB:Tryz.f27.body=some (zad Tryz.f27):=by kernel_rfl
theorem fn27:Tryz.prog.funcs[27]?=some Tryz.f27:=by kernel_rfl
theorem nt27:Tryz.f27.ntmps=49:=by kernel_rfl
theorem rs27:Tryz.f27.results.toList=[.tmp 6]:=by kernel_rfl
noncomputable def bndU(vs us:List (Nat × Nat × Nat))(u:Tm):Bool:=(if u.op=24 then hasV vs u else true) && (if u.op=25 then hasV us u else true)
theorem z2Y(vs:List (Nat × Nat × Nat))(t:Tm):zdK (vs.map vbA) (tmA t)=hasV vs t:=by unfold zdK;rw[zcn,zaZ]
theorem zky(vs us:List (Nat × Nat × Nat))(p p':Nat)(t:Tm)(hl:vs.length<2 ^ 62)(hl':us.length<2 ^ 62)(hs:szT t+1≤90000):zac PT 27 [tmA t,slP p 2 (vs.map vbA),slP p' 2 (us.map vbA)] (bV (zbH t vs us)):=by
  have he:tmA t=tmV t.op t.w t.v t.nq t.np t.p (t.as.map tmA):=by cases t;rw[zaP];rfl
  have hlen:(preT t).length≤90000:=by rw[zco];omega
  have q66:=zak.2 (zz3 t hs)
  have q66':okN (zac PT 66 [tmA t] ⟨24,1,0,5,0,(preT t).map tmA⟩)=1:=q66
  have hst:=s27 (jmpN Tryz.prog 49 zko (zaf Tryz.prog) RJ (finY Tryz.prog [.tmp 6] [4]) (zad Tryz.f27) ((preT t).length+1)) t.op t.w t.v t.nq t.np t.p p p' (t.as.map tmA) (vs.map vbA) (us.map vbA)
  rw[← he] at hst
  refine zaF mixed globs fn27 zzB nt27 rs27 zbQ zko [4] ((preT t).length+1) (hst.trans ?_)
  rw[zmH,q66',n11,zae]
  have h:=zd0 (n:=(preT t).length) (L:=fun k i=>jmpN Tryz.prog 49 zko (zaf Tryz.prog) RJ (finY Tryz.prog [.tmp 6] [4]) (zad Tryz.f27) k [0,0,1,0,1,1] [slP p 2 (vs.map vbA),slP p' 2 (us.map vbA),slP 1 5 ((preT t).map tmA),i64 i]) (A:=fun i=>ansY (bV (((preT t).drop i).all (bndU vs us)))) (fun k=>?_) (fun k i hi ih=>?_) (preT t).length 0 (by omega)
  · exact h
  · show jmpN _ _ _ _ _ _ _ (k+1) _ _=_
    rw[zal,l27,zao,zau,zb9 (by omega) (by omega),decide_eq_false (by omega),zaj,List.drop_length]
    rfl
  · show jmpN _ _ _ _ _ _ _ (k+1) _ _=_
    have qa:=zak.2 (zrR vs p (preT t)[i] hl)
    have qb:=zak.2 (zrR us p' (preT t)[i] hl')
    rw[zal,l27,zao,zau,zb9 (by omega) (by omega),decide_eq_true hi,zae]
    simp only[zbh (show i.succ≤(preT t).length from hi),zae,zdY _ i hi,zdX _ i hi,zfP _ i hi,n5_0,tg_i,zcQ,zao,b0,bS0,bS1,b8,z2Y,qa,qb,n11,zcf (show i<2 ^ 63 by omega)]
    simp only[zaH]
    rw[List.drop_eq_getElem_cons hi,List.all_cons,bndU]
    by_cases h1:(preT t)[i].op=24
    · rw[decide_eq_true h1,zae,if_pos h1]
      have h2:¬ (preT t)[i].op=25:=by omega
      cases hasV vs (preT t)[i]
      · rw[zaj];rfl
      · rw[zae,decide_eq_false h2,zaj,if_neg h2,Bool.true_and,Bool.true_and];exact ih
    · rw[decide_eq_false h1,zaj,if_neg h1]
      by_cases h2:(preT t)[i].op=25
      · rw[decide_eq_true h2,zae,if_pos h2]
        cases hasV us (preT t)[i]
        · rw[zaj];rfl
        · rw[zae,Bool.true_and,Bool.true_and];exact ih
      · rw[decide_eq_false h2,zaj,if_neg h2,Bool.true_and,Bool.true_and];exact ih
end Go.Eng
namespace Go.Eng
open Go.RowKit Go.Proofs
set_option maxRecDepth 4000
theorem s65(J:Jmp)(to tw tv tq tn tp:Nat)(tl:List AV):(zaB Tryz.prog 82 zje (finY Tryz.prog [.tmp 2,.tmp 3] [119,4]) J [] (zad Tryz.f65) (finY Tryz.prog [.tmp 2,.tmp 3] [119,4]) []).run RJ (zar 0 [tmV to tw tv tq tn tp tl] noFr) (zaf Tryz.prog) =
  (bi (nbeq (okN (zac PT 129 [(tmV to tw tv tq tn tp tl)] ⟨24,1,0,5,0,zbK (tmV to tw tv tq tn tp tl)⟩)) 1)
 (J [0,0,1,0,1,1,1] [⟨24,1,0,5,0,zbK (tmV to tw tv tq tn tp tl)⟩,(AV.mk 16 2 0 0 0 []),(i64 0)])
 (zab 301)):=by kernel_rfl
theorem l65(J:Jmp)(lp op i:Nat)(ll ol:List AV):lblY Tryz.prog 82 zje (zaf Tryz.prog) RJ (finY Tryz.prog [.tmp 2,.tmp 3] [119,4]) (zad Tryz.f65) J [0,0,1,0,1,1,1] [slP lp 5 ll,lsD op ol,i64 i] =
  (bi (nbeq (bi (nb (nble (biased 3 (lenL ll)) (biased 3 i))) 1 0) 1)
 (bi (nble i.succ (lenL ll))
 (bi (tgT ll i)
 (bi (nbeq (okN (zac PT 126 [(elT ll i)] (mk1 8 (bi (bi (nbeq (nthL (elA ll i) 0).2 24) true (nbeq (nthL (elA ll i) 0).2 25)) 1 0)))) 1)
 (bi (nbeq (Nat.sub 1 (bi (bi (nbeq (nthL (elA ll i) 0).2 24) true (nbeq (nthL (elA ll i) 0).2 25)) 1 0)) 1)
 (J [0,0,1,0,1,1,1] [(slP lp 5 ll),(lsD op (za4 (lenL ol) ol)),(i64 (zaR i 1))])
 (J [0,0,1,0,1,1,0,0,1,0,0,1,0,1,1,1] [(slP lp 5 ll),(lsD op (za4 (lenL ol) ol)),(i64 i),(mk1 8 0),(i64 0)]))
 (zab 301))
 (zab 201))
 (zab 205))
 (ansY ⟨16,0,0,0,0,[⟨24,bi (nbeq op 0) 0 1,0,1,0,za4 (lenL ol) ol⟩,(mk1 8 1)]⟩)):=by kernel_rfl
theorem l65b(J:Jmp)(lp op i k:Nat)(b:Bool)(ll ol:List AV):lblY Tryz.prog 82 zje (zaf Tryz.prog) RJ (finY Tryz.prog [.tmp 2,.tmp 3] [119,4]) (zad Tryz.f65) J [0,0,1,0,1,1,0,0,1,0,0,1,0,1,1,1] [slP lp 5 ll,lsD op ol,i64 i,bV b,i64 k] =
  (bi (nbeq (bi (nb (nble (biased 3 i) (biased 3 k))) 1 0) 1)
 (bi (nble k.succ (lenL ll))
 (bi (tgT ll k)
 (bi (nbeq (okN (zac PT 126 [(elT ll k)] (mk1 8 (bi (bi (nbeq (nthL (elA ll k) 0).2 24) true (nbeq (nthL (elA ll k) 0).2 25)) 1 0)))) 1)
 (bi (nbeq (bi (bi (nbeq (nthL (elA ll k) 0).2 24) true (nbeq (nthL (elA ll k) 0).2 25)) 1 0) 1)
 (bi (nble k.succ (lenL ll))
 (bi (bi (zax 9 (nthL (elA ll k) 3)) true false)
 (bi (nble i.succ (lenL ll))
 (bi (bi (zax 9 (nthL (elA ll i) 3)) true false)
 (bi (nbeq (bi (bi (nbeq (nthL (elA ll k) 3).3 (nthL (elA ll i) 3).3) (nbeq (nthL (elA ll k) 3).2 (nthL (elA ll i) 3).2) false) 1 0) 1)
 (bi (nble k.succ (lenL ll))
 (bi (bi (zax 3 (nthL (elA ll k) 1)) true false)
 (bi (nble i.succ (lenL ll))
 (bi (bi (zax 3 (nthL (elA ll i) 1)) true false)
 (bi (nbeq (bi (nb (nbeq (nthL (elA ll k) 1).2 (nthL (elA ll i) 1).2)) 1 0) 1)
 (ansY (tupV [(slP 0 1 []),(mk1 8 0)]))
 (bi (nbeq (bi (nb (nbeq (nthL (elA ll k) 1).2 (nthL (elA ll i) 1).2)) 1 0) 0)
 (bi (nble k.succ (lenL ll))
 (bi (bi (zax 3 (nthL (elA ll k) 0)) true false)
 (bi (nble i.succ (lenL ll))
 (bi (bi (zax 3 (nthL (elA ll i) 0)) true false)
 (bi (nbeq (bi (nb (nbeq (nthL (elA ll k) 0).2 (nthL (elA ll i) 0).2)) 1 0) 1)
 (ansY (tupV [(slP 0 1 []),(mk1 8 0)]))
 (J [0,0,1,0,1,1,0,0,1,0,0,1,0,1,1,1] [(slP lp 5 ll),(lsD op (za4 (lenL ol) ol)),(i64 i),(mk1 8 1),(i64 (zaR k 1))]))
 (zab 201))
 (zab 205))
 (zab 201))
 (zab 205))
 (zab 40)))
 (zab 201))
 (zab 205))
 (zab 201))
 (zab 205))
 (J [0,0,1,0,1,1,0,0,1,0,0,1,0,1,1,1] [(slP lp 5 ll),(lsD op (za4 (lenL ol) ol)),(i64 i),(mk1 8 (bi b 1 0)),(i64 (zaR k 1))]))
 (zab 201))
 (zab 205))
 (zab 201))
 (zab 205))
 (bi (nbeq (bi (bi (nbeq (nthL (elA ll k) 0).2 24) true (nbeq (nthL (elA ll k) 0).2 25)) 1 0) 0)
 (J [0,0,1,0,1,1,0,0,1,0,0,1,0,1,1,1] [(slP lp 5 ll),(lsD op (za4 (lenL ol) ol)),(i64 i),(mk1 8 (bi b 1 0)),(i64 (zaR k 1))])
 (zab 40)))
 (zab 301))
 (zab 201))
 (zab 205))
 (bi (nbeq (Nat.sub 1 (bi b 1 0)) 1)
 (bi (nble i.succ (lenL ll))
 (bi (bi (zax 9 (nthL (elA ll i) 3)) true false)
 (bi (nble ((lenL (za4 (lenL ol) ol)).add 1) 100000)
 (J [0,0,1,0,1,1,1] [(slP lp 5 ll),(lsD 1 (za4 ((lenL (za4 (lenL ol) ol)).add 1) (appL (za4 (lenL ol) ol) [(stA ((nthL (elA ll i) 3).3) ((nthL (elA ll i) 3).2))]))),(i64 (zaR i 1))])
 (zab 211))
 (zab 201))
 (zab 205))
 (J [0,0,1,0,1,1,1] [(slP lp 5 ll),(lsD op (za4 (lenL ol) ol)),(i64 (zaR i 1))]))):=by kernel_rfl
theorem zzC:Tryz.f65.body=some (zad Tryz.f65):=by kernel_rfl
theorem fn65:Tryz.prog.funcs[65]?=some Tryz.f65:=by kernel_rfl
theorem nt65:Tryz.f65.ntmps=82:=by kernel_rfl
theorem rs65:Tryz.f65.results.toList=[.tmp 2,.tmp 3]:=by kernel_rfl
def o65:List Nat:=[0,0,1,0,1,1,1]
def i65:List Nat:=[0,0,1,0,1,1,0,0,1,0,0,1,0,1,1,1]
noncomputable def J65(n:Nat):Jmp:=jmpN Tryz.prog 82 zje (zaf Tryz.prog) RJ (finY Tryz.prog [.tmp 2,.tmp 3] [119,4]) (zad Tryz.f65) n
theorem zhF(n:Nat)(q:List Nat)(ds:List AV):J65 (n+1) q ds=lblY Tryz.prog 82 zje (zaf Tryz.prog) RJ (finY Tryz.prog [.tmp 2,.tmp 3] [119,4]) (zad Tryz.f65) (J65 n) q ds:=rfl
noncomputable def nmT(u:Tm):AV:=stA u.nq u.np
noncomputable def sam(u x:Tm):Bool:=varB x.op && decide (x.nq=u.nq∧x.np=u.np)
noncomputable def mis(u x:Tm):Bool:=sam u x && !decide (x.w=u.w∧x.op=u.op)
noncomputable def nilR:RL:=ansY (tupV [slP 0 1 [],bV false])
noncomputable def zmI(m:Nat)(X:List Tm)(u:Tm)(op i:Nat)(acc:List Tm)(b:Bool):RL :=
  bi b (J65 m o65 [slP 1 5 (X.map tmA),lsD op (acc.map nmT),i64 (i+1)]) (J65 m o65 [slP 1 5 (X.map tmA),lsD 1 ((acc++[u]).map nmT),i64 (i+1)])
theorem zvC(t:Tm):okN (zac PT 126 [tmA t] (bV (varB t.op)))=1:=zak.2 (zoG t)
theorem zwE(X:List Tm)(hX:X.length≤90000)(op i:Nat)(hi:i<X.length)(acc:List Tm)(hacc:acc.length≤90000)(m:Nat):∀ (d k:Nat),k+d=i→∀ b:Bool,
    J65 (m+d+1) i65 [slP 1 5 (X.map tmA),lsD op (acc.map nmT),i64 i,bV b,i64 k]=bi (((X.take i).drop k).any (mis X[i])) nilR (zmI m X X[i] op i acc (b || ((X.take i).drop k).any (sam X[i]))):=by
  intro d
  have tk:za4 acc.length (acc.map nmT)=acc.map nmT:=by rw[zbv,List.take_of_length_le (by rw[List.length_map];exact Nat.le_refl _)]
  induction d with
  | zero =>
    intro k hk b
    have hki:k=i:=by omega
    subst hki
    have hd:(X.take k).drop k=[]:=List.drop_of_length_le (by rw[List.length_take];omega)
    rw[hd,List.any_nil,List.any_nil,zaj,Bool.or_false]
    show J65 (m+1) _ _=_
    rw[zhF]
    unfold i65
    rw[l65b,zao,zb9 (by omega) (by omega),decide_eq_false (by omega),zaj]
    simp only[zau,zbh (show k.succ≤X.length from hi),zae,zfP X k hi,n5_3,tg_s,zdJ,zdI,tk,zao,bS1,zcf (show k<2 ^ 63 by omega)]
    rw[zah.2 (show acc.length.add 1≤100000 by show acc.length+1≤100000;omega),zae]
    have e:za4 (acc.length.add 1) (appL (acc.map nmT) [stA X[k].nq X[k].np])=(acc++[X[k]]).map nmT:=by
      rw[zaV,zbv,List.take_of_length_le (by rw[List.length_append,List.length_map,List.length_cons,List.length_nil];exact Nat.le_refl _),List.map_append];rfl
    unfold zmI
    cases b
    · rw[zaj,zaj,← e];rfl
    · rw[zae,zae];rfl
  | succ d ih =>
    intro k hk b
    have hkx:k<X.length:=by omega
    have hd:(X.take i).drop k=X[k]::(X.take i).drop (k+1):=by
      rw[List.drop_eq_getElem_cons (by rw[List.length_take];omega),List.getElem_take]
    rw[hd,List.any_cons,List.any_cons,show m+(d+1)+1=(m+d+1)+1 by omega,zhF]
    unfold i65
    rw[l65b,zao,zb9 (by omega) (by omega),decide_eq_true (by omega),zae]
    have q:=zvC X[k]
    simp only[zau,zbh (show k.succ≤X.length from hkx),zbh (show i.succ≤X.length from hi),zae,zdY X k hkx,zdX X k hkx,zfP X k hkx,zfP X i hi,n5_0,n5_1,n5_3,tg_s,tg_i,zdJ,zdI,zcQ,tk,zgY,b8,q,n11,zao,b0,zcf (show k<2 ^ 63 by omega)]
    simp only[zaH,bdd]
    have ih':=ih (k+1) (by omega)
    unfold i65 at ih'
    have e2:(k:Nat)=k:=rfl
    cases hv:varB X[k].op
    · rw[zaj,zaj,show sam X[i] X[k]=false by unfold sam;rw[hv];rfl,show mis X[i] X[k]=false by unfold mis sam;rw[hv];rfl,Bool.false_or,Bool.false_or]
      exact ih' b
    · rw[zae]
      by_cases h1:X[k].nq=X[i].nq∧X[k].np=X[i].np
      · have hs:sam X[i] X[k]=true:=by unfold sam;rw[hv,decide_eq_true h1];rfl
        rw[decide_eq_true h1,zae,hs,Bool.true_or]
        by_cases h2:X[k].w=X[i].w
        · rw[decide_eq_true h2,nb_t,zaj,zaj]
          by_cases h3:X[k].op=X[i].op
          · have hm:mis X[i] X[k]=false:=by unfold mis;rw[hs,decide_eq_true ⟨h2,h3⟩];rfl
            rw[decide_eq_true h3,nb_t,zaj,hm,Bool.false_or,Bool.or_true]
            have:=ih' true
            rw[Bool.true_or] at this
            exact this
          · have hm:mis X[i] X[k]=true:=by unfold mis;rw[hs,decide_eq_false (fun h=>h3 h.2)];rfl
            rw[decide_eq_false h3,nb_f,zae,hm,Bool.true_or,zae];rfl
        · have hm:mis X[i] X[k]=true:=by unfold mis;rw[hs,decide_eq_false (fun h=>h2 h.1)];rfl
          rw[decide_eq_false h2,nb_f,zae,hm,Bool.true_or,zae];rfl
      · have hs:sam X[i] X[k]=false:=by unfold sam;rw[decide_eq_false h1,Bool.and_false]
        rw[decide_eq_false h1,zaj,hs,show mis X[i] X[k]=false by unfold mis;rw[hs];rfl,Bool.false_or,Bool.false_or]
        exact ih' b
structure NmInv(X:List Tm)(i:Nat)(acc:List Tm):Prop where
  a:∀ x ∈ X.take i,varB x.op=true→∃ o ∈ acc,o.nq=x.nq∧o.np=x.np∧o.op=x.op∧o.w=x.w
  b:∀ o ∈ acc,o ∈ X.take i∧varB o.op=true
  c:∀ o ∈ acc,acc.find? (fun x=>decide (x.nq=o.nq∧x.np=o.np))=some o
theorem NmInv.skip{X:List Tm}{i:Nat}{acc:List Tm}(h:NmInv X i acc)(hi:i<X.length)(hv:varB X[i].op=true→∃ o ∈ acc,o.nq=X[i].nq∧o.np=X[i].np∧o.op=X[i].op∧o.w=X[i].w):NmInv X (i+1) acc:=by
  have ht:X.take (i+1)=X.take i++[X[i]]:=List.take_succ_eq_append_getElem hi
  refine⟨fun x hx hvx=>?_,fun o ho=>?_,h.c⟩
  · rw[ht] at hx
    rcases List.mem_append.1 hx with hx | hx
    · exact h.a x hx hvx
    · rw[List.mem_singleton.1 hx] at hvx ⊢;exact hv hvx
  · rw[ht];exact⟨List.mem_append_left _ (h.b o ho).1,(h.b o ho).2⟩
theorem NmInv.add{X:List Tm}{i:Nat}{acc:List Tm}(h:NmInv X i acc)(hi:i<X.length)(hv:varB X[i].op=true)(hf:acc.find? (fun x=>decide (x.nq=X[i].nq∧x.np=X[i].np))=none):NmInv X (i+1) (acc++[X[i]]):=by
  have ht:X.take (i+1)=X.take i++[X[i]]:=List.take_succ_eq_append_getElem hi
  refine⟨fun x hx hvx=>?_,fun o ho=>?_,fun o ho=>?_⟩
  · rw[ht] at hx
    rcases List.mem_append.1 hx with hx | hx
    · obtain⟨o,h1,h2⟩:=h.a x hx hvx
      exact⟨o,List.mem_append_left _ h1,h2⟩
    · rw[List.mem_singleton.1 hx]
      exact⟨X[i],by simp,rfl,rfl,rfl,rfl⟩
  · rw[ht]
    rcases List.mem_append.1 ho with ho | ho
    · exact⟨List.mem_append_left _ (h.b o ho).1,(h.b o ho).2⟩
    · rw[List.mem_singleton.1 ho];exact⟨List.mem_append_right _ (List.mem_singleton.2 rfl),hv⟩
  · rcases List.mem_append.1 ho with ho | ho
    · rw[List.find?_append,h.c o ho];rfl
    · rw[List.mem_singleton.1 ho,List.find?_append,hf]
      simp
noncomputable def z2Z(o:Option (List Tm)):RL:=match o with | none=>nilR | some l=>ansY (tupV [slP 1 1 (l.map nmT),bV true])
theorem zwF(X:List Tm)(hX:X.length≤90000):∀ (d i:Nat),i+d=X.length→∀ (acc:List Tm) (op:Nat),op ≠ 0→NmInv X i acc→acc.length≤i→∃ n0,∀ k,J65 (k+n0) o65 [slP 1 5 (X.map tmA),lsD op (acc.map nmT),i64 i]=z2Z (nmS acc (X.drop i)):=by
  intro d
  induction d with
  | zero =>
    intro i hi acc op hop hinv hacc
    refine⟨1,fun k=>?_⟩
    rw[zhF]
    unfold o65
    rw[l65,zao,zau,zb9 (by omega) (by omega),decide_eq_false (by omega),zaj,ze6,show i=X.length by omega,List.drop_length,nmS,zam.2 hop,zaj]
    rfl
  | succ d ih =>
    intro i hi acc op hop hinv hacc
    have hlt:i<X.length:=by omega
    rw[List.drop_eq_getElem_cons hlt]
    have q:=zvC X[i]
    have tk:za4 acc.length (acc.map nmT)=acc.map nmT:=by rw[zbv,List.take_of_length_le (by rw[List.length_map];exact Nat.le_refl _)]
    have step:∀ n,J65 (n+1) o65 [slP 1 5 (X.map tmA),lsD op (acc.map nmT),i64 i]=bi (varB X[i].op) (J65 n i65 [slP 1 5 (X.map tmA),lsD op (acc.map nmT),i64 i,bV false,i64 0]) (J65 n o65 [slP 1 5 (X.map tmA),lsD op (acc.map nmT),i64 (i+1)]):=fun n=>by
      rw[zhF]
      unfold o65
      rw[l65,zao,zau,zb9 (by omega) (by omega),decide_eq_true hlt,zae]
      simp only[zbh (show i.succ≤X.length from hlt),zae,zdY X i hlt,zdX X i hlt,zfP X i hlt,n5_0,zcQ,zau,tk,zgY,b8,q,n11,zao,bS1,zcf (show i<2 ^ 63 by omega)]
      rfl
    cases hv:varB X[i].op
    · obtain⟨n0,h0⟩:=ih (i+1) (by omega) acc op hop (hinv.skip hlt (fun h=>by rw[hv] at h;cases h)) (by omega)
      refine⟨n0+1,fun k=>?_⟩
      rw[show k+(n0+1)=(k+n0)+1 by omega,step,hv,zaj,h0,zkw hv]
    · have hinner:=fun n=>zwE X hX op i hlt acc (by omega) n i 0 (by omega) false
      simp only[List.drop_zero,Bool.false_or] at hinner
      cases hm:(X.take i).any (mis X[i])
      · cases hs:(X.take i).any (sam X[i])
        ·
          have hf:acc.find? (fun x=>decide (x.nq=X[i].nq∧x.np=X[i].np))=none:=by
            rw[List.find?_eq_none]
            intro o ho hd
            have hd:=of_decide_eq_true hd
            obtain⟨h1,h2⟩:=hinv.b o ho
            rw[List.any_eq_false] at hs
            apply hs o h1
            unfold sam;rw[h2,decide_eq_true hd];rfl
          obtain⟨n0,h0⟩:=ih (i+1) (by omega) (acc++[X[i]]) 1 (by omega) (hinv.add hlt hv hf) (by rw[List.length_append,List.length_cons,List.length_nil];omega)
          refine⟨n0+i+1+1,fun k=>?_⟩
          rw[show k+(n0+i+1+1)=((k+n0)+i+1)+1 by omega,step,hv,zae,hinner,hm,zaj,hs]
          unfold zmI
          rw[zaj,h0,zfA hv,hf]
        ·
          obtain⟨x,hx,hsx⟩:=List.any_eq_true.1 hs
          have hmx:mis X[i] x=false:=by
            rw[List.any_eq_false] at hm
            cases h:mis X[i] x
            · rfl
            · exact absurd h (hm x hx)
          have hsx':=hsx
          unfold sam at hsx
          rw[Bool.and_eq_true] at hsx
          obtain⟨hx1,hx2⟩:=hsx
          have hx2:=of_decide_eq_true hx2
          have hx3:x.w=X[i].w∧x.op=X[i].op:=by
            unfold mis at hmx
            rw[hsx',Bool.true_and,Bool.not_eq_false'] at hmx
            exact of_decide_eq_true hmx
          obtain⟨o,ho,g1,g2,g3,g4⟩:=hinv.a x hx hx1
          have hf:acc.find? (fun z=>decide (z.nq=X[i].nq∧z.np=X[i].np))=some o:=by
            have:=hinv.c o ho
            rw[g1,g2,hx2.1,hx2.2] at this
            exact this
          obtain⟨n0,h0⟩:=ih (i+1) (by omega) acc op hop (hinv.skip hlt (fun _=>⟨o,ho,g1.trans hx2.1,g2.trans hx2.2,g3.trans hx3.2,g4.trans hx3.1⟩)) (by omega)
          refine⟨n0+i+1+1,fun k=>?_⟩
          rw[show k+(n0+i+1+1)=((k+n0)+i+1)+1 by omega,step,hv,zae,hinner,hm,zaj,hs]
          unfold zmI
          rw[zae,h0,zfA hv,hf]
          simp only
          rw[if_pos ⟨g3.trans hx3.2,g4.trans hx3.1⟩]
      ·
        obtain⟨x,hx,hmx⟩:=List.any_eq_true.1 hm
        unfold mis at hmx
        rw[Bool.and_eq_true] at hmx
        obtain⟨hsx,hne⟩:=hmx
        unfold sam at hsx
        rw[Bool.and_eq_true] at hsx
        obtain⟨hx1,hx2⟩:=hsx
        have hx2:=of_decide_eq_true hx2
        have hne:¬ (x.w=X[i].w∧x.op=X[i].op):=by
          rw[Bool.not_eq_true'] at hne
          exact of_decide_eq_false hne
        obtain⟨o,ho,g1,g2,g3,g4⟩:=hinv.a x hx hx1
        have hf:acc.find? (fun z=>decide (z.nq=X[i].nq∧z.np=X[i].np))=some o:=by
          have:=hinv.c o ho
          rw[g1,g2,hx2.1,hx2.2] at this
          exact this
        refine⟨i+1+1,fun k=>?_⟩
        rw[show k+(i+1+1)=(k+i+1)+1 by omega,step,hv,zae,hinner,hm,zae,zfA hv,hf]
        simp only
        rw[if_neg (fun h=>hne ⟨g4.symm.trans h.2,g3.symm.trans h.1⟩)]
        rfl
theorem zzD(t:Tm)(hs:szT t+1≤90000):zac PT 65 [tmA t] (tupV [slP (bi (zc7 (tmA t)) 1 0) 1 (ze0 (tmA t)),bV (zc7 (tmA t))]):=by
  have he:tmA t=tmV t.op t.w t.v t.nq t.np t.p (t.as.map tmA):=by cases t;rw[zaP];rfl
  have hlen:(preT t).length≤90000:=by rw[zco];omega
  obtain⟨n0,h0⟩:=zwF (preT t) hlen (preT t).length 0 (by omega) [] 2 (by omega) ⟨fun x hx=>by simp at hx,fun o ho=>(by cases ho),fun o ho=>(by cases ho)⟩ (by simp)
  have q:=zak.2 (zwD t hs)
  have q':okN (zac PT 129 [tmA t] ⟨24,1,0,5,0,(preT t).map tmA⟩)=1:=q
  have hst:=s65 (J65 (0+n0)) t.op t.w t.v t.nq t.np t.p (t.as.map tmA)
  rw[← he,zmH,q',n11,zae] at hst
  refine zaF mixed globs fn65 zzC nt65 rs65 zbQ zje [119,4] (0+n0) (hst.trans ?_)
  have h1:=h0 0
  rw[List.drop_zero] at h1
  refine Eq.trans h1 ?_
  unfold zc7 ze0
  rw[zaZ]
  cases nmS [] (preT t) with
  | none=>rfl
  | some l=>rfl
theorem s26(J:Jmp)(to tw tv tq tn tp:Nat)(tl:List AV):(zaB Tryz.prog 44 zkn (finY Tryz.prog [.tmp 4] [32]) J [] (zad Tryz.f26) (finY Tryz.prog [.tmp 4] [32]) []).run RJ (zar 0 [tmV to tw tv tq tn tp tl,bV false] noFr) (zaf Tryz.prog) =
  (bi (nbeq (okN (zac PT 61 [(tmV to tw tv tq tn tp tl),(i64 4096)] (mk1 8 (bi (zd8 (tmV to tw tv tq tn tp tl) 4096) 1 0)))) 1)
 (bi (nbeq (Nat.sub 1 (bi (zd8 (tmV to tw tv tq tn tp tl) 4096) 1 0)) 0)
 (bi (nbeq (okN (zac PT 62 [(tmV to tw tv tq tn tp tl),(i64 64)] (mk1 8 (bi (zdu (tmV to tw tv tq tn tp tl) 64) 1 0)))) 1)
 (bi (nbeq (bi (zdu (tmV to tw tv tq tn tp tl) 64) 1 0) 1)
 (ansY (i64 7))
 (bi (nbeq (okN (zac PT 63 [(tmV to tw tv tq tn tp tl)] ⟨24,1,0,5,0,zdr (tmV to tw tv tq tn tp tl)⟩)) 1)
 (J [0,0,1,0,1,1,1] [(mk1 8 0),(bxD [i64 to,i64 tw,u64 tv,stA tq tn,slP tp 5 tl]),⟨24,1,0,5,0,zdr (tmV to tw tv tq tn tp tl)⟩,(i64 0)])
 (zab 301)))
 (zab 301))
 (ansY (i64 7)))
 (zab 301)):=by kernel_rfl
theorem l26(J:Jmp)(to tw tv tq tn tp lp i:Nat)(tl ll:List AV):lblY Tryz.prog 44 zkn (zaf Tryz.prog) RJ (finY Tryz.prog [.tmp 4] [32]) (zad Tryz.f26) J [0,0,1,0,1,1,1] [bV false,bxD [i64 to,i64 tw,u64 tv,stA tq tn,slP tp 5 tl],slP lp 5 ll,i64 i] =
  (bi (nbeq (bi (nb (nble (biased 3 (lenL ll)) (biased 3 i))) 1 0) 1)
 (bi (nble i.succ (lenL ll))
 (bi (tgT ll i)
 (bi (nbeq (okN (zac PT 64 [(elT ll i),(mk1 8 0)] (i64 (zc6 (elT ll i))))) 1)
 (bi (nbeq (bi (nb (nbeq (zc6 (elT ll i)) 0)) 1 0) 1)
 (ansY (i64 (zc6 (elT ll i))))
 (J [0,0,1,0,1,1,1] [(mk1 8 0),(bxD [i64 to,i64 tw,u64 tv,stA tq tn,slP tp 5 tl]),(slP lp 5 ll),(i64 (zaR i 1))]))
 (zab 301))
 (zab 201))
 (zab 205))
 (bi (nbeq (okN (zac PT 65 [(tmV to tw tv tq tn tp tl)] ⟨16,0,0,0,0,[⟨24,bi (zc7 (tmV to tw tv tq tn tp tl)) 1 0,0,1,0,ze0 (tmV to tw tv tq tn tp tl)⟩,(mk1 8 (bi (zc7 (tmV to tw tv tq tn tp tl)) 1 0))]⟩)) 1)
 (bi (nbeq (Nat.sub 1 (bi (zc7 (tmV to tw tv tq tn tp tl)) 1 0)) 1)
 (ansY (i64 12))
 (bi (nbeq (bi (nb (nble (biased 3 (lenL (ze0 (tmV to tw tv tq tn tp tl)))) 9223372036854775824)) 1 0) 1)
 (ansY (i64 7))
 (ansY (i64 0))))
 (zab 301))):=by kernel_rfl
theorem zzE:Tryz.f26.body=some (zad Tryz.f26):=by kernel_rfl
theorem fn26:Tryz.prog.funcs[26]?=some Tryz.f26:=by kernel_rfl
theorem nt26:Tryz.f26.ntmps=44:=by kernel_rfl
theorem rs26:Tryz.f26.results.toList=[.tmp 4]:=by kernel_rfl
theorem zwG(t:Tm)(hall:t.All NdQ)(hsm:t.Sm 401):zac PT 64 [tmA t,bV false] (i64 (zdk t)):=by
  cases t with
  | mk op w v nq np p X =>
    cases hall with
    | mk h1 h2 =>
      cases hsm with
      | mk g1 g2=>exact zz9 op w v nq np p X g2 h1.1 h1.2.1 h1.2.2.1 h1.2.2.2.1 h1.2.2.2.2 (fun t ht=>by have:=h2 t ht;cases this with | mk k _=>exact k.2.1)
theorem zrS(t:Tm)(hall:∀ u ∈ poT t,u.All NdQ∧u.Sm 401)(hs:szT t≤4096)(hd:dpT t≤64):zac PT 26 [tmA t,bV false] (i64 (chkT t)):=by
  have he:tmA t=tmV t.op t.w t.v t.nq t.np t.p (t.as.map tmA):=by cases t;rw[zaP];rfl
  have hlen:(poT t).length≤4096:=by rw[zhc];omega
  have q61:=zak.2 (zzm t 4096 hs (by omega))
  have q62:=zak.2 (zzn t 64 hd (by omega) (by omega))
  have q63:=zak.2 (zz6 t (by omega))
  have q63':okN (zac PT 63 [tmA t] ⟨24,1,0,5,0,(poT t).map tmA⟩)=1:=q63
  have q65:=zak.2 (zzD t (by omega))
  have e61:zd8 (tmA t) 4096=true:=by unfold zd8;rw[zaZ];exact decide_eq_true hs
  have e62:zdu (tmA t) 64=false:=by unfold zdu;rw[zaZ];exact decide_eq_false (by omega)
  rw[e61] at q61
  rw[e62] at q62
  have hst:=s26 (jmpN Tryz.prog 44 zkn (zaf Tryz.prog) RJ (finY Tryz.prog [.tmp 4] [32]) (zad Tryz.f26) ((poT t).length+1)) t.op t.w t.v t.nq t.np t.p (t.as.map tmA)
  rw[← he,e61,e62,zv9] at hst
  refine zaF mixed globs fn26 zzE nt26 rs26 zbQ zkn [32] ((poT t).length+1) (hst.trans ?_)
  have q61':okN (zac PT 61 [tmA t,i64 4096] (mk1 8 (bi true 1 0)))=1:=q61
  have q62':okN (zac PT 62 [tmA t,i64 64] (mk1 8 (bi false 1 0)))=1:=q62
  rw[q61',q62',q63',n11,zae,zae,zae,show nbeq (Nat.sub 1 1) 0=true from rfl,zae,show nbeq (bi false 1 0) 1=false from rfl,zaj,zae]
  rw[zlk,if_neg (by omega)]
  have h:=zd0 (n:=(poT t).length) (L:=fun k i=>jmpN Tryz.prog 44 zkn (zaf Tryz.prog) RJ (finY Tryz.prog [.tmp 4] [32]) (zad Tryz.f26) k [0,0,1,0,1,1,1] [bV false,bxD [i64 t.op,i64 t.w,u64 t.v,stA t.nq t.np,slP t.p 5 (t.as.map tmA)],slP 1 5 ((poT t).map tmA),i64 i]) (A:=fun i=>ansY (i64 (if zbz ((poT t).drop i) ≠ 0 then zbz ((poT t).drop i) else chkN (nmS [] (preT t))))) (fun k=>?_) (fun k i hi ih=>?_) (poT t).length 0 (by omega)
  · simp only[List.drop_zero] at h
    exact h
  · show jmpN _ _ _ _ _ _ _ (k+1) _ _=_
    have q65':okN (zac PT 65 [tmA t] (tupV [⟨24,bi (zc7 (tmA t)) 1 0,0,1,0,ze0 (tmA t)⟩,mk1 8 (bi (zc7 (tmA t)) 1 0)]))=1:=q65
    rw[zal,l26,zao,zau,zb9 (by omega) (by omega),decide_eq_false (by omega),zaj,List.drop_length,zbz,if_neg (fun h=>h rfl),← he]
    have e9:(tupV [⟨24,bi (zc7 (tmA t)) 1 0,0,1,0,ze0 (tmA t)⟩,mk1 8 (bi (zc7 (tmA t)) 1 0)]:AV)=⟨16,0,0,0,0,[⟨24,bi (zc7 (tmA t)) 1 0,0,1,0,ze0 (tmA t)⟩,(mk1 8 (bi (zc7 (tmA t)) 1 0))]⟩:=rfl
    rw[← e9,q65',n11,zae,bS1,zao]
    unfold zc7 ze0
    rw[zaZ]
    cases hn:nmS [] (preT t) with
    | none=>rfl
    | some l =>
      have hl:l.length≤4096:=by
        have:∀ (es acc l:List Tm),nmS acc es=some l→l.length≤acc.length+es.length:=by
          intro es
          induction es with
          | nil=>intro acc l h;rw[nmS] at h;cases h;simp
          | cons e es ih =>
            intro acc l h
            cases hv:varB e.op
            · rw[zkw hv] at h
              have:=ih _ _ h
              simp only[List.length_cons];omega
            · rw[zfA hv] at h
              split at h
              · split at h
                · have:=ih _ _ h
                  simp only[List.length_cons];omega
                · cases h
              · have:=ih _ _ h
                simp only[List.length_append,List.length_cons,List.length_nil] at this ⊢;omega
        have:=this _ _ _ hn
        rw[zco] at this
        simp only[List.length_nil] at this;omega
      rw[show (some l).isSome=true from rfl,zae]
      show bi (nb (nble (biased 3 (lenL (l.map _))) _)) _ _=_
      rw[zau,gt16 (by omega)]
      show _=ansY (i64 (if 16<l.length then 7 else 0))
      by_cases h16:16<l.length
      · rw[decide_eq_true h16,zae,if_pos h16]
      · rw[decide_eq_false h16,zaj,if_neg h16]
  · show jmpN _ _ _ _ _ _ _ (k+1) _ _=_
    have hu:=hall _ (List.getElem_mem hi)
    have q:=zak.2 (zwG (poT t)[i] hu.1 hu.2)
    have e1:zc6 (tmA (poT t)[i])=zdk (poT t)[i]:=by unfold zc6;rw[zaZ]
    have q':okN (zac PT 64 [tmA (poT t)[i],mk1 8 0] (i64 (zdk (poT t)[i])))=1:=q
    rw[zal,l26,zao,zau,zb9 (by omega) (by omega),decide_eq_true hi,zae,zbh (show i.succ≤(poT t).length from hi),zae,zdY _ i hi,zae,zdX _ i hi,e1,q',n11,zae,zao,zaH,List.drop_eq_getElem_cons hi,zbz,zcf (by omega)]
    by_cases h0:zdk (poT t)[i]=0
    · rw[decide_eq_true h0,nb_t,zaj,if_pos h0];exact ih
    · rw[decide_eq_false h0,nb_f,zae,if_neg h0,if_pos h0]
end Go.Eng
