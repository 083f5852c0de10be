/- A part of the proof that the evaluator in GnC, and the driver in GnZ, answer as the model does; no conditions. -/
import Derived.Test.YtfmoohdaimlggaaGreatDoorGnJf
namespace Go.Eng
open Go.RowKit Go.Proofs
set_option maxRecDepth 4000
theorem ztY:∀ X Y:List Tm,X.length ≠ Y.length→eqTs X Y=false:=by
  intro X
  induction X with
  | nil=>intro Y h;cases Y with
    | nil=>exact absurd rfl h
    | cons _ _=>rfl
  | cons a X ihx =>
    intro Y h
    cases Y with
    | nil=>rfl
    | cons b Y=>rw[zgp,ihx Y (by simpa using h),Bool.and_false]
theorem zeo(l:List Tm):zcE (l.map tmA)=l:=by
  unfold zcE
  rw[List.map_map]
  have:unTm ∘ tmA=id:=funext fun t=>zaZ t
  rw[this,List.map_id]
theorem tm_e(t:Tm):tmA t=tmV t.op t.w t.v t.nq t.np t.p (t.as.map tmA):=by cases t;rw[zaP];rfl
theorem s180(J:Jmp)(xp yp:Nat)(xl yl:List AV):(zaB Tryz.prog 32 zkr (finY Tryz.prog [.tmp 6] [4]) J [] (zad Tryz.f180) (finY Tryz.prog [.tmp 6] [4]) []).run RJ (zar 0 [slP xp 5 xl,slP yp 5 yl,⟨13,117,0,0,0,[]⟩] noFr) (zaf Tryz.prog) =
  (bi (nbeq (bi (nb (nbeq (lenL xl) (lenL yl))) 1 0) 1)
 (ansY (mk1 8 0))
 (J [0,0,1,0,1,1] [(slP yp 5 yl),(AV.mk 13 117 0 0 0 []),(slP xp 5 xl),(i64 (lenL xl)),(i64 0)])):=by kernel_rfl
theorem l180(J:Jmp)(yp lp n i:Nat)(yl ll:List AV):lblY Tryz.prog 32 zkr (zaf Tryz.prog) RJ (finY Tryz.prog [.tmp 6] [4]) (zad Tryz.f180) J [0,0,1,0,1,1] [slP yp 5 yl,⟨13,117,0,0,0,[]⟩,slP lp 5 ll,i64 n,i64 i] =
  (bi (nbeq (bi (nb (nble (biased 3 n) (biased 3 i))) 1 0) 1)
 (bi (nble i.succ (lenL ll))
 (bi (tgT ll i)
 (bi (nble i.succ (lenL yl))
 (bi (tgT yl i)
 (bi (nbeq (okN (zac PT 117 [(elT ll i),(elT yl i)] (mk1 8 (bi (eqT (unTm (elT ll i)) (unTm (elT yl i))) 1 0)))) 1)
 (bi (nbeq (Nat.sub 1 (bi (eqT (unTm (elT ll i)) (unTm (elT yl i))) 1 0)) 1)
 (ansY (mk1 8 0))
 (J [0,0,1,0,1,1] [(slP yp 5 yl),(AV.mk 13 117 0 0 0 []),(slP lp 5 ll),(i64 n),(i64 (zaR i 1))]))
 (zab 301))
 (zab 201))
 (zab 205))
 (zab 201))
 (zab 205))
 (ansY (mk1 8 1))):=by kernel_rfl
theorem zwH:Tryz.f180.body=some (zad Tryz.f180):=by kernel_rfl
theorem z3a:Tryz.prog.funcs[180]?=some Tryz.f180:=by kernel_rfl
theorem z3b:Tryz.f180.ntmps=32:=by kernel_rfl
theorem z3c:Tryz.f180.results.toList=[.tmp 6]:=by kernel_rfl
theorem zwI(X Y:List Tm)(pa pb:Nat)(hX:X.length<2 ^ 63)(hih:∀ t ∈ X,∀ b,zch b→zac PT 117 [tmA t,tmA b] (bV (eqT t b)))(hY:∀ t ∈ Y,zch t):zac PT 180 [slP pa 5 (X.map tmA),slP pb 5 (Y.map tmA),⟨13,117,0,0,0,[]⟩] (bV (eqTs X Y)):=by
  refine zaF mixed globs z3a zwH z3b z3c zbQ zkr [4] (X.length+1) ((s180 _ pa pb _ _).trans ?_)
  rw[zau,zau,zao,zaH]
  by_cases hl:X.length=Y.length
  · rw[decide_eq_true hl,nb_t,zaj]
    have h:=zd0 (n:=X.length) (L:=fun k i=>jmpN Tryz.prog 32 zkr (zaf Tryz.prog) RJ (finY Tryz.prog [.tmp 6] [4]) (zad Tryz.f180) k [0,0,1,0,1,1] [slP pb 5 (Y.map tmA),⟨13,117,0,0,0,[]⟩,slP pa 5 (X.map tmA),i64 X.length,i64 i]) (A:=fun i=>ansY (bV (eqTs (X.drop i) (Y.drop i)))) (fun k=>?_) (fun k i hi ih=>?_) X.length 0 (by omega)
    · simp only[List.drop_zero] at h
      exact h
    · show jmpN _ _ _ _ _ _ _ (k+1) _ _=_
      rw[zal,l180,zao,zb9 hX hX,decide_eq_false (by omega),zaj,List.drop_length,hl,List.drop_length]
      rfl
    · show jmpN _ _ _ _ _ _ _ (k+1) _ _=_
      have hiy:i<Y.length:=by omega
      have q:=zak.2 (hih X[i] (List.getElem_mem hi) Y[i] (hY _ (List.getElem_mem hiy)))
      have q':okN (zac PT 117 [tmA X[i],tmA Y[i]] (mk1 8 (bi (eqT X[i] Y[i]) 1 0)))=1:=q
      rw[zal,l180,zao,zb9 (by omega) hX,decide_eq_true hi,zae,zau,zau,zbh (show i.succ≤X.length from hi),zae,zdY X i hi,zae,zbh (show i.succ≤Y.length from hiy),zae,zdY Y i hiy,zae,zdX X i hi,zdX Y i hiy,zaZ,zaZ,q',n11,zae,bS1,zcf (by omega),List.drop_eq_getElem_cons hi,List.drop_eq_getElem_cons hiy,zgp]
      cases eqT X[i] Y[i]
      · rw[zaj,Bool.false_and];rfl
      · rw[zae,Bool.true_and];exact ih
  · rw[decide_eq_false hl,nb_f,zae,ztY X Y hl];rfl
theorem s117(J:Jmp)(ao aw av aq an ap bo bw bv bq bn bp:Nat)(al bl:List AV):(zaB Tryz.prog 36 (fun _=>none) (finY Tryz.prog [.tmp 4] [4]) J [] (zad Tryz.f117) (finY Tryz.prog [.tmp 4] [4]) []).run RJ (zar 0 [tmV ao aw av aq an ap al,tmV bo bw bv bq bn bp bl] noFr) (zaf Tryz.prog) =
  (bi (nbeq (bi (nb (nbeq ao bo)) 1 0) 0)
 (bi (nbeq (bi (nb (nbeq aw bw)) 1 0) 0)
 (bi (nbeq (bi (nb (nbeq av bv)) 1 0) 0)
 (bi (nbeq (bi (nb (bi (nbeq aq bq) (nbeq an bn) false)) 1 0) 1)
 (ansY (mk1 8 0))
 (bi (nbeq (okN (zac PT 180 [(slP ap 5 al),(slP bp 5 bl),(AV.mk 13 117 0 0 0 [])] (mk1 8 (bi (eqTs (zcE al) (zcE bl)) 1 0)))) 1)
 (ansY (mk1 8 (bi (eqTs (zcE al) (zcE bl)) 1 0)))
 (zab 301)))
 (ansY (mk1 8 0)))
 (ansY (mk1 8 0)))
 (ansY (mk1 8 0))):=by kernel_rfl
theorem zwJ:Tryz.f117.body=some (zad Tryz.f117):=by kernel_rfl
theorem z3d:Tryz.prog.funcs[117]?=some Tryz.f117:=by kernel_rfl
theorem z3e:Tryz.f117.ntmps=36:=by kernel_rfl
theorem z3f:Tryz.f117.results.toList=[.tmp 4]:=by kernel_rfl
theorem zwK:∀ a b:Tm,zch a→zch b→zac PT 117 [tmA a,tmA b] (bV (eqT a b)):=by
  intro a
  induction a using Tm.ind with
  | h op w v nq np p X ih =>
  intro b ha hb
  obtain⟨op',w',v',nq',np',p',Y⟩:=b
  obtain⟨hX,ha⟩:X.length<2 ^ 63∧∀ t ∈ X,zch t:=by
    cases ha with | mk h1 h2=>exact⟨h1,h2⟩
  have hb:∀ t ∈ Y,zch t:=by
    cases hb with | mk h1 h2=>exact h2
  have q:=zak.2 (zwI X Y p p' hX (fun t ht b hb=>ih t ht b (ha t ht) hb) hb)
  have q':okN (zac PT 180 [slP p 5 (X.map tmA),slP p' 5 (Y.map tmA),(AV.mk 13 117 0 0 0 [])] (mk1 8 (bi (eqTs X Y) 1 0)))=1:=q
  rw[zaP,zaP]
  refine zaF mixed globs z3d zwJ z3e z3f zbQ (fun _=>none) [4] 0 ((s117 _ op w v nq np p op' w' v' nq' np' p' _ _).trans ?_)
  rw[zeo,zeo,q',n11,zae]
  simp only[zao,b0]
  rw[eqT]
  simp only[zaH]
  cases decide (op=op')<;>cases decide (w=w')<;>cases decide (v=v')<;>cases decide (nq=nq')<;>cases decide (np=np')<;>cases eqTs X Y<;>rfl
theorem s51(J:Jmp)(to tw tv tq tn tp:Nat)(tl:List AV):(zaB Tryz.prog 6 (fun _=>none) (finY Tryz.prog [.tmp 2] [4]) J [] (zad Tryz.f51) (finY Tryz.prog [.tmp 2] [4]) []).run RJ (zar 0 [tmV to tw tv tq tn tp tl] noFr) (zaf Tryz.prog) =
  (bi (nbeq (okN (zac PT 117 [(tmV to tw tv tq tn tp tl),(aggV [(i64 0),(i64 0),(u64 0),(stA 0 0),(slP 0 5 [])])] (mk1 8 (bi (eqT (unTm (tmV to tw tv tq tn tp tl)) (unTm (aggV [(i64 0),(i64 0),(u64 0),(stA 0 0),(slP 0 5 [])]))) 1 0)))) 1)
 (ansY (mk1 8 (bi (eqT (unTm (tmV to tw tv tq tn tp tl)) (unTm (aggV [(i64 0),(i64 0),(u64 0),(stA 0 0),(slP 0 5 [])]))) 1 0)))
 (zab 301)):=by kernel_rfl
theorem zzF:Tryz.f51.body=some (zad Tryz.f51):=by kernel_rfl
theorem fn51:Tryz.prog.funcs[51]?=some Tryz.f51:=by kernel_rfl
theorem nt51:Tryz.f51.ntmps=6:=by kernel_rfl
theorem rs51:Tryz.f51.results.toList=[.tmp 2]:=by kernel_rfl
theorem s60(J:Jmp)(to tw tv tq tn tp:Nat)(tl:List AV):(zaB Tryz.prog 6 (fun _=>none) (finY Tryz.prog [.tmp 2] [4]) J [] (zad Tryz.f60) (finY Tryz.prog [.tmp 2] [4]) []).run RJ (zar 0 [tmV to tw tv tq tn tp tl] noFr) (zaf Tryz.prog) =
  (bi (nbeq (okN (zac PT 123 [(tmV to tw tv tq tn tp tl),(aggV [(i64 0),(i64 0),(u64 0),(stA 0 0),(slP 0 5 [])])] (mk1 8 (bi (eqT (unTm (tmV to tw tv tq tn tp tl)) (unTm (aggV [(i64 0),(i64 0),(u64 0),(stA 0 0),(slP 0 5 [])]))) 1 0)))) 1)
 (ansY (mk1 8 (bi (eqT (unTm (tmV to tw tv tq tn tp tl)) (unTm (aggV [(i64 0),(i64 0),(u64 0),(stA 0 0),(slP 0 5 [])]))) 1 0)))
 (zab 301)):=by kernel_rfl
theorem zzG:Tryz.f60.body=some (zad Tryz.f60):=by kernel_rfl
theorem fn60:Tryz.prog.funcs[60]?=some Tryz.f60:=by kernel_rfl
theorem nt60:Tryz.f60.ntmps=6:=by kernel_rfl
theorem rs60:Tryz.f60.results.toList=[.tmp 2]:=by kernel_rfl
theorem zrT:(aggV [(i64 0),(i64 0),(u64 0),(stA 0 0),(slP 0 5 [])]:AV)=tmA (.mk 0 0 0 0 0 0 []):=by rw[zaP];rfl
theorem spz(t:Tm):zen (tmA t)=zeV t:=by unfold zen;rw[zaZ]
theorem zrU:zch (.mk 0 0 0 0 0 0 []):=.mk (by simp) (fun t h=>by cases h)
theorem zzH(t:Tm)(h:zch t):zac PT 51 [tmA t] (bV (zeV t)):=by
  have q:okN (zac PT 117 [tmA t,tmA (.mk 0 0 0 0 0 0 [])] (mk1 8 (bi (eqT t (.mk 0 0 0 0 0 0 [])) 1 0)))=1:=zak.2 (zwK t (.mk 0 0 0 0 0 0 []) h zrU)
  have hst:=s51 (jmpN Tryz.prog 6 (fun _=>none) (zaf Tryz.prog) RJ (finY Tryz.prog [.tmp 2] [4]) (zad Tryz.f51) 0) t.op t.w t.v t.nq t.np t.p (t.as.map tmA)
  rw[← tm_e t,zrT,zaZ,zaZ,q,n11,zae] at hst
  exact zaF mixed globs fn51 zzF nt51 rs51 zbQ (fun _=>none) [4] 0 hst
theorem zzI(t:Tm)(h:zch t):zac PT 60 [tmA t] (bV (zeV t)):=by
  have q:okN (zac PT 123 [tmA t,tmA (.mk 0 0 0 0 0 0 [])] (mk1 8 (bi (eqT t (.mk 0 0 0 0 0 0 [])) 1 0)))=1:=zak.2 (z1C t (.mk 0 0 0 0 0 0 []) h zrU)
  have hst:=s60 (jmpN Tryz.prog 6 (fun _=>none) (zaf Tryz.prog) RJ (finY Tryz.prog [.tmp 2] [4]) (zad Tryz.f60) 0) t.op t.w t.v t.nq t.np t.p (t.as.map tmA)
  rw[← tm_e t,zrT,zaZ,zaZ,q,n11,zae] at hst
  exact zaF mixed globs fn60 zzG nt60 rs60 zbQ (fun _=>none) [4] 0 hst
theorem zpW(k:Nat)(a b:Tm):gdK (gdA k a b)=k:=rfl
theorem zpX(k:Nat)(a b:Tm):gdL (gdA k a b)=a:=by
  show unTm (aggV [i64 a.op,i64 a.w,u64 a.v,stA a.nq a.np,slP a.p 5 (a.as.map tmA)])=a
  rw[zec,zaZ]
theorem zpY(k:Nat)(a b:Tm):gdR (gdA k a b)=b:=by
  show unTm (aggV [i64 b.op,i64 b.w,u64 b.v,stA b.nq b.np,slP b.p 5 (b.as.map tmA)])=b
  rw[zec,zaZ]
theorem s22(J:Jmp)(k ao aw av aq an ap bo bw bv bq bn bp:Nat)(al bl:List AV):(zaB Tryz.prog 21 (fun _=>none) (finY Tryz.prog [.tmp 2] [4]) J [] (zad Tryz.f22) (finY Tryz.prog [.tmp 2] [4]) []).run RJ (zar 0 [aggV [i64 k,i64 ao,i64 aw,u64 av,stA aq an,slP ap 5 al,i64 bo,i64 bw,u64 bv,stA bq bn,slP bp 5 bl]] noFr) (zaf Tryz.prog) =
  (bi (nbeq (bi (nbeq k 1) 1 0) 1)
 (bi (nbeq (okN (zac PT 51 [(tmV bo bw bv bq bn bp bl)] (mk1 8 (bi (zen (tmV bo bw bv bq bn bp bl)) 1 0)))) 1)
 (ansY (mk1 8 (bi (zen (tmV bo bw bv bq bn bp bl)) 1 0)))
 (zab 301))
 (bi (nbeq (bi (nbeq k 3) 1 0) 1)
 (ansY (mk1 8 (bi (nbeq ao 24) 1 0)))
 (bi (nbeq (bi (nbeq k 4) 1 0) 1)
 (ansY (mk1 8 (bi (nbeq ao 24) 1 0)))
 (ansY (mk1 8 (bi (nbeq k 2) 1 0)))))):=by kernel_rfl
theorem zzJ:Tryz.f22.body=some (zad Tryz.f22):=by kernel_rfl
theorem fn22:Tryz.prog.funcs[22]?=some Tryz.f22:=by kernel_rfl
theorem nt22:Tryz.f22.ntmps=21:=by kernel_rfl
theorem rs22:Tryz.f22.results.toList=[.tmp 2]:=by kernel_rfl
theorem s25(J:Jmp)(k ao aw av aq an ap bo bw bv bq bn bp:Nat)(al bl:List AV):(zaB Tryz.prog 19 (fun _=>none) (finY Tryz.prog [.tmp 2] [4]) J [] (zad Tryz.f25) (finY Tryz.prog [.tmp 2] [4]) []).run RJ (zar 0 [aggV [i64 k,i64 ao,i64 aw,u64 av,stA aq an,slP ap 5 al,i64 bo,i64 bw,u64 bv,stA bq bn,slP bp 5 bl]] noFr) (zaf Tryz.prog) =
  (bi (nbeq (bi (nbeq k 1) 1 0) 1)
 (bi (nbeq (okN (zac PT 60 [(tmV bo bw bv bq bn bp bl)] (mk1 8 (bi (zen (tmV bo bw bv bq bn bp bl)) 1 0)))) 1)
 (ansY (mk1 8 (bi (zen (tmV bo bw bv bq bn bp bl)) 1 0)))
 (zab 301))
 (bi (nbeq (bi (nbeq k 2) 1 0) 1)
 (ansY (mk1 8 1))
 (bi (nbeq (bi (nbeq k 3) 1 0) 1)
 (ansY (mk1 8 (bi (nbeq ao 24) 1 0)))
 (bi (nbeq (bi (nbeq k 4) 1 0) 1)
 (ansY (mk1 8 (bi (nbeq ao 24) 1 0)))
 (ansY (mk1 8 0)))))):=by kernel_rfl
theorem zzK:Tryz.f25.body=some (zad Tryz.f25):=by kernel_rfl
theorem fn25:Tryz.prog.funcs[25]?=some Tryz.f25:=by kernel_rfl
theorem nt25:Tryz.f25.ntmps=19:=by kernel_rfl
theorem rs25:Tryz.f25.results.toList=[.tmp 2]:=by kernel_rfl
theorem zjh(t:Tm):tmV t.op t.w t.v t.nq t.np t.p (t.as.map tmA)=tmA t:=(tm_e t).symm
theorem zzL(k:Nat)(a b:Tm)(hb:zch b):zac PT 22 [gdA k a b] (bV (zdd k a.op b)):=by
  have q:okN (zac PT 51 [tmA b] (mk1 8 (bi (zeV b) 1 0)))=1:=zak.2 (zzH b hb)
  refine zaF mixed globs fn22 zzJ nt22 rs22 zbQ (fun _=>none) [4] 0 ((s22 _ k a.op a.w a.v a.nq a.np a.p b.op b.w b.v b.nq b.np b.p (a.as.map tmA) (b.as.map tmA)).trans ?_)
  rw[zjh b,spz,q,n11,zae]
  simp only[zao,b8]
  simp only[zaH]
  unfold zdd
  by_cases h1:k=1
  · subst h1;rfl
  · by_cases h2:k=2
    · subst h2;rfl
    · by_cases h3:k=3
      · subst h3;rfl
      · by_cases h4:k=4
        · subst h4;rfl
        · simp only[h1,h2,h3,h4,decide_false,zaj,if_false,or_self]
theorem zzM(k:Nat)(a b:Tm)(hb:zch b):zac PT 25 [gdA k a b] (bV (zdd k a.op b)):=by
  have q:okN (zac PT 60 [tmA b] (mk1 8 (bi (zeV b) 1 0)))=1:=zak.2 (zzI b hb)
  refine zaF mixed globs fn25 zzK nt25 rs25 zbQ (fun _=>none) [4] 0 ((s25 _ k a.op a.w a.v a.nq a.np a.p b.op b.w b.v b.nq b.np b.p (a.as.map tmA) (b.as.map tmA)).trans ?_)
  rw[zjh b,spz,q,n11,zae]
  simp only[zao,b8]
  simp only[zaH]
  unfold zdd
  by_cases h1:k=1
  · subst h1;rfl
  · by_cases h2:k=2
    · subst h2;rfl
    · by_cases h3:k=3
      · subst h3;rfl
      · by_cases h4:k=4
        · subst h4;rfl
        · simp only[h1,h2,h3,h4,decide_false,zaj,if_false,or_self];rfl
theorem s122(J:Jmp)(xp q n w:Nat)(xl:List AV):(zaB Tryz.prog 19 zkq (finY Tryz.prog [.tmp 4] [3]) J [] (zad Tryz.f122) (finY Tryz.prog [.tmp 4] [3]) []).run RJ (zar 0 [slP xp 2 xl,aggV [stA q n,i64 w]] noFr) (zaf Tryz.prog) =
  (J [0,0,1,0,1] [(slP xp 2 xl),(bxD [stA q n,i64 w]),(i64 (lenL xl)),(i64 0)]):=by kernel_rfl
theorem l122(J:Jmp)(xp q n w m i:Nat)(xl:List AV):lblY Tryz.prog 19 zkq (zaf Tryz.prog) RJ (finY Tryz.prog [.tmp 4] [3]) (zad Tryz.f122) J [0,0,1,0,1] [slP xp 2 xl,bxD [stA q n,i64 w],i64 m,i64 i] =
  (bi (nbeq (bi (nb (nble (biased 3 m) (biased 3 i))) 1 0) 1)
 (bi (nble i.succ (lenL xl))
 (bi (bi (zax 9 (nthL (elA xl i) 0)) (bi (zax 3 (nthL (elA xl i) 1)) true false) false)
 (bi (nbeq (bi (bi (bi (nbeq q (nthL (elA xl i) 0).3) (nbeq n (nthL (elA xl i) 0).2) false) (bi (nbeq w (nthL (elA xl i) 1).2) true false) false) 1 0) 1)
 (ansY (i64 i))
 (J [0,0,1,0,1] [(slP xp 2 xl),(bxD [stA q n,i64 w]),(i64 m),(i64 (zaR i 1))]))
 (zab 201))
 (zab 205))
 (ansY (i64 18446744073709551615))):=by kernel_rfl
theorem zwL:Tryz.f122.body=some (zad Tryz.f122):=by kernel_rfl
theorem z3g:Tryz.prog.funcs[122]?=some Tryz.f122:=by kernel_rfl
theorem z3h:Tryz.f122.ntmps=19:=by kernel_rfl
theorem z3i:Tryz.f122.results.toList=[.tmp 4]:=by kernel_rfl
theorem s58(J:Jmp)(xp q n w:Nat)(xl:List AV):(zaB Tryz.prog 9 (fun _=>none) (finY Tryz.prog [.tmp 4] [4]) J [] (zad Tryz.f58) (finY Tryz.prog [.tmp 4] [4]) []).run RJ (zar 0 [slP xp 2 xl,aggV [stA q n,i64 w]] noFr) (zaf Tryz.prog) =
  (bi (nbeq (okN (zac PT 122 [(slP xp 2 xl),(aggV [(stA q n),(i64 w)])] (i64 (zgW xl (aggV [(stA q n),(i64 w)]))))) 1)
 (ansY (mk1 8 (bi (nble 9223372036854775808 (biased 3 (zgW xl (aggV [(stA q n),(i64 w)])))) 1 0)))
 (zab 301)):=by kernel_rfl
theorem zzN:Tryz.f58.body=some (zad Tryz.f58):=by kernel_rfl
theorem fn58:Tryz.prog.funcs[58]?=some Tryz.f58:=by kernel_rfl
theorem nt58:Tryz.f58.ntmps=9:=by kernel_rfl
theorem rs58:Tryz.f58.results.toList=[.tmp 4]:=by kernel_rfl
noncomputable def ixN(o:Option Nat)(i:Nat):Nat:=match o with | none=>18446744073709551615 | some j=>i+j
theorem zzO{l:List (Nat × Nat × Nat)}{v:Nat × Nat × Nat}{j:Nat}(h:ixW l v=some j):j<l.length:=by
  induction l generalizing j with
  | nil=>rw[ixW] at h;cases h
  | cons a l ih =>
    rw[ixW] at h
    split at h
    · cases h;simp
    · cases hq:ixW l v with
      | none=>rw[hq] at h;cases h
      | some j'=>rw[hq] at h;cases h;have:=ih hq;simp only[List.length_cons];omega
theorem zoI(l:List (Nat × Nat × Nat))(v:Nat × Nat × Nat):(ixW l v).isSome=decide (v ∈ l):=by
  induction l with
  | nil=>rw[ixW];simp
  | cons a l ih =>
    rw[ixW]
    by_cases h:a=v
    · rw[if_pos h];subst h;simp
    · rw[if_neg h,Option.isSome_map,ih,decide_eq_decide,List.mem_cons]
      exact⟨fun h2=>.inr h2,fun h2=>h2.elim (fun e=>absurd e.symm h) id⟩
theorem zwM(vs:List (Nat × Nat × Nat))(p:Nat)(v:Nat × Nat × Nat)(hl:vs.length<2 ^ 62):zac PT 122 [slP p 2 (vs.map vbA),vbA v] (i64 (ixN (ixW vs v) 0)):=by
  refine zaF mixed globs z3g zwL z3h z3i zbQ zkq [3] (vs.length+1) ((s122 _ p v.1 v.2.1 v.2.2 (vs.map vbA)).trans ?_)
  rw[zau]
  have h:=zd0 (n:=vs.length) (L:=fun k i=>jmpN Tryz.prog 19 zkq (zaf Tryz.prog) RJ (finY Tryz.prog [.tmp 4] [3]) (zad Tryz.f122) k [0,0,1,0,1] [slP p 2 (vs.map vbA),bxD [stA v.1 v.2.1,i64 v.2.2],i64 vs.length,i64 i]) (A:=fun i=>ansY (i64 (ixN (ixW (vs.drop i) v) i))) (fun k=>?_) (fun k i hi ih=>?_) vs.length 0 (by omega)
  · simp only[List.drop_zero] at h
    exact h
  · show jmpN _ _ _ _ _ _ _ (k+1) _ _=_
    rw[zal,l122,zao,zb9 (by omega) (by omega),decide_eq_false (by omega),zaj,List.drop_length]
    rfl
  · show jmpN _ _ _ _ _ _ _ (k+1) _ _=_
    rw[zal,l122,zao,zb9 (by omega) (by omega),decide_eq_true hi,zae]
    simp only[zau,zbh (show i.succ≤vs.length from hi),zae,zkx vs i hi,n2_0,n2_1,tg_s,tg_i,zdJ,zdI,zcQ,zao,zcf (show i<2 ^ 63 by omega)]
    simp only[zaH,bdd]
    have e0:bi (decide (v.2.2=vs[i].2.2)) true false=decide (v.2.2=vs[i].2.2):=by cases decide (v.2.2=vs[i].2.2)<;>rfl
    rw[e0,bdd,List.drop_eq_getElem_cons hi,ixW]
    by_cases hv:vs[i]=v
    · rw[if_pos hv,decide_eq_true (by rw[hv];exact⟨⟨rfl,rfl⟩,rfl⟩),zae];rfl
    · have hne:¬ ((v.1=vs[i].1∧v.2.1=vs[i].2.1)∧v.2.2=vs[i].2.2):=fun h=>hv (by
        obtain⟨⟨h1,h2⟩,h3⟩:=h
        exact (Prod.ext h1 (Prod.ext h2 h3)).symm)
      rw[if_neg hv,decide_eq_false hne,zaj]
      refine ih.trans ?_
      cases hq:ixW (vs.drop (i+1)) v with
      | none=>rfl
      | some j=>show ansY (i64 (i+1+j))=ansY (i64 (i+(j+1)));rw[show i+1+j=i+(j+1) by omega]
theorem spix(vs:List (Nat × Nat × Nat))(v:Nat × Nat × Nat):zgW (vs.map vbA) (vbA v)=ixN (ixW vs v) 0:=by
  unfold zgW ixN
  rw[zcn,znn]
  cases ixW vs v with
  | none=>rfl
  | some j=>simp
theorem zrV(vs:List (Nat × Nat × Nat))(p:Nat)(v:Nat × Nat × Nat)(hl:vs.length<2 ^ 62):zac PT 58 [slP p 2 (vs.map vbA),vbA v] (bV (decide (v ∈ vs))):=by
  have q:=zak.2 (zwM vs p v hl)
  refine zaF mixed globs fn58 zzN nt58 rs58 zbQ (fun _=>none) [4] 0 ((s58 _ p v.1 v.2.1 v.2.2 (vs.map vbA)).trans ?_)
  rw[show (aggV [stA v.1 v.2.1,i64 v.2.2])=vbA v from rfl,spix,q,n11,zae,← zoI]
  cases hq:ixW vs v with
  | none =>
    show ansY (mk1 8 (bi (nble 9223372036854775808 (biased 3 18446744073709551615)) 1 0))=_
    rw[show nble 9223372036854775808 (biased 3 18446744073709551615)=false by decide +kernel];rfl
  | some j =>
    have:=zzO hq
    show ansY (mk1 8 (bi (nble 9223372036854775808 (biased 3 (0+j))) 1 0))=_
    rw[zcm (by omega),zah.2 (by omega)];rfl
theorem s57(J:Jmp)(xp:Nat)(xl:List AV):(zaB Tryz.prog 5 (fun _=>none) (finY Tryz.prog [.tmp 2] [29]) J [] (zad Tryz.f57) (finY Tryz.prog [.tmp 2] [29]) []).run RK7 (zar 0 [slP xp 5 xl] noFr) (zaf Tryz.prog) =
  (bi (nbeq (okN (zac PT 121 [(i64 24),(slP xp 5 xl)] ⟨24,zcr 24 xl,0,2,0,zbW 24 xl⟩)) 1)
 (ansY ⟨24,zcr 24 xl,0,2,0,zbW 24 xl⟩)
 (zab 301)):=by kernel_rfl
theorem zzP:Tryz.f57.body=some (zad Tryz.f57):=by kernel_rfl
theorem fn57:Tryz.prog.funcs[57]?=some Tryz.f57:=by kernel_rfl
theorem nt57:Tryz.f57.ntmps=5:=by kernel_rfl
theorem rs57:Tryz.f57.results.toList=[.tmp 2]:=by kernel_rfl
theorem s59(J:Jmp)(xp:Nat)(xl:List AV):(zaB Tryz.prog 5 (fun _=>none) (finY Tryz.prog [.tmp 2] [29]) J [] (zad Tryz.f59) (finY Tryz.prog [.tmp 2] [29]) []).run RK7 (zar 0 [slP xp 5 xl] noFr) (zaf Tryz.prog) =
  (bi (nbeq (okN (zac PT 121 [(i64 25),(slP xp 5 xl)] ⟨24,zcr 25 xl,0,2,0,zbW 25 xl⟩)) 1)
 (ansY ⟨24,zcr 25 xl,0,2,0,zbW 25 xl⟩)
 (zab 301)):=by kernel_rfl
theorem zzQ:Tryz.f59.body=some (zad Tryz.f59):=by kernel_rfl
theorem fn59:Tryz.prog.funcs[59]?=some Tryz.f59:=by kernel_rfl
theorem nt59:Tryz.f59.ntmps=5:=by kernel_rfl
theorem rs59:Tryz.f59.results.toList=[.tmp 2]:=by kernel_rfl
theorem zzR(p:Nat)(X:List Tm)(hX:X.length≤8)(hlen:∀ t ∈ X,zch t)(hl:preN X≤90000):zac PT 57 [slP p 5 (X.map tmA)] (slP (vpOf (zb3 24 [] X)) 2 ((zb3 24 [] X).map vbA)):=by
  have q:=zak.2 (zoH 24 p X hX hlen hl)
  have hst:=s57 (jmpN Tryz.prog 5 (fun _=>none) (zaf Tryz.prog) RK7 (finY Tryz.prog [.tmp 2] [29]) (zad Tryz.f57) 0) p (X.map tmA)
  have e1:zcr 24 (X.map tmA)=vpOf (zb3 24 [] X):=by unfold zcr;rw[zeo]
  have e2:zbW 24 (X.map tmA)=(zb3 24 [] X).map vbA:=by unfold zbW;rw[zeo]
  have q':okN (zac PT 121 [i64 24,slP p 5 (X.map tmA)] ⟨24,vpOf (zb3 24 [] X),0,2,0,(zb3 24 [] X).map vbA⟩)=1:=q
  rw[e1,e2,q',n11,zae] at hst
  exact zaF mixed globs fn57 zzP nt57 rs57 zfk (fun _=>none) [29] 0 hst
theorem zzS(p:Nat)(X:List Tm)(hX:X.length≤8)(hlen:∀ t ∈ X,zch t)(hl:preN X≤90000):zac PT 59 [slP p 5 (X.map tmA)] (slP (vpOf (zb3 25 [] X)) 2 ((zb3 25 [] X).map vbA)):=by
  have q:=zak.2 (zoH 25 p X hX hlen hl)
  have hst:=s59 (jmpN Tryz.prog 5 (fun _=>none) (zaf Tryz.prog) RK7 (finY Tryz.prog [.tmp 2] [29]) (zad Tryz.f59) 0) p (X.map tmA)
  have e1:zcr 25 (X.map tmA)=vpOf (zb3 25 [] X):=by unfold zcr;rw[zeo]
  have e2:zbW 25 (X.map tmA)=(zb3 25 [] X).map vbA:=by unfold zbW;rw[zeo]
  have q':okN (zac PT 121 [i64 25,slP p 5 (X.map tmA)] ⟨24,vpOf (zb3 25 [] X),0,2,0,(zb3 25 [] X).map vbA⟩)=1:=q
  rw[e1,e2,q',n11,zae] at hst
  exact zaF mixed globs fn59 zzQ nt59 rs59 zfk (fun _=>none) [29] 0 hst
end Go.Eng
namespace Go.Eng
open Go.RowKit Go.Proofs
set_option maxRecDepth 4000
theorem s24(J:Jmp)(to tw tv tq tn tp xp yp:Nat)(tl xl yl:List AV):(zaB Tryz.prog 37 zeW (finY Tryz.prog [.tmp 6] [4]) J [] (zad Tryz.f24) (finY Tryz.prog [.tmp 6] [4]) []).run RK7 (zar 0 [tmV to tw tv tq tn tp tl,slP xp 2 xl,slP yp 2 yl] noFr) (zaf Tryz.prog) =
  (bi (nbeq (okN (zac PT 57 [(slP 1 5 [(tmV to tw tv tq tn tp tl)])] ⟨24,zcr 24 [(tmV to tw tv tq tn tp tl)],0,2,0,zbW 24 [(tmV to tw tv tq tn tp tl)]⟩)) 1)
 (J [0,0,1,0,1] [(slP xp 2 xl),(slP yp 2 yl),(bxD [i64 to,i64 tw,u64 tv,stA tq tn,slP tp 5 tl]),⟨24,zcr 24 [(tmV to tw tv tq tn tp tl)],0,2,0,zbW 24 [(tmV to tw tv tq tn tp tl)]⟩,(i64 (lenL (zbW 24 [(tmV to tw tv tq tn tp tl)]))),(i64 0)])
 (zab 301)):=by kernel_rfl
theorem l24a(J:Jmp)(yp xp n i:Nat)(yl xl:List AV):lblY Tryz.prog 37 zeW (zaf Tryz.prog) RK7 (finY Tryz.prog [.tmp 6] [4]) (zad Tryz.f24) J [0,0,1,0,1,1] [slP yp 2 yl,slP xp 2 xl,i64 n,i64 i] =
  (bi (nbeq (bi (nb (nble (biased 3 n) (biased 3 i))) 1 0) 1)
 (bi (nble i.succ (lenL xl))
 (bi (bi (zax 9 (nthL (elA xl i) 0)) (bi (zax 3 (nthL (elA xl i) 1)) true false) false)
 (bi (nbeq (okN (zac PT 58 [(slP yp 2 yl),(aggV [(stA ((nthL (elA xl i) 0).3) ((nthL (elA xl i) 0).2)),(i64 ((nthL (elA xl i) 1).2))])] (mk1 8 (bi (zem yl (aggV [(stA ((nthL (elA xl i) 0).3) ((nthL (elA xl i) 0).2)),(i64 ((nthL (elA xl i) 1).2))])) 1 0)))) 1)
 (bi (nbeq (Nat.sub 1 (bi (zem yl (aggV [(stA ((nthL (elA xl i) 0).3) ((nthL (elA xl i) 0).2)),(i64 ((nthL (elA xl i) 1).2))])) 1 0)) 1)
 (ansY (mk1 8 0))
 (J [0,0,1,0,1,1] [(slP yp 2 yl),(slP xp 2 xl),(i64 n),(i64 (zaR i 1))]))
 (zab 301))
 (zab 201))
 (zab 205))
 (ansY (mk1 8 1))):=by kernel_rfl
theorem l24b(J:Jmp)(xp yp to tw tv tq tn tp zp n i:Nat)(xl yl tl zl:List AV):lblY Tryz.prog 37 zeW (zaf Tryz.prog) RK7 (finY Tryz.prog [.tmp 6] [4]) (zad Tryz.f24) J [0,0,1,0,1] [slP xp 2 xl,slP yp 2 yl,bxD [i64 to,i64 tw,u64 tv,stA tq tn,slP tp 5 tl],slP zp 2 zl,i64 n,i64 i] =
  (bi (nbeq (bi (nb (nble (biased 3 n) (biased 3 i))) 1 0) 1)
 (bi (nble i.succ (lenL zl))
 (bi (bi (zax 9 (nthL (elA zl i) 0)) (bi (zax 3 (nthL (elA zl i) 1)) true false) false)
 (bi (nbeq (okN (zac PT 58 [(slP xp 2 xl),(aggV [(stA ((nthL (elA zl i) 0).3) ((nthL (elA zl i) 0).2)),(i64 ((nthL (elA zl i) 1).2))])] (mk1 8 (bi (zem xl (aggV [(stA ((nthL (elA zl i) 0).3) ((nthL (elA zl i) 0).2)),(i64 ((nthL (elA zl i) 1).2))])) 1 0)))) 1)
 (bi (nbeq (Nat.sub 1 (bi (zem xl (aggV [(stA ((nthL (elA zl i) 0).3) ((nthL (elA zl i) 0).2)),(i64 ((nthL (elA zl i) 1).2))])) 1 0)) 1)
 (ansY (mk1 8 0))
 (J [0,0,1,0,1] [(slP xp 2 xl),(slP yp 2 yl),(bxD [i64 to,i64 tw,u64 tv,stA tq tn,slP tp 5 tl]),(slP zp 2 zl),(i64 n),(i64 (zaR i 1))]))
 (zab 301))
 (zab 201))
 (zab 205))
 (bi (nbeq (okN (zac PT 59 [(slP 1 5 [(tmV to tw tv tq tn tp tl)])] ⟨24,zcr 25 [(tmV to tw tv tq tn tp tl)],0,2,0,zbW 25 [(tmV to tw tv tq tn tp tl)]⟩)) 1)
 (J [0,0,1,0,1,1] [(slP yp 2 yl),⟨24,zcr 25 [(tmV to tw tv tq tn tp tl)],0,2,0,zbW 25 [(tmV to tw tv tq tn tp tl)]⟩,(i64 (lenL (zbW 25 [(tmV to tw tv tq tn tp tl)]))),(i64 0)])
 (zab 301))):=by kernel_rfl
theorem zzT:Tryz.f24.body=some (zad Tryz.f24):=by kernel_rfl
theorem fn24:Tryz.prog.funcs[24]?=some Tryz.f24:=by kernel_rfl
theorem nt24:Tryz.f24.ntmps=37:=by kernel_rfl
theorem rs24:Tryz.f24.results.toList=[.tmp 6]:=by kernel_rfl
theorem spHW(vs:List (Nat × Nat × Nat))(v:Nat × Nat × Nat):zem (vs.map vbA) (vbA v)=decide (v ∈ vs):=by
  unfold zem;rw[zcn,znn,zoI]
theorem vb_e(v:Nat × Nat × Nat):aggV [stA v.1 v.2.1,i64 v.2.2]=vbA v:=rfl
theorem zwN(us W:List (Nat × Nat × Nat))(p q:Nat)(hu:us.length<2 ^ 62)(hW:W.length<2 ^ 62)(k0:Nat) :
    jmpN Tryz.prog 37 zeW (zaf Tryz.prog) RK7 (finY Tryz.prog [.tmp 6] [4]) (zad Tryz.f24) (k0+(W.length+1)) [0,0,1,0,1,1] [slP p 2 (us.map vbA),slP q 2 (W.map vbA),i64 W.length,i64 0]=ansY (bV (W.all fun v=>decide (v ∈ us))):=by
  have h:=zd0 (n:=W.length) (L:=fun k i=>jmpN Tryz.prog 37 zeW (zaf Tryz.prog) RK7 (finY Tryz.prog [.tmp 6] [4]) (zad Tryz.f24) (k0+k) [0,0,1,0,1,1] [slP p 2 (us.map vbA),slP q 2 (W.map vbA),i64 W.length,i64 i]) (A:=fun i=>ansY (bV ((W.drop i).all fun v=>decide (v ∈ us)))) (fun k=>?_) (fun k i hi ih=>?_) W.length 0 (by omega)
  · simp only[List.drop_zero] at h
    exact h
  · show jmpN _ _ _ _ _ _ _ ((k0+k)+1) _ _=_
    rw[zal,l24a,zao,zb9 (by omega) (by omega),decide_eq_false (by omega),zaj,List.drop_length]
    rfl
  · show jmpN _ _ _ _ _ _ _ ((k0+k)+1) _ _=_
    have qq:=zak.2 (zrV us p W[i] hu)
    have q':okN (zac PT 58 [slP p 2 (us.map vbA),vbA W[i]] (mk1 8 (bi (decide (W[i] ∈ us)) 1 0)))=1:=qq
    rw[zal,l24a,zao,zb9 (by omega) (by omega),decide_eq_true hi,zae]
    simp only[zau,zbh (show i.succ≤W.length from hi),zae,zkx W i hi,n2_0,n2_1,tg_s,tg_i,zdJ,zdI,zcQ,vb_e,spHW,q',n11,bS1,zcf (show i<2 ^ 63 by omega)]
    rw[List.drop_eq_getElem_cons hi,List.all_cons]
    by_cases hm:W[i] ∈ us
    · rw[decide_eq_true hm,zae,Bool.true_and];exact ih
    · rw[decide_eq_false hm,zaj,Bool.false_and];rfl
theorem zkz(t:Tm)(vs us:List (Nat × Nat × Nat))(p p':Nat)(hv:vs.length<2 ^ 62)(hu:us.length<2 ^ 62)(hlen:zch t)(hs:szT t+1≤90000):zac PT 24 [tmA t,slP p 2 (vs.map vbA),slP p' 2 (us.map vbA)] (bV (zb6 t vs us)):=by
  have hpn:preN [t]≤90000:=by unfold preN;simp only[List.map_cons,List.map_nil,List.sum_cons,List.sum_nil];rw[zco];omega
  have q57:=zak.2 (zzR 1 [t] (by simp) (fun x hx=>by rw[List.mem_singleton.1 hx];exact hlen) hpn)
  have q59:=zak.2 (zzS 1 [t] (by simp) (fun x hx=>by rw[List.mem_singleton.1 hx];exact hlen) hpn)
  have e57:∀ o,zcr o [tmA t]=vpOf (zb3 o [] [t]):=fun o=>by unfold zcr;rw[show [tmA t]=[t].map tmA from rfl,zeo]
  have e59:∀ o,zbW o [tmA t]=(zb3 o [] [t]).map vbA:=fun o=>by unfold zbW;rw[show [tmA t]=[t].map tmA from rfl,zeo]
  have q57':okN (zac PT 57 [slP 1 5 [tmA t]] ⟨24,vpOf (zb3 24 [] [t]),0,2,0,(zb3 24 [] [t]).map vbA⟩)=1:=q57
  have q59':okN (zac PT 59 [slP 1 5 [tmA t]] ⟨24,vpOf (zb3 25 [] [t]),0,2,0,(zb3 25 [] [t]).map vbA⟩)=1:=q59
  have hz:∀ o,(zb3 o [] [t]).length<2 ^ 62:=fun o=>by
    have:=(znp (op:=o) (es:=preT t) (vs:=[]) List.Pairwise.nil).2
    rw[zco] at this
    show (zdM o [] (preT t)).length<_
    simp only[List.length_nil] at this;omega
  obtain⟨Z,hZ⟩:∃ Z,Z=zb3 24 [] [t]:=⟨_,rfl⟩
  obtain⟨W,hW⟩:∃ W,W=zb3 25 [] [t]:=⟨_,rfl⟩
  have hz4:=hz 24
  have hz5:=hz 25
  have hst:=s24 (jmpN Tryz.prog 37 zeW (zaf Tryz.prog) RK7 (finY Tryz.prog [.tmp 6] [4]) (zad Tryz.f24) (Z.length+1+(W.length+1))) t.op t.w t.v t.nq t.np t.p p p' (t.as.map tmA) (vs.map vbA) (us.map vbA)
  rw[← tm_e t,e57,e59,q57',n11,zae,← hZ,zau] at hst
  rw[← hZ] at hz4
  rw[← hW] at hz5
  have hb:=zd0 (n:=Z.length) (L:=fun k i=>jmpN Tryz.prog 37 zeW (zaf Tryz.prog) RK7 (finY Tryz.prog [.tmp 6] [4]) (zad Tryz.f24) (k+(W.length+1)) [0,0,1,0,1] [slP p 2 (vs.map vbA),slP p' 2 (us.map vbA),bxD [i64 t.op,i64 t.w,u64 t.v,stA t.nq t.np,slP t.p 5 (t.as.map tmA)],slP (vpOf Z) 2 (Z.map vbA),i64 Z.length,i64 i]) (A:=fun i=>ansY (bV (((Z.drop i).all fun v=>decide (v ∈ vs)) && (W.all fun v=>decide (v ∈ us))))) (fun k=>?_) (fun k i hi ih=>?_) Z.length 0 (by omega)
  · refine zaF mixed globs fn24 zzT nt24 rs24 zfk zeW [4] (Z.length+1+(W.length+1)) (hst.trans ?_)
    simp only[List.drop_zero] at hb
    unfold zb6
    rw[← hZ,← hW]
    exact hb
  · show jmpN Tryz.prog 37 zeW (zaf Tryz.prog) RK7 (finY Tryz.prog [.tmp 6] [4]) (zad Tryz.f24) (k+1+(W.length+1)) _ _=_
    rw[show k+1+(W.length+1)=(k+(W.length+1))+1 by omega,zal,l24b,zao,zb9 (by omega) (by omega),decide_eq_false (by omega),zaj,List.drop_length,← tm_e t,e57,e59,q59',n11,zae,← hW,zau]
    exact zwN us W p' (vpOf W) hu hz5 k
  · show jmpN Tryz.prog 37 zeW (zaf Tryz.prog) RK7 (finY Tryz.prog [.tmp 6] [4]) (zad Tryz.f24) (k+1+(W.length+1)) _ _=_
    have qq:=zak.2 (zrV vs p Z[i] hv)
    have q':okN (zac PT 58 [slP p 2 (vs.map vbA),vbA Z[i]] (mk1 8 (bi (decide (Z[i] ∈ vs)) 1 0)))=1:=qq
    rw[show k+1+(W.length+1)=(k+(W.length+1))+1 by omega,zal,l24b,zao,zb9 (by omega) (by omega),decide_eq_true hi,zae]
    simp only[zau,zbh (show i.succ≤Z.length from hi),zae,zkx Z i hi,n2_0,n2_1,tg_s,tg_i,zdJ,zdI,zcQ,vb_e,spHW,q',n11,bS1,zcf (show i<2 ^ 63 by omega)]
    rw[List.drop_eq_getElem_cons hi,List.all_cons]
    by_cases hm:Z[i] ∈ vs
    · rw[decide_eq_true hm,zae,Bool.true_and];exact ih
    · rw[decide_eq_false hm,zaj,Bool.false_and,Bool.false_and];rfl
theorem zrW(k:Nat)(a b:Tm):aggV [i64 k,i64 a.op,i64 a.w,u64 a.v,stA a.nq a.np,slP a.p 5 (a.as.map tmA),i64 b.op,i64 b.w,u64 b.v,stA b.nq b.np,slP b.p 5 (b.as.map tmA)]=gdA k a b:=rfl
theorem itW(c:Prop)[Decidable c](t:Tm)(l m:List (Nat × Nat × Nat)):zb6 t (if c then [] else l) m=if c then zb6 t [] m else zb6 t l m:=by split<;>rfl
theorem itB(c:Prop)[Decidable c](t:Tm)(l m:List (Nat × Nat × Nat)):zbH t (if c then [] else l) m=if c then zbH t [] m else zbH t l m:=by split<;>rfl
theorem spchk(t:Tm):zcj (tmA t)=chkT t:=by unfold zcj;rw[zaZ]
theorem spform(k:Nat)(a b:Tm):zdv (gdA k a b)=zdd k a.op b:=by unfold zdv;rw[zpW,zpX,zpY]
theorem spwth(t:Tm)(vs us:List (Nat × Nat × Nat)):zbi (tmA t) (vs.map vbA) (us.map vbA)=zb6 t vs us:=by unfold zbi;rw[zaZ,zcn,zcn]
theorem zzU(t:Tm)(us:List (Nat × Nat × Nat)):zbi (tmA t) [] (us.map vbA)=zb6 t [] us:=spwth t [] us
theorem spbnd(t:Tm)(vs us:List (Nat × Nat × Nat)):zaQ (tmA t) (vs.map vbA) (us.map vbA)=zbH t vs us:=by unfold zaQ;rw[zaZ,zcn,zcn]
theorem zzV(t:Tm)(us:List (Nat × Nat × Nat)):zaQ (tmA t) [] (us.map vbA)=zbH t [] us:=spbnd t [] us
structure GdOk(t:Tm):Prop where
  all:t.All NdQ
  len:zch t
  sz:szT t≤4096
  dp:dpT t≤64
  po:∀ u ∈ poT t,u.All NdQ∧u.Sm 401
theorem s_7(J:Jmp)(k ao aw av aq an ap bo bw bv bq bn bp xp yp:Nat)(al bl xl yl:List AV):(zaB Tryz.prog 68 (fun _=>none) (finY Tryz.prog [.tmp 6] [32]) J [] (zad Tryz.f7) (finY Tryz.prog [.tmp 6] [32]) []).run RK7 (zar 0 [aggV [i64 k,i64 ao,i64 aw,u64 av,stA aq an,slP ap 5 al,i64 bo,i64 bw,u64 bv,stA bq bn,slP bp 5 bl],slP xp 2 xl,slP yp 2 yl] noFr) (zaf Tryz.prog) =
  (bi (nbeq (okN (zac PT 22 [(aggV [(i64 k),(i64 ao),(i64 aw),(u64 av),(stA aq an),(slP ap 5 al),(i64 bo),(i64 bw),(u64 bv),(stA bq bn),(slP bp 5 bl)])] (mk1 8 (bi (zdv (aggV [(i64 k),(i64 ao),(i64 aw),(u64 av),(stA aq an),(slP ap 5 al),(i64 bo),(i64 bw),(u64 bv),(stA bq bn),(slP bp 5 bl)])) 1 0)))) 1)
    (bi (nbeq (Nat.sub 1 (bi (zdv (aggV [(i64 k),(i64 ao),(i64 aw),(u64 av),(stA aq an),(slP ap 5 al),(i64 bo),(i64 bw),(u64 bv),(stA bq bn),(slP bp 5 bl)])) 1 0)) 1)
      (ansY (i64 1))
      (bi (nbeq (okN (zac PT 23 [(tmV ao aw av aq an ap al),(mk1 8 0)] (i64 (zcj (tmV ao aw av aq an ap al))))) 1)
        (bi (nbeq (bi (nb (nbeq (zcj (tmV ao aw av aq an ap al)) 0)) 1 0) 1)
          (ansY (i64 (zcj (tmV ao aw av aq an ap al))))
          (bi (nbeq (bi (nb (nbeq k 1)) 1 0) 1)
            (bi (nbeq (okN (zac PT 23 [(tmV bo bw bv bq bn bp bl),(mk1 8 0)] (i64 (zcj (tmV bo bw bv bq bn bp bl))))) 1)
              (bi (nbeq (bi (nb (nbeq (zcj (tmV bo bw bv bq bn bp bl)) 0)) 1 0) 1)
                (ansY (i64 (zcj (tmV bo bw bv bq bn bp bl))))
                (bi (nbeq (bi (nbeq k 1) 1 0) 1)
                  (bi (nbeq (okN (zac PT 24 [(tmV ao aw av aq an ap al),(slP 0 2 []),(slP yp 2 yl)] (mk1 8 (bi (zbi (tmV ao aw av aq an ap al) [] yl) 1 0)))) 1)
                    (bi (nbeq (Nat.sub 1 (bi (zbi (tmV ao aw av aq an ap al) [] yl) 1 0)) 0)
                      (bi (nbeq (bi (nb (nbeq k 1)) 1 0) 1)
                        (bi (nbeq (okN (zac PT 24 [(tmV bo bw bv bq bn bp bl),(slP 0 2 []),(slP yp 2 yl)] (mk1 8 (bi (zbi (tmV bo bw bv bq bn bp bl) [] yl) 1 0)))) 1)
                          (bi (nbeq (Nat.sub 1 (bi (zbi (tmV bo bw bv bq bn bp bl) [] yl) 1 0)) 1)
                            (ansY (i64 12))
                            (bi (nbeq (bi (nb (nbeq aw 1)) 1 0) 1)
                              (ansY (i64 3))
                              (ansY (i64 0))))
                          (zab 301))
                        (bi (nbeq (bi (nb (nbeq aw 1)) 1 0) 1)
                          (ansY (i64 3))
                          (ansY (i64 0))))
                      (ansY (i64 12)))
                    (zab 301))
                  (bi (nbeq (bi (nbeq k 3) 1 0) 1)
                    (bi (nbeq (okN (zac PT 24 [(tmV ao aw av aq an ap al),(slP xp 2 xl),(slP yp 2 yl)] (mk1 8 (bi (zbi (tmV ao aw av aq an ap al) xl yl) 1 0)))) 1)
                      (bi (nbeq (Nat.sub 1 (bi (zbi (tmV ao aw av aq an ap al) xl yl) 1 0)) 0)
                        (bi (nbeq (bi (nb (nbeq k 1)) 1 0) 1)
                          (bi (nbeq (okN (zac PT 24 [(tmV bo bw bv bq bn bp bl),(slP 0 2 []),(slP yp 2 yl)] (mk1 8 (bi (zbi (tmV bo bw bv bq bn bp bl) [] yl) 1 0)))) 1)
                            (bi (nbeq (Nat.sub 1 (bi (zbi (tmV bo bw bv bq bn bp bl) [] yl) 1 0)) 1)
                              (ansY (i64 12))
                              (bi (nbeq (bi (nb (nbeq aw bw)) 1 0) 1)
                                (ansY (i64 3))
                                (ansY (i64 0))))
                            (zab 301))
                          (bi (nbeq (bi (nb (nbeq aw bw)) 1 0) 1)
                            (ansY (i64 3))
                            (ansY (i64 0))))
                        (ansY (i64 12)))
                      (zab 301))
                    (bi (nbeq (bi (nbeq k 4) 1 0) 1)
                      (bi (nbeq (okN (zac PT 24 [(tmV ao aw av aq an ap al),(slP xp 2 xl),(slP yp 2 yl)] (mk1 8 (bi (zbi (tmV ao aw av aq an ap al) xl yl) 1 0)))) 1)
                        (bi (nbeq (Nat.sub 1 (bi (zbi (tmV ao aw av aq an ap al) xl yl) 1 0)) 0)
                          (bi (nbeq (bi (nb (nbeq k 1)) 1 0) 1)
                            (bi (nbeq (okN (zac PT 24 [(tmV bo bw bv bq bn bp bl),(slP 0 2 []),(slP yp 2 yl)] (mk1 8 (bi (zbi (tmV bo bw bv bq bn bp bl) [] yl) 1 0)))) 1)
                              (bi (nbeq (Nat.sub 1 (bi (zbi (tmV bo bw bv bq bn bp bl) [] yl) 1 0)) 1)
                                (ansY (i64 12))
                                (bi (nbeq (bi (nb (nbeq aw bw)) 1 0) 1)
                                  (ansY (i64 3))
                                  (ansY (i64 0))))
                              (zab 301))
                            (bi (nbeq (bi (nb (nbeq aw bw)) 1 0) 1)
                              (ansY (i64 3))
                              (ansY (i64 0))))
                          (ansY (i64 12)))
                        (zab 301))
                      (bi (nbeq (okN (zac PT 24 [(tmV ao aw av aq an ap al),(slP xp 2 xl),(slP yp 2 yl)] (mk1 8 (bi (zbi (tmV ao aw av aq an ap al) xl yl) 1 0)))) 1)
                        (bi (nbeq (Nat.sub 1 (bi (zbi (tmV ao aw av aq an ap al) xl yl) 1 0)) 0)
                          (bi (nbeq (bi (nb (nbeq k 1)) 1 0) 1)
                            (bi (nbeq (okN (zac PT 24 [(tmV bo bw bv bq bn bp bl),(slP xp 2 xl),(slP yp 2 yl)] (mk1 8 (bi (zbi (tmV bo bw bv bq bn bp bl) xl yl) 1 0)))) 1)
                              (bi (nbeq (Nat.sub 1 (bi (zbi (tmV bo bw bv bq bn bp bl) xl yl) 1 0)) 1)
                                (ansY (i64 12))
                                (bi (nbeq (bi (nb (nbeq aw bw)) 1 0) 1)
                                  (ansY (i64 3))
                                  (ansY (i64 0))))
                              (zab 301))
                            (bi (nbeq (bi (nb (nbeq aw bw)) 1 0) 1)
                              (ansY (i64 3))
                              (ansY (i64 0))))
                          (ansY (i64 12)))
                        (zab 301))))))
              (zab 301))
            (bi (nbeq (bi (nbeq k 1) 1 0) 1)
              (bi (nbeq (okN (zac PT 24 [(tmV ao aw av aq an ap al),(slP 0 2 []),(slP yp 2 yl)] (mk1 8 (bi (zbi (tmV ao aw av aq an ap al) [] yl) 1 0)))) 1)
                (bi (nbeq (Nat.sub 1 (bi (zbi (tmV ao aw av aq an ap al) [] yl) 1 0)) 0)
                  (bi (nbeq (bi (nb (nbeq k 1)) 1 0) 1)
                    (bi (nbeq (okN (zac PT 24 [(tmV bo bw bv bq bn bp bl),(slP 0 2 []),(slP yp 2 yl)] (mk1 8 (bi (zbi (tmV bo bw bv bq bn bp bl) [] yl) 1 0)))) 1)
                      (bi (nbeq (Nat.sub 1 (bi (zbi (tmV bo bw bv bq bn bp bl) [] yl) 1 0)) 1)
                        (ansY (i64 12))
                        (bi (nbeq (bi (nb (nbeq aw 1)) 1 0) 1)
                          (ansY (i64 3))
                          (ansY (i64 0))))
                      (zab 301))
                    (bi (nbeq (bi (nb (nbeq aw 1)) 1 0) 1)
                      (ansY (i64 3))
                      (ansY (i64 0))))
                  (ansY (i64 12)))
                (zab 301))
              (bi (nbeq (bi (nbeq k 3) 1 0) 1)
                (bi (nbeq (okN (zac PT 24 [(tmV ao aw av aq an ap al),(slP xp 2 xl),(slP yp 2 yl)] (mk1 8 (bi (zbi (tmV ao aw av aq an ap al) xl yl) 1 0)))) 1)
                  (bi (nbeq (Nat.sub 1 (bi (zbi (tmV ao aw av aq an ap al) xl yl) 1 0)) 0)
                    (bi (nbeq (bi (nb (nbeq k 1)) 1 0) 1)
                      (bi (nbeq (okN (zac PT 24 [(tmV bo bw bv bq bn bp bl),(slP 0 2 []),(slP yp 2 yl)] (mk1 8 (bi (zbi (tmV bo bw bv bq bn bp bl) [] yl) 1 0)))) 1)
                        (bi (nbeq (Nat.sub 1 (bi (zbi (tmV bo bw bv bq bn bp bl) [] yl) 1 0)) 1)
                          (ansY (i64 12))
                          (bi (nbeq (bi (nb (nbeq aw bw)) 1 0) 1)
                            (ansY (i64 3))
                            (ansY (i64 0))))
                        (zab 301))
                      (bi (nbeq (bi (nb (nbeq aw bw)) 1 0) 1)
                        (ansY (i64 3))
                        (ansY (i64 0))))
                    (ansY (i64 12)))
                  (zab 301))
                (bi (nbeq (bi (nbeq k 4) 1 0) 1)
                  (bi (nbeq (okN (zac PT 24 [(tmV ao aw av aq an ap al),(slP xp 2 xl),(slP yp 2 yl)] (mk1 8 (bi (zbi (tmV ao aw av aq an ap al) xl yl) 1 0)))) 1)
                    (bi (nbeq (Nat.sub 1 (bi (zbi (tmV ao aw av aq an ap al) xl yl) 1 0)) 0)
                      (bi (nbeq (bi (nb (nbeq k 1)) 1 0) 1)
                        (bi (nbeq (okN (zac PT 24 [(tmV bo bw bv bq bn bp bl),(slP 0 2 []),(slP yp 2 yl)] (mk1 8 (bi (zbi (tmV bo bw bv bq bn bp bl) [] yl) 1 0)))) 1)
                          (bi (nbeq (Nat.sub 1 (bi (zbi (tmV bo bw bv bq bn bp bl) [] yl) 1 0)) 1)
                            (ansY (i64 12))
                            (bi (nbeq (bi (nb (nbeq aw bw)) 1 0) 1)
                              (ansY (i64 3))
                              (ansY (i64 0))))
                          (zab 301))
                        (bi (nbeq (bi (nb (nbeq aw bw)) 1 0) 1)
                          (ansY (i64 3))
                          (ansY (i64 0))))
                      (ansY (i64 12)))
                    (zab 301))
                  (bi (nbeq (okN (zac PT 24 [(tmV ao aw av aq an ap al),(slP xp 2 xl),(slP yp 2 yl)] (mk1 8 (bi (zbi (tmV ao aw av aq an ap al) xl yl) 1 0)))) 1)
                    (bi (nbeq (Nat.sub 1 (bi (zbi (tmV ao aw av aq an ap al) xl yl) 1 0)) 0)
                      (bi (nbeq (bi (nb (nbeq k 1)) 1 0) 1)
                        (bi (nbeq (okN (zac PT 24 [(tmV bo bw bv bq bn bp bl),(slP xp 2 xl),(slP yp 2 yl)] (mk1 8 (bi (zbi (tmV bo bw bv bq bn bp bl) xl yl) 1 0)))) 1)
                          (bi (nbeq (Nat.sub 1 (bi (zbi (tmV bo bw bv bq bn bp bl) xl yl) 1 0)) 1)
                            (ansY (i64 12))
                            (bi (nbeq (bi (nb (nbeq aw bw)) 1 0) 1)
                              (ansY (i64 3))
                              (ansY (i64 0))))
                          (zab 301))
                        (bi (nbeq (bi (nb (nbeq aw bw)) 1 0) 1)
                          (ansY (i64 3))
                          (ansY (i64 0))))
                      (ansY (i64 12)))
                    (zab 301)))))))
        (zab 301)))
    (zab 301)):=by kernel_rfl
theorem zzW:Tryz.f7.body=some (zad Tryz.f7):=by kernel_rfl
theorem fn_7:Tryz.prog.funcs[7]?=some Tryz.f7:=by kernel_rfl
theorem nt_7:Tryz.f7.ntmps=68:=by kernel_rfl
theorem rs_7:Tryz.f7.results.toList=[.tmp 6]:=by kernel_rfl
theorem s_8(J:Jmp)(k ao aw av aq an ap bo bw bv bq bn bp xp yp:Nat)(al bl xl yl:List AV):(zaB Tryz.prog 76 (fun _=>none) (finY Tryz.prog [.tmp 6] [32]) J [] (zad Tryz.f8) (finY Tryz.prog [.tmp 6] [32]) []).run RK7 (zar 0 [aggV [i64 k,i64 ao,i64 aw,u64 av,stA aq an,slP ap 5 al,i64 bo,i64 bw,u64 bv,stA bq bn,slP bp 5 bl],slP xp 2 xl,slP yp 2 yl] noFr) (zaf Tryz.prog) =
  (bi (nbeq (okN (zac PT 25 [(aggV [(i64 k),(i64 ao),(i64 aw),(u64 av),(stA aq an),(slP ap 5 al),(i64 bo),(i64 bw),(u64 bv),(stA bq bn),(slP bp 5 bl)])] (mk1 8 (bi (zdv (aggV [(i64 k),(i64 ao),(i64 aw),(u64 av),(stA aq an),(slP ap 5 al),(i64 bo),(i64 bw),(u64 bv),(stA bq bn),(slP bp 5 bl)])) 1 0)))) 1)
    (bi (nbeq (Nat.sub 1 (bi (zdv (aggV [(i64 k),(i64 ao),(i64 aw),(u64 av),(stA aq an),(slP ap 5 al),(i64 bo),(i64 bw),(u64 bv),(stA bq bn),(slP bp 5 bl)])) 1 0)) 1)
      (ansY (i64 1))
      (bi (nbeq (okN (zac PT 26 [(tmV ao aw av aq an ap al),(mk1 8 0)] (i64 (zcj (tmV ao aw av aq an ap al))))) 1)
        (bi (nbeq (bi (nb (nbeq (zcj (tmV ao aw av aq an ap al)) 0)) 1 0) 1)
          (ansY (i64 (zcj (tmV ao aw av aq an ap al))))
          (bi (nbeq (bi (nb (nbeq k 1)) 1 0) 1)
            (bi (nbeq (okN (zac PT 26 [(tmV bo bw bv bq bn bp bl),(mk1 8 0)] (i64 (zcj (tmV bo bw bv bq bn bp bl))))) 1)
              (bi (nbeq (bi (nb (nbeq (zcj (tmV bo bw bv bq bn bp bl)) 0)) 1 0) 1)
                (ansY (i64 (zcj (tmV bo bw bv bq bn bp bl))))
                (bi (nbeq (bi (nbeq k 1) 1 0) 1)
                  (bi (nbeq (okN (zac PT 27 [(tmV ao aw av aq an ap al),(slP 0 2 []),(slP yp 2 yl)] (mk1 8 (bi (zaQ (tmV ao aw av aq an ap al) [] yl) 1 0)))) 1)
                    (bi (nbeq (Nat.sub 1 (bi (zaQ (tmV ao aw av aq an ap al) [] yl) 1 0)) 0)
                      (bi (nbeq (okN (zac PT 27 [(tmV bo bw bv bq bn bp bl),(slP xp 2 xl),(slP yp 2 yl)] (mk1 8 (bi (zaQ (tmV bo bw bv bq bn bp bl) xl yl) 1 0)))) 1)
                        (bi (nbeq (Nat.sub 1 (bi (zaQ (tmV bo bw bv bq bn bp bl) xl yl) 1 0)) 1)
                          (ansY (i64 12))
                          (bi (nbeq (bi (nbeq k 1) 1 0) 1)
                            (bi (nbeq (bi (nb (nbeq aw 1)) 1 0) 0)
                              (bi (nbeq (bi (nb (nbeq k 1)) 1 0) 1)
                                (bi (nbeq (bi (nb (nbeq aw bw)) 1 0) 1)
                                  (ansY (i64 3))
                                  (ansY (i64 0)))
                                (ansY (i64 0)))
                              (ansY (i64 3)))
                            (bi (nbeq (bi (nb (nbeq k 1)) 1 0) 1)
                              (bi (nbeq (bi (nb (nbeq aw bw)) 1 0) 1)
                                (ansY (i64 3))
                                (ansY (i64 0)))
                              (ansY (i64 0)))))
                        (zab 301))
                      (ansY (i64 12)))
                    (zab 301))
                  (bi (nbeq (bi (nbeq k 3) 1 0) 1)
                    (bi (nbeq (okN (zac PT 27 [(tmV ao aw av aq an ap al),(slP xp 2 xl),(slP yp 2 yl)] (mk1 8 (bi (zaQ (tmV ao aw av aq an ap al) xl yl) 1 0)))) 1)
                      (bi (nbeq (Nat.sub 1 (bi (zaQ (tmV ao aw av aq an ap al) xl yl) 1 0)) 0)
                        (bi (nbeq (okN (zac PT 27 [(tmV bo bw bv bq bn bp bl),(slP 0 2 []),(slP yp 2 yl)] (mk1 8 (bi (zaQ (tmV bo bw bv bq bn bp bl) [] yl) 1 0)))) 1)
                          (bi (nbeq (Nat.sub 1 (bi (zaQ (tmV bo bw bv bq bn bp bl) [] yl) 1 0)) 1)
                            (ansY (i64 12))
                            (bi (nbeq (bi (nbeq k 1) 1 0) 1)
                              (bi (nbeq (bi (nb (nbeq aw 1)) 1 0) 0)
                                (bi (nbeq (bi (nb (nbeq k 1)) 1 0) 1)
                                  (bi (nbeq (bi (nb (nbeq aw bw)) 1 0) 1)
                                    (ansY (i64 3))
                                    (ansY (i64 0)))
                                  (ansY (i64 0)))
                                (ansY (i64 3)))
                              (bi (nbeq (bi (nb (nbeq k 1)) 1 0) 1)
                                (bi (nbeq (bi (nb (nbeq aw bw)) 1 0) 1)
                                  (ansY (i64 3))
                                  (ansY (i64 0)))
                                (ansY (i64 0)))))
                          (zab 301))
                        (ansY (i64 12)))
                      (zab 301))
                    (bi (nbeq (bi (nbeq k 4) 1 0) 1)
                      (bi (nbeq (okN (zac PT 27 [(tmV ao aw av aq an ap al),(slP xp 2 xl),(slP yp 2 yl)] (mk1 8 (bi (zaQ (tmV ao aw av aq an ap al) xl yl) 1 0)))) 1)
                        (bi (nbeq (Nat.sub 1 (bi (zaQ (tmV ao aw av aq an ap al) xl yl) 1 0)) 0)
                          (bi (nbeq (okN (zac PT 27 [(tmV bo bw bv bq bn bp bl),(slP 0 2 []),(slP yp 2 yl)] (mk1 8 (bi (zaQ (tmV bo bw bv bq bn bp bl) [] yl) 1 0)))) 1)
                            (bi (nbeq (Nat.sub 1 (bi (zaQ (tmV bo bw bv bq bn bp bl) [] yl) 1 0)) 1)
                              (ansY (i64 12))
                              (bi (nbeq (bi (nbeq k 1) 1 0) 1)
                                (bi (nbeq (bi (nb (nbeq aw 1)) 1 0) 0)
                                  (bi (nbeq (bi (nb (nbeq k 1)) 1 0) 1)
                                    (bi (nbeq (bi (nb (nbeq aw bw)) 1 0) 1)
                                      (ansY (i64 3))
                                      (ansY (i64 0)))
                                    (ansY (i64 0)))
                                  (ansY (i64 3)))
                                (bi (nbeq (bi (nb (nbeq k 1)) 1 0) 1)
                                  (bi (nbeq (bi (nb (nbeq aw bw)) 1 0) 1)
                                    (ansY (i64 3))
                                    (ansY (i64 0)))
                                  (ansY (i64 0)))))
                            (zab 301))
                          (ansY (i64 12)))
                        (zab 301))
                      (bi (nbeq (okN (zac PT 27 [(tmV ao aw av aq an ap al),(slP xp 2 xl),(slP yp 2 yl)] (mk1 8 (bi (zaQ (tmV ao aw av aq an ap al) xl yl) 1 0)))) 1)
                        (bi (nbeq (Nat.sub 1 (bi (zaQ (tmV ao aw av aq an ap al) xl yl) 1 0)) 0)
                          (bi (nbeq (okN (zac PT 27 [(tmV bo bw bv bq bn bp bl),(slP xp 2 xl),(slP yp 2 yl)] (mk1 8 (bi (zaQ (tmV bo bw bv bq bn bp bl) xl yl) 1 0)))) 1)
                            (bi (nbeq (Nat.sub 1 (bi (zaQ (tmV bo bw bv bq bn bp bl) xl yl) 1 0)) 1)
                              (ansY (i64 12))
                              (bi (nbeq (bi (nbeq k 1) 1 0) 1)
                                (bi (nbeq (bi (nb (nbeq aw 1)) 1 0) 0)
                                  (bi (nbeq (bi (nb (nbeq k 1)) 1 0) 1)
                                    (bi (nbeq (bi (nb (nbeq aw bw)) 1 0) 1)
                                      (ansY (i64 3))
                                      (ansY (i64 0)))
                                    (ansY (i64 0)))
                                  (ansY (i64 3)))
                                (bi (nbeq (bi (nb (nbeq k 1)) 1 0) 1)
                                  (bi (nbeq (bi (nb (nbeq aw bw)) 1 0) 1)
                                    (ansY (i64 3))
                                    (ansY (i64 0)))
                                  (ansY (i64 0)))))
                            (zab 301))
                          (ansY (i64 12)))
                        (zab 301))))))
              (zab 301))
            (bi (nbeq (bi (nbeq k 1) 1 0) 1)
              (bi (nbeq (okN (zac PT 27 [(tmV ao aw av aq an ap al),(slP 0 2 []),(slP yp 2 yl)] (mk1 8 (bi (zaQ (tmV ao aw av aq an ap al) [] yl) 1 0)))) 1)
                (bi (nbeq (Nat.sub 1 (bi (zaQ (tmV ao aw av aq an ap al) [] yl) 1 0)) 0)
                  (bi (nbeq (okN (zac PT 27 [(tmV bo bw bv bq bn bp bl),(slP xp 2 xl),(slP yp 2 yl)] (mk1 8 (bi (zaQ (tmV bo bw bv bq bn bp bl) xl yl) 1 0)))) 1)
                    (bi (nbeq (Nat.sub 1 (bi (zaQ (tmV bo bw bv bq bn bp bl) xl yl) 1 0)) 1)
                      (ansY (i64 12))
                      (bi (nbeq (bi (nbeq k 1) 1 0) 1)
                        (bi (nbeq (bi (nb (nbeq aw 1)) 1 0) 0)
                          (bi (nbeq (bi (nb (nbeq k 1)) 1 0) 1)
                            (bi (nbeq (bi (nb (nbeq aw bw)) 1 0) 1)
                              (ansY (i64 3))
                              (ansY (i64 0)))
                            (ansY (i64 0)))
                          (ansY (i64 3)))
                        (bi (nbeq (bi (nb (nbeq k 1)) 1 0) 1)
                          (bi (nbeq (bi (nb (nbeq aw bw)) 1 0) 1)
                            (ansY (i64 3))
                            (ansY (i64 0)))
                          (ansY (i64 0)))))
                    (zab 301))
                  (ansY (i64 12)))
                (zab 301))
              (bi (nbeq (bi (nbeq k 3) 1 0) 1)
                (bi (nbeq (okN (zac PT 27 [(tmV ao aw av aq an ap al),(slP xp 2 xl),(slP yp 2 yl)] (mk1 8 (bi (zaQ (tmV ao aw av aq an ap al) xl yl) 1 0)))) 1)
                  (bi (nbeq (Nat.sub 1 (bi (zaQ (tmV ao aw av aq an ap al) xl yl) 1 0)) 0)
                    (bi (nbeq (okN (zac PT 27 [(tmV bo bw bv bq bn bp bl),(slP 0 2 []),(slP yp 2 yl)] (mk1 8 (bi (zaQ (tmV bo bw bv bq bn bp bl) [] yl) 1 0)))) 1)
                      (bi (nbeq (Nat.sub 1 (bi (zaQ (tmV bo bw bv bq bn bp bl) [] yl) 1 0)) 1)
                        (ansY (i64 12))
                        (bi (nbeq (bi (nbeq k 1) 1 0) 1)
                          (bi (nbeq (bi (nb (nbeq aw 1)) 1 0) 0)
                            (bi (nbeq (bi (nb (nbeq k 1)) 1 0) 1)
                              (bi (nbeq (bi (nb (nbeq aw bw)) 1 0) 1)
                                (ansY (i64 3))
                                (ansY (i64 0)))
                              (ansY (i64 0)))
                            (ansY (i64 3)))
                          (bi (nbeq (bi (nb (nbeq k 1)) 1 0) 1)
                            (bi (nbeq (bi (nb (nbeq aw bw)) 1 0) 1)
                              (ansY (i64 3))
                              (ansY (i64 0)))
                            (ansY (i64 0)))))
                      (zab 301))
                    (ansY (i64 12)))
                  (zab 301))
                (bi (nbeq (bi (nbeq k 4) 1 0) 1)
                  (bi (nbeq (okN (zac PT 27 [(tmV ao aw av aq an ap al),(slP xp 2 xl),(slP yp 2 yl)] (mk1 8 (bi (zaQ (tmV ao aw av aq an ap al) xl yl) 1 0)))) 1)
                    (bi (nbeq (Nat.sub 1 (bi (zaQ (tmV ao aw av aq an ap al) xl yl) 1 0)) 0)
                      (bi (nbeq (okN (zac PT 27 [(tmV bo bw bv bq bn bp bl),(slP 0 2 []),(slP yp 2 yl)] (mk1 8 (bi (zaQ (tmV bo bw bv bq bn bp bl) [] yl) 1 0)))) 1)
                        (bi (nbeq (Nat.sub 1 (bi (zaQ (tmV bo bw bv bq bn bp bl) [] yl) 1 0)) 1)
                          (ansY (i64 12))
                          (bi (nbeq (bi (nbeq k 1) 1 0) 1)
                            (bi (nbeq (bi (nb (nbeq aw 1)) 1 0) 0)
                              (bi (nbeq (bi (nb (nbeq k 1)) 1 0) 1)
                                (bi (nbeq (bi (nb (nbeq aw bw)) 1 0) 1)
                                  (ansY (i64 3))
                                  (ansY (i64 0)))
                                (ansY (i64 0)))
                              (ansY (i64 3)))
                            (bi (nbeq (bi (nb (nbeq k 1)) 1 0) 1)
                              (bi (nbeq (bi (nb (nbeq aw bw)) 1 0) 1)
                                (ansY (i64 3))
                                (ansY (i64 0)))
                              (ansY (i64 0)))))
                        (zab 301))
                      (ansY (i64 12)))
                    (zab 301))
                  (bi (nbeq (okN (zac PT 27 [(tmV ao aw av aq an ap al),(slP xp 2 xl),(slP yp 2 yl)] (mk1 8 (bi (zaQ (tmV ao aw av aq an ap al) xl yl) 1 0)))) 1)
                    (bi (nbeq (Nat.sub 1 (bi (zaQ (tmV ao aw av aq an ap al) xl yl) 1 0)) 0)
                      (bi (nbeq (okN (zac PT 27 [(tmV bo bw bv bq bn bp bl),(slP xp 2 xl),(slP yp 2 yl)] (mk1 8 (bi (zaQ (tmV bo bw bv bq bn bp bl) xl yl) 1 0)))) 1)
                        (bi (nbeq (Nat.sub 1 (bi (zaQ (tmV bo bw bv bq bn bp bl) xl yl) 1 0)) 1)
                          (ansY (i64 12))
                          (bi (nbeq (bi (nbeq k 1) 1 0) 1)
                            (bi (nbeq (bi (nb (nbeq aw 1)) 1 0) 0)
                              (bi (nbeq (bi (nb (nbeq k 1)) 1 0) 1)
                                (bi (nbeq (bi (nb (nbeq aw bw)) 1 0) 1)
                                  (ansY (i64 3))
                                  (ansY (i64 0)))
                                (ansY (i64 0)))
                              (ansY (i64 3)))
                            (bi (nbeq (bi (nb (nbeq k 1)) 1 0) 1)
                              (bi (nbeq (bi (nb (nbeq aw bw)) 1 0) 1)
                                (ansY (i64 3))
                                (ansY (i64 0)))
                              (ansY (i64 0)))))
                        (zab 301))
                      (ansY (i64 12)))
                    (zab 301)))))))
        (zab 301)))
    (zab 301)):=by kernel_rfl
theorem zzX:Tryz.f8.body=some (zad Tryz.f8):=by kernel_rfl
theorem fn_8:Tryz.prog.funcs[8]?=some Tryz.f8:=by kernel_rfl
theorem nt_8:Tryz.f8.ntmps=76:=by kernel_rfl
theorem rs_8:Tryz.f8.results.toList=[.tmp 6]:=by kernel_rfl
theorem zzY(k:Nat)(a b:Tm)(vs us:List (Nat × Nat × Nat))(p p':Nat)(ha:GdOk a)(hb:GdOk b)(hv:vs.length<2 ^ 62)(hu:us.length<2 ^ 62):zac PT 7 [gdA k a b,slP p 2 (vs.map vbA),slP p' 2 (us.map vbA)] (i64 (zjg k a b vs us)):=by
  have sa:=ha.sz
  have sb:=hb.sz
  have qf:okN (zac PT 22 [gdA k a b] (mk1 8 (bi (zdd k a.op b) 1 0)))=1:=zak.2 (zzL k a b hb.len)
  have qa:okN (zac PT 23 [tmA a,mk1 8 0] (i64 (chkT a)))=1:=zak.2 (zrO a ha.all ha.len (by omega))
  have qb:okN (zac PT 23 [tmA b,mk1 8 0] (i64 (chkT b)))=1:=zak.2 (zrO b hb.all hb.len (by omega))
  have qa1:okN (zac PT 24 [tmA a,slP p 2 (vs.map vbA),slP p' 2 (us.map vbA)] (mk1 8 (bi (zb6 a vs us) 1 0)))=1:=zak.2 (zkz a vs us p p' (by first | exact hv | exact (by simp)) hu ha.len (by omega))
  have qb1:okN (zac PT 24 [tmA b,slP p 2 (vs.map vbA),slP p' 2 (us.map vbA)] (mk1 8 (bi (zb6 b vs us) 1 0)))=1:=zak.2 (zkz b vs us p p' (by first | exact hv | exact (by simp)) hu hb.len (by omega))
  have qa0:okN (zac PT 24 [tmA a,slP 0 2 [],slP p' 2 (us.map vbA)] (mk1 8 (bi (zb6 a [] us) 1 0)))=1:=zak.2 (zkz a [] us 0 p' (by first | exact hv | exact (by simp)) hu ha.len (by omega))
  have qb0:okN (zac PT 24 [tmA b,slP 0 2 [],slP p' 2 (us.map vbA)] (mk1 8 (bi (zb6 b [] us) 1 0)))=1:=zak.2 (zkz b [] us 0 p' (by first | exact hv | exact (by simp)) hu hb.len (by omega))
  have hst:=s_7 (jmpN Tryz.prog 68 (fun _=>none) (zaf Tryz.prog) RK7 (finY Tryz.prog [.tmp 6] [32]) (zad Tryz.f7) 0) k a.op a.w a.v a.nq a.np a.p b.op b.w b.v b.nq b.np b.p p p' (a.as.map tmA) (b.as.map tmA) (vs.map vbA) (us.map vbA)
  rw[zrW k a b] at hst
  refine zaF mixed globs fn_7 zzW nt_7 rs_7 zfk (fun _=>none) [32] 0 (hst.trans ?_)
  simp only[zjh a,zjh b,spform,spchk,spwth,zzU,qf,qa,qb,qa1,qb1,qa0,qb0,n11,zae]
  unfold zjg
  rw[itW,itW]
  clear hst qf qa qb qa1 qb1 qa0 qb0
  generalize zdd k a.op b=F
  generalize chkT a=ca
  generalize chkT b=cb
  generalize zb6 a vs us=wa
  generalize zb6 b vs us=wb
  generalize zb6 a [] us=wa0
  generalize zb6 b [] us=wb0
  generalize a.w=aw
  generalize b.w=bw
  simp only[zao,b0,bS0,bS1]
  simp only[zaH]
  cases F
  · rw[zaj,if_pos rfl]
  · rw[zae,if_neg (by simp)]
    by_cases hca:ca=0
    · rw[decide_eq_true hca,nb_t,zaj,if_neg (fun h=>h hca)]
      by_cases h1:k=1
      · subst h1
        simp only[decide_true,decide_false,nb_t,nb_f,zae,zaj,ne_eq,not_true_eq_false,false_and,if_false,if_true,or_false,true_and,true_or,show ¬ ((1:Nat)=3) by decide,show ¬ ((1:Nat)=4) by decide,or_self]
        cases wa0<;>cases wb<;>by_cases hw:aw=1<;>simp[hw,zae,zaj,nb_t,nb_f]
      · rw[decide_eq_false h1,nb_f,zae]
        by_cases hcb:cb=0
        · rw[decide_eq_true hcb,nb_t,zaj,if_neg (fun h=>h.2 hcb),zaj]
          by_cases h3:k=3
          · subst h3
            simp only[decide_true,decide_false,nb_t,nb_f,zae,zaj,ne_eq,not_true_eq_false,not_false_eq_true,false_and,if_false,if_true,or_false,true_and,true_or,false_or,show ¬ ((3:Nat)=1) by decide,show ¬ ((3:Nat)=4) by decide,or_self]
            cases wa<;>cases wb0<;>by_cases hw:aw=bw<;>simp[hw,zae,zaj,nb_t,nb_f]
          · rw[decide_eq_false h3,zaj]
            by_cases h4:k=4
            · subst h4
              simp only[decide_true,decide_false,nb_t,nb_f,zae,zaj,ne_eq,not_true_eq_false,not_false_eq_true,false_and,if_false,if_true,or_false,true_and,true_or,false_or,or_true,show ¬ ((4:Nat)=1) by decide,show ¬ ((4:Nat)=3) by decide,or_self]
              cases wa<;>cases wb0<;>by_cases hw:aw=bw<;>simp[hw,zae,zaj,nb_t,nb_f]
            · rw[decide_eq_false h4,zaj]
              simp only[h1,h3,h4,decide_true,decide_false,nb_t,nb_f,zae,zaj,ne_eq,not_true_eq_false,not_false_eq_true,false_and,if_false,if_true,or_false,true_and,true_or,false_or,or_true,or_self]
              cases wa<;>cases wb<;>by_cases hw:aw=bw<;>simp[hw,zae,zaj,nb_t,nb_f]
        · rw[decide_eq_false hcb,nb_f,zae,if_pos ⟨h1,hcb⟩]
    · rw[decide_eq_false hca,nb_f,zae,if_pos hca]
theorem zzZ(k:Nat)(a b:Tm)(vs us:List (Nat × Nat × Nat))(p p':Nat)(ha:GdOk a)(hb:GdOk b)(hv:vs.length<2 ^ 62)(hu:us.length<2 ^ 62):zac PT 8 [gdA k a b,slP p 2 (vs.map vbA),slP p' 2 (us.map vbA)] (i64 (zgx k a b vs us)):=by
  have sa:=ha.sz
  have sb:=hb.sz
  have qf:okN (zac PT 25 [gdA k a b] (mk1 8 (bi (zdd k a.op b) 1 0)))=1:=zak.2 (zzM k a b hb.len)
  have qa:okN (zac PT 26 [tmA a,mk1 8 0] (i64 (chkT a)))=1:=zak.2 (zrS a ha.po (by omega) ha.dp)
  have qb:okN (zac PT 26 [tmA b,mk1 8 0] (i64 (chkT b)))=1:=zak.2 (zrS b hb.po (by omega) hb.dp)
  have qa1:okN (zac PT 27 [tmA a,slP p 2 (vs.map vbA),slP p' 2 (us.map vbA)] (mk1 8 (bi (zbH a vs us) 1 0)))=1:=zak.2 (zky vs us p p' a (by first | exact hv | exact (by simp)) hu (by omega))
  have qb1:okN (zac PT 27 [tmA b,slP p 2 (vs.map vbA),slP p' 2 (us.map vbA)] (mk1 8 (bi (zbH b vs us) 1 0)))=1:=zak.2 (zky vs us p p' b (by first | exact hv | exact (by simp)) hu (by omega))
  have qa0:okN (zac PT 27 [tmA a,slP 0 2 [],slP p' 2 (us.map vbA)] (mk1 8 (bi (zbH a [] us) 1 0)))=1:=zak.2 (zky [] us 0 p' a (by first | exact hv | exact (by simp)) hu (by omega))
  have qb0:okN (zac PT 27 [tmA b,slP 0 2 [],slP p' 2 (us.map vbA)] (mk1 8 (bi (zbH b [] us) 1 0)))=1:=zak.2 (zky [] us 0 p' b (by first | exact hv | exact (by simp)) hu (by omega))
  have hst:=s_8 (jmpN Tryz.prog 76 (fun _=>none) (zaf Tryz.prog) RK7 (finY Tryz.prog [.tmp 6] [32]) (zad Tryz.f8) 0) k a.op a.w a.v a.nq a.np a.p b.op b.w b.v b.nq b.np b.p p p' (a.as.map tmA) (b.as.map tmA) (vs.map vbA) (us.map vbA)
  rw[zrW k a b] at hst
  refine zaF mixed globs fn_8 zzX nt_8 rs_8 zfk (fun _=>none) [32] 0 (hst.trans ?_)
  simp only[zjh a,zjh b,spform,spchk,spbnd,zzV,qf,qa,qb,qa1,qb1,qa0,qb0,n11,zae]
  unfold zgx
  rw[itB,itB]
  clear hst qf qa qb qa1 qb1 qa0 qb0
  generalize zdd k a.op b=F
  generalize chkT a=ca
  generalize chkT b=cb
  generalize zbH a vs us=wa
  generalize zbH b vs us=wb
  generalize zbH a [] us=wa0
  generalize zbH b [] us=wb0
  generalize a.w=aw
  generalize b.w=bw
  simp only[zao,b0,bS0,bS1]
  simp only[zaH]
  cases F
  · rw[zaj,if_pos rfl]
  · rw[zae,if_neg (by simp)]
    by_cases hca:ca=0
    · rw[decide_eq_true hca,nb_t,zaj,if_neg (fun h=>h hca)]
      by_cases h1:k=1
      · subst h1
        simp only[decide_true,decide_false,nb_t,nb_f,zae,zaj,ne_eq,not_true_eq_false,false_and,if_false,if_true,or_false,true_and,true_or,show ¬ ((1:Nat)=3) by decide,show ¬ ((1:Nat)=4) by decide,or_self]
        cases wa0<;>cases wb<;>by_cases hw:aw=1<;>simp[hw,zae,zaj,nb_t,nb_f]
      · rw[decide_eq_false h1,nb_f,zae]
        by_cases hcb:cb=0
        · rw[decide_eq_true hcb,nb_t,zaj,if_neg (fun h=>h.2 hcb),zaj]
          by_cases h3:k=3
          · subst h3
            simp only[decide_true,decide_false,nb_t,nb_f,zae,zaj,ne_eq,not_true_eq_false,not_false_eq_true,false_and,if_false,if_true,or_false,true_and,true_or,false_or,show ¬ ((3:Nat)=1) by decide,show ¬ ((3:Nat)=4) by decide,or_self]
            cases wa<;>cases wb0<;>by_cases hw:aw=bw<;>simp[hw,zae,zaj,nb_t,nb_f]
          · rw[decide_eq_false h3,zaj]
            by_cases h4:k=4
            · subst h4
              simp only[decide_true,decide_false,nb_t,nb_f,zae,zaj,ne_eq,not_true_eq_false,not_false_eq_true,false_and,if_false,if_true,or_false,true_and,true_or,false_or,or_true,show ¬ ((4:Nat)=1) by decide,show ¬ ((4:Nat)=3) by decide,or_self]
              cases wa<;>cases wb0<;>by_cases hw:aw=bw<;>simp[hw,zae,zaj,nb_t,nb_f]
            · rw[decide_eq_false h4,zaj]
              simp only[h1,h3,h4,decide_true,decide_false,nb_t,nb_f,zae,zaj,ne_eq,not_true_eq_false,not_false_eq_true,false_and,if_false,if_true,or_false,true_and,true_or,false_or,or_true,or_self]
              cases wa<;>cases wb<;>by_cases hw:aw=bw<;>simp[hw,zae,zaj,nb_t,nb_f]
        · rw[decide_eq_false hcb,nb_f,zae,if_pos ⟨h1,hcb⟩]
    · rw[decide_eq_false hca,nb_f,zae,if_pos hca]
end Go.Eng
