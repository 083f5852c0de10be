/- A part of the proof that the evaluator in GnC, and the driver in GnZ, answer as the model does; no conditions. -/
import Derived.Test.YtfmoohdaimlggaaGreatDoorGnJd
namespace Go.Eng
open Go.RowKit Go.Proofs
set_option maxRecDepth 4000
noncomputable section
def q23:List Nat:=[9,0,1,0,1,1,1,1]
def S23(ck:Nat)(M:List AV):List AV:=[tupV [⟨10,5,0,0,0,[]⟩,⟨10,6,0,0,0,[]⟩],tupV [i64 4],tupV [⟨16,4,0,0,0,[]⟩,⟨16,1,0,1,0,[i64 0]⟩,⟨16,1,0,1,0,[⟨12,7,1,0,0,[]⟩]⟩,⟨16,2,9,ck,0,M⟩]]
def zpV(J:Jmp):Jmp:=lblW PT 61 zhD 0 zef RW2 (zad Tryz.f23) zfx J
def J23(n:Nat):Jmp:=jmpW PT 61 zhD 0 zef RW2 (zad Tryz.f23) zfx n
end
theorem zns(n:Nat)(q:List Nat)(ds:List AV):J23 (n+1) q ds=zpV (J23 n) q ds:=rfl
theorem s23(J:Jmp)(to tw tv tq tn tp:Nat)(tl:List AV):(zbm PT 61 zhD 0 zef J zfx [] (zad Tryz.f23) zfx []).run RW2 (zar 0 [tmV to tw tv tq tn tp tl,bV false] noFr) (zbk PT) =
  (bi (nbeq (okN (zac PT 52 [(tmV to tw tv tq tn tp tl)] (i64 (zez (tmV to tw tv tq tn tp tl))))) 1)
 (bi (nbeq (bi (nb (nble (biased 3 (zez (tmV to tw tv tq tn tp tl))) 9223372036854779904)) 1 0) 0)
 (bi (nbeq (okN (zac PT 53 [(tmV to tw tv tq tn tp tl)] (i64 (zed (tmV to tw tv tq tn tp tl))))) 1)
 (bi (nbeq (bi (nb (nble (biased 3 (zed (tmV to tw tv tq tn tp tl))) 9223372036854775872)) 1 0) 1)
 (ansY (tupV [(i64 7),(tupV [])]))
 (bi (nbeq (okN (zac PT 54 [(tmV to tw tv tq tn tp tl),(mk1 8 0)] (i64 (zbA (tmV to tw tv tq tn tp tl))))) 1)
 (bi (nbeq (bi (nb (nbeq (zbA (tmV to tw tv tq tn tp tl)) 0)) 1 0) 1)
 (ansY (tupV [(i64 (zbA (tmV to tw tv tq tn tp tl))),(tupV [])]))
 (bi (nbeq (okN (zhT PT 119 [(AV.mk 26 0 0 0 0 [(tmV to tw tv tq tn tp tl)])] (zeJ [(AV.mk 26 0 0 0 0 [(tmV to tw tv tq tn tp tl)])]))) 1)
 (J q23 ((tupV (zeJ [(AV.mk 26 0 0 0 0 [(tmV to tw tv tq tn tp tl)])]))::S23 0 []))
 (zab 301)))
 (zab 301)))
 (zab 301))
 (ansY (tupV [(i64 7),(tupV [])])))
 (zab 301)):=by kernel_rfl
theorem l23a(J:Jmp)(ck:Nat)(M:List AV):zpV J q23 (tupV []::S23 ck M) =
  (bi (nble (lenL M) 4611686018427387904)
 (bi (nbeq (bi (nb (nble (biased 3 (lenL M)) 9223372036854775824)) 1 0) 1)
 (ansY (tupV [(i64 7),(tupV [])]))
 (ansY (tupV [(i64 0),(tupV [])])))
 (zab 31)):=by kernel_rfl
theorem l23b(J:Jmp)(to tw tv tq tn tp:Nat)(tl:List AV)(ck:Nat)(M es:List AV):zpV J q23 (tupV (tmV to tw tv tq tn tp tl::es)::S23 ck M) =
  (bi (nbeq (okN (zac PT 56 [(i64 to)] (mk1 8 (bi (bi (nbeq to 24) true (nbeq to 25)) 1 0)))) 1)
 (bi (nbeq (Nat.sub 1 (bi (bi (nbeq to 24) true (nbeq to 25)) 1 0)) 1)
 (bi (bi (zho M) true false)
 (J q23 ((tupV es)::S23 ck M))
 (zab 238))
 (bi (hasE 9 (stA tq tn) M)
 (bi (tyE true [3,3,7,9,37] (getE 9 (stA tq tn) M))
 (bi (nbeq (bi (nb (nbeq (nthL (cellsOf (getE 9 (stA tq tn) M)) 0).2 to)) 1 0) 0)
 (bi (nbeq (bi (nb (nbeq (nthL (cellsOf (getE 9 (stA tq tn) M)) 1).2 tw)) 1 0) 1)
 (ansY (tupV [(i64 12),(tupV [])]))
 (bi (bi (zho (putE 9 (stA tq tn) (tmV to tw tv tq tn tp tl) ck M)) true false)
 (J q23 ((tupV es)::S23 (clkE 9 (stA tq tn) ck M) (putE 9 (stA tq tn) (tmV to tw tv tq tn tp tl) ck M)))
 (zab 238)))
 (ansY (tupV [(i64 12),(tupV [])])))
 (zab 181))
 (bi (bi (zho (putE 9 (stA tq tn) (tmV to tw tv tq tn tp tl) ck M)) true false)
 (J q23 ((tupV es)::S23 (clkE 9 (stA tq tn) ck M) (putE 9 (stA tq tn) (tmV to tw tv tq tn tp tl) ck M)))
 (zab 238))))
 (zab 301)):=by kernel_rfl
theorem zzw:Tryz.f23.body=some (zad Tryz.f23):=by kernel_rfl
theorem nt23:Tryz.f23.ntmps=61:=by kernel_rfl
theorem rs23:Tryz.f23.results.toList=[.cell 4 32]:=by kernel_rfl
theorem fn23:Tryz.prog.funcs[23]?=some Tryz.f23:=by kernel_rfl
inductive RelM:List AV→List Tm→Prop
  | nil:RelM [] []
  | cons {b:Nat} {o u:Tm} {M:List AV} {acc:List Tm}:u.op=o.op→u.w=o.w→RelM M acc→RelM (entV b (stA o.nq o.np) (tmA u)::M) (o::acc)
theorem RelM.len{M:List AV}{acc:List Tm}(h:RelM M acc):lenL M=acc.length:=by
  rw[zaz]
  induction h with
  | nil=>rfl
  | cons _ _ _ ih=>simp[ih]
theorem zrN(u:Tm):zbG (tmA u)=true:=by cases u;rw[zaP];rfl
theorem RelM.ents{M:List AV}{acc:List Tm}(h:RelM M acc):zho M=true:=by
  induction h with
  | nil=>rfl
  | cons _ _ _ ih =>
    rename_i b o u M acc _ _ _
    show bi (zf2 (entV b (stA o.nq o.np) (tmA u))) (zho M) false=true
    rw[ih,show zf2 (entV b (stA o.nq o.np) (tmA u))=zbG (tmA u) from rfl,zrN];rfl
theorem RelM.find{M:List AV}{acc:List Tm}(h:RelM M acc)(q n:Nat):(acc.find? (fun o=>decide (o.nq=q∧o.np=n))=none∧zcp 9 (stA q n) M=none) ∨ ∃ o u,acc.find? (fun o=>decide (o.nq=q∧o.np=n))=some o∧zcp 9 (stA q n) M=some (tmA u)∧u.op=o.op∧u.w=o.w:=by
  induction h with
  | nil=>exact .inl ⟨rfl,rfl⟩
  | cons h1 h2 _ ih =>
    rename_i b o u M acc _
    have e:zcp 9 (stA q n) (entV b (stA o.nq o.np) (tmA u)::M)=bi (bi (nbeq o.np n) (nbeq o.nq q) false) (some (tmA u)) (zcp 9 (stA q n) M):=rfl
    rw[e,List.find?_cons]
    by_cases hc:o.nq=q∧o.np=n
    · rw[decide_eq_true hc,zaa.2 hc.2,zaa.2 hc.1]
      exact .inr ⟨o,u,rfl,rfl,h1,h2⟩
    · have:bi (nbeq o.np n) (nbeq o.nq q) false=false:=by
        rw[← Bool.not_eq_true,zaw,zaa,zaa];exact fun h=>hc ⟨h.2,h.1⟩
      rw[decide_eq_false hc,this]
      exact ih
theorem RelM.upd{M:List AV}{acc:List Tm}(h:RelM M acc)(v o:Tm)(hf:acc.find? (fun o=>decide (o.nq=v.nq∧o.np=v.np))=some o)(h1:v.op=o.op)(h2:v.w=o.w):RelM (updE 9 (stA v.nq v.np) (tmA v) M) acc:=by
  induction h with
  | nil=>simp at hf
  | cons g1 g2 g3 ih =>
    rename_i b o' u M acc
    have e:updE 9 (stA v.nq v.np) (tmA v) (entV b (stA o'.nq o'.np) (tmA u)::M)=bi (bi (nbeq o'.np v.np) (nbeq o'.nq v.nq) false) (entV b (stA v.nq v.np) (tmA v)::M) (entV b (stA o'.nq o'.np) (tmA u)::updE 9 (stA v.nq v.np) (tmA v) M):=rfl
    rw[e]
    rw[List.find?_cons] at hf
    by_cases hc:o'.nq=v.nq∧o'.np=v.np
    · rw[decide_eq_true hc] at hf
      cases hf
      rw[zaa.2 hc.2,zaa.2 hc.1,← hc.1,← hc.2]
      exact .cons h1 h2 g3
    · have:bi (nbeq o'.np v.np) (nbeq o'.nq v.nq) false=false:=by
        rw[← Bool.not_eq_true,zaw,zaa,zaa];exact fun h=>hc ⟨h.2,h.1⟩
      rw[this]
      rw[decide_eq_false hc] at hf
      exact .cons g1 g2 (ih hf)
theorem RelM.snoc{M:List AV}{acc:List Tm}(h:RelM M acc)(b:Nat)(v:Tm):RelM (appL M [entV b (stA v.nq v.np) (tmA v)]) (acc++[v]):=by
  rw[zaV]
  induction h with
  | nil=>exact .cons rfl rfl .nil
  | cons h1 h2 _ ih=>exact .cons h1 h2 ih
theorem gtc{x:Nat}(c:Nat)(hx:x<2 ^ 63)(hc:c<2 ^ 63):nb (nble (biased 3 x) (2 ^ 63+c))=decide (c<x):=by
  have e:biased 3 c=2 ^ 63+c:=by
    have:biased 3 c=(c+2 ^ 63) % 2 ^ 64:=zbI _ c
    rw[this,Nat.mod_eq_of_lt (by omega)];omega
  rw[← e,zbC hx hc]
  by_cases h:c<x
  · rw[decide_eq_true h,decide_eq_false (by omega)];rfl
  · rw[decide_eq_false h,decide_eq_true (by omega)];rfl
theorem gt16{x:Nat}(hx:x<2 ^ 63):nb (nble (biased 3 x) 9223372036854775824)=decide (16<x):=gtc 16 hx (by omega)
theorem zzx{x:Nat}(hx:x<2 ^ 63):nb (nble (biased 3 x) 9223372036854779904)=decide (4096<x):=gtc 4096 hx (by omega)
theorem gt64{x:Nat}(hx:x<2 ^ 63):nb (nble (biased 3 x) 9223372036854775872)=decide (64<x):=gtc 64 hx (by omega)
theorem z2P(u:Tm):tyE true [3,3,7,9,37] (tmA u)=true:=by cases u;rw[zaP];rfl
theorem z2Q(u:Tm):(nthL (cellsOf (tmA u)) 0).2=u.op:=by cases u;rw[zaP];rfl
theorem z2R(u:Tm):(nthL (cellsOf (tmA u)) 1).2=u.w:=by cases u;rw[zaP];rfl
noncomputable def chkN(o:Option (List Tm)):Nat:=match o with | none=>12 | some l=>if 16<l.length then 7 else 0
theorem zfA{acc l:List Tm}{u:Tm}(h:varB u.op=true):nmS acc (u::l)=(match acc.find? (fun o=>decide (o.nq=u.nq∧o.np=u.np)) with | some o=>if o.op=u.op∧o.w=u.w then nmS acc l else none | none=>nmS (acc++[u]) l):=by
  rw[nmS,if_pos h]
  split<;>rename_i he<;>simp only[he]
theorem zkw{acc l:List Tm}{u:Tm}(h:varB u.op=false):nmS acc (u::l)=nmS acc l:=by
  rw[nmS,if_neg (by rw[h];simp)]
theorem zzy(k:Nat):∀ (es:List Tm) (M:List AV) (acc:List Tm) (ck:Nat),RelM M acc→acc.length+es.length≤1000000→J23 (k+es.length+1) q23 (tupV (es.map tmA)::S23 ck M)=ansY (tupV [i64 (chkN (nmS acc es)),tupV []]):=by
  intro es
  induction es with
  | nil =>
    intro M acc ck hr hl
    simp only[List.length_nil,Nat.add_zero] at hl ⊢
    rw[zns,List.map_nil,l23a,hr.len,zah.2 (show acc.length≤4611686018427387904 by omega),zae,zao,gt16 (by omega),nmS]
    show _=ansY (tupV [i64 (if 16<acc.length then 7 else 0),tupV []])
    by_cases h:16<acc.length
    · rw[decide_eq_true h,zae,if_pos h]
    · rw[decide_eq_false h,zaj,if_neg h]
  | cons e es ih =>
    intro M acc ck hr hl
    simp only[List.length_cons] at hl
    have h1:J23 (k+(e::es).length+1)=J23 ((k+es.length+1)+1):=rfl
    rw[h1,zns,List.map_cons]
    have he:tmA e=tmV e.op e.w e.v e.nq e.np e.p (e.as.map tmA):=by cases e;rw[zaP];rfl
    rw[he,l23b,← he]
    have q56:okN (zac PT 56 [i64 e.op] (mk1 8 (bi (varB e.op) 1 0)))=1:=zak.2 (zrK e.op)
    rw[show bi (nbeq e.op 24) true (nbeq e.op 25)=varB e.op from rfl,q56,n11,zae]
    cases hv:varB e.op
    · rw[show nbeq (Nat.sub 1 (bi false 1 0)) 1=true from rfl,zae,hr.ents,zae,zae,zkw hv]
      exact ih M acc ck hr (by omega)
    · rw[show nbeq (Nat.sub 1 (bi true 1 0)) 1=false from rfl,zaj,zfA hv]
      rcases hr.find e.nq e.np with⟨g1,g2⟩ | ⟨o,u,g1,g2,g3,g4⟩
      · have hh:hasE 9 (stA e.nq e.np) M=false:=by unfold hasE;rw[g2];rfl
        have hp:putE 9 (stA e.nq e.np) (tmA e) ck M=appL M [entV ck (stA e.nq e.np) (tmA e)]:=by unfold putE;rw[g2];rfl
        have hr2:=hr.snoc ck e
        rw[hh,zaj,hp,hr2.ents,zae,zae,g1]
        exact ih _ (acc++[e]) _ hr2 (by simp only[List.length_append,List.length_cons,List.length_nil];omega)
      · have hh:hasE 9 (stA e.nq e.np) M=true:=by unfold hasE;rw[g2];rfl
        have hg:getE 9 (stA e.nq e.np) M=tmA u:=by unfold getE;rw[g2];rfl
        have hp:putE 9 (stA e.nq e.np) (tmA e) ck M=updE 9 (stA e.nq e.np) (tmA e) M:=by unfold putE;rw[g2];rfl
        rw[hh,zae,hg,z2P,zae,z2Q,z2R,hp,g3,g4,g1]
        simp only[zaH]
        by_cases a1:o.op=e.op
        · rw[decide_eq_true a1]
          by_cases a2:o.w=e.w
          · have hr2:=hr.upd e o g1 a1.symm a2.symm
            rw[decide_eq_true a2,hr2.ents,if_pos ⟨a1,a2⟩]
            exact ih _ acc _ hr2 (by omega)
          · rw[decide_eq_false a2,if_neg (fun h=>a2 h.2)]
            rfl
        · rw[decide_eq_false a1,if_neg (fun h=>a1 h.1)]
          rfl
mutual
theorem zco:∀ t:Tm,(preT t).length=szT t
  | .mk _ _ _ _ _ _ l=>by rw[preT,szT,List.length_cons,zlK l];omega
theorem zlK:∀ l:List Tm,(zb8 l).length=szTs l
  | []=>rfl
  | t::l=>by rw[zb8,szTs,List.length_append,zco t,zlK l]
end
theorem zlk(t:Tm):chkT t=if 4096<szT t ∨ 64<dpT t then 7 else if zbz (poT t) ≠ 0 then zbz (poT t) else chkN (nmS [] (preT t)):=by
  unfold chkT chkN
  rfl
theorem zzz:∀ t:Tm,dpT t≤szT t:=by
  intro t
  induction t using Tm.ind with
  | h op w v nq np p l ih =>
    rw[dpT,szT]
    have key:∀ l:List Tm,(∀ t ∈ l,dpT t≤szT t)→dpTs l≤szTs l:=by
      intro l
      induction l with
      | nil=>intro _;exact Nat.le_refl _
      | cons a l ih2 =>
        intro h
        rw[dpTs,szTs]
        have h1:=h a (by simp)
        have h2:=ih2 fun t ht=>h t (by simp[ht])
        omega
    have:=key l ih
    omega
theorem z2S(t:Tm)(hall:t.All NdQ)(hlen:zch t)(hs:szT t<2 ^ 62)(N:Nat)(hN:N=0+(preT t).length+1):(zbm PT 61 zhD 0 zef (J23 N) zfx [] (zad Tryz.f23) zfx []).run RW2 (zar 0 [tmA t,bV false] noFr) (zbk PT)=ansY (tupV [i64 (chkT t),tupV []]):=by
  have he:tmA t=tmV t.op t.w t.v t.nq t.np t.p (t.as.map tmA):=by cases t;rw[zaP];rfl
  have h:=s23 (J23 N) t.op t.w t.v t.nq t.np t.p (t.as.map tmA)
  rw[← he] at h
  refine h.trans ?_
  have e1:zez (tmA t)=szT t:=by unfold zez;rw[zaZ]
  have e2:zed (tmA t)=dpT t:=by unfold zed;rw[zaZ]
  have e3:zbA (tmA t)=zbz (poT t):=by unfold zbA;rw[zaZ]
  have q52:=zak.2 (zzk t hs)
  have q53:=zak.2 (zzl t hs)
  have q54:=zak.2 (zzp t hall)
  have hd:=zzz t
  rw[e1] at q52 ⊢
  rw[e2] at q53 ⊢
  rw[e3] at q54 ⊢
  rw[q52,n11,zae,zzx (by omega),zlk]
  by_cases h1:4096<szT t
  · rw[decide_eq_true h1,if_pos (.inl h1),show nbeq (bi true 1 0) 0=false from rfl,zaj]
  · rw[decide_eq_false h1,show nbeq (bi false 1 0) 0=true from rfl,zae,q53,n11,zae,zao,gt64 (by omega)]
    by_cases h2:64<dpT t
    · rw[decide_eq_true h2,zae,if_pos (.inr h2)]
    · rw[decide_eq_false h2,zaj,if_neg (by omega)]
      have q54':okN (zac PT 54 [tmA t,mk1 8 0] (i64 (zbz (poT t))))=1:=q54
      rw[q54',n11,zae,zao,zaH]
      by_cases h3:zbz (poT t)=0
      · rw[decide_eq_true h3,nb_t,zaj,if_neg (by simp[h3])]
        have ec:zeJ [(AV.mk 26 0 0 0 0 [tmA t])]=(preT t).map tmA:=by
          show zbK (tmA t)=_
          unfold zbK;rw[zaZ]
        have q:=zak.2 (zrG t hlen)
        rw[ec,q,n11,zae]
        rw[hN]
        exact zzy 0 (preT t) [] [] 0 .nil (by rw[zco];simp only[List.length_nil];omega)
      · rw[decide_eq_false h3,nb_f,zae,if_pos h3]
theorem zrO(t:Tm)(hall:t.All NdQ)(hlen:zch t)(hs:szT t<2 ^ 62):zac PT 23 [tmA t,bV false] (i64 (chkT t)):=by
  obtain⟨N,hN⟩:∃ N,N=0+(preT t).length+1:=⟨_,rfl⟩
  refine zfo globs ?_ rfl
  refine zht (n:=N) (nrm:=[0]) (r:=RW2) (Gn:=zef) (c:=zad Tryz.f23) (args:=[tmA t,bV false]) (v0:=i64 (chkT t)) mixed zcz fn23 zzw zzt znr (lab:=zhD) (bs:=[]) (bs':=[]) (fn:=Tryz.f23) ?_
  rw[nt23,rs23]
  have h:=z2S t hall hlen hs N hN
  have e:zeA PT 61 zhD 0 zef RW2 (zad Tryz.f23) (finW PT 0 [.cell 4 32] [0]) N [tmA t,bV false] []=(zbm PT 61 zhD 0 zef (J23 N) zfx [] (zad Tryz.f23) zfx []).run RW2 (zar 0 [tmA t,bV false] noFr) (zbk PT):=by unfold zeA J23 zfx;rfl
  exact e.trans h
end Go.Eng
namespace Go.Eng
open Go.RowKit Go.Proofs
noncomputable section
def zb6(t:Tm)(l m:List (Nat × Nat × Nat)):Bool:=((zb3 24 [] [t]).all fun v=>decide (v ∈ l)) && ((zb3 25 [] [t]).all fun v=>decide (v ∈ m))
def zcr(o:Nat)(l:List AV):Nat:=vpOf (zb3 o [] (zcE l))
def zbW(o:Nat)(l:List AV):List AV:=(zb3 o [] (zcE l)).map vbA
def zbi(t:AV)(l m:List AV):Bool:=zb6 (unTm t) (l.map unVb) (m.map unVb)
def zjg(k:Nat)(a b:Tm)(l m:List (Nat × Nat × Nat)):Nat :=
  if zdd k a.op b=false then 1
  else if chkT a ≠ 0 then chkT a
  else if k ≠ 1∧chkT b ≠ 0 then chkT b
  else if zb6 a (if k=1 then [] else l) m=false ∨ (k ≠ 1∧zb6 b (if k=1 ∨ k=3 ∨ k=4 then [] else l) m=false) then 12
  else if a.w ≠ (if k=1 then 1 else b.w) then 3 else 0
def zgx(k:Nat)(a b:Tm)(l m:List (Nat × Nat × Nat)):Nat :=
  if zdd k a.op b=false then 1
  else if chkT a ≠ 0 then chkT a
  else if k ≠ 1∧chkT b ≠ 0 then chkT b
  else if zbH a (if k=1 then [] else l) m=false ∨ zbH b (if k=3 ∨ k=4 then [] else l) m=false then 12
  else if (k=1∧a.w ≠ 1) ∨ (k ≠ 1∧a.w ≠ b.w) then 3 else 0
def zha(g:AV)(l m:List AV):Nat:=zjg (gdK g) (gdL g) (gdR g) (l.map unVb) (m.map unVb)
def zhb(g:AV)(l m:List AV):Nat:=zgx (gdK g) (gdL g) (gdR g) (l.map unVb) (m.map unVb)
def NtK7:Nat→Option Native:=ntL [(23,natP PT 23 [26,4] fun l=>i64 (zcj (nthL l 0))),(22,natP PT 22 [28] fun l=>bV (zdv (nthL l 0))),(24,natP PT 24 [26,29,29] fun l=>bV (zbi (nthL l 0) (nthL l 1).cs (nthL l 2).cs)),
  (57,natP PT 57 [24] fun l=>slP (zcr 24 (nthL l 0).cs) 2 (zbW 24 (nthL l 0).cs)),(59,natP PT 59 [24] fun l=>slP (zcr 25 (nthL l 0).cs) 2 (zbW 25 (nthL l 0).cs)),
  (121,natP PT 121 [22,24] fun l=>slP (zcr (nthL l 0).p (nthL l 1).cs) 2 (zbW (nthL l 0).p (nthL l 1).cs)),
  (58,natP PT 58 [29,74] fun l=>bV (zem (nthL l 0).cs (nthL l 1))),(122,natP PT 122 [29,74] fun l=>i64 (zgW (nthL l 0).cs (nthL l 1))),
  (25,natP PT 25 [28] fun l=>bV (zdv (nthL l 0))),(26,natP PT 26 [26,4] fun l=>i64 (zcj (nthL l 0))),(27,natP PT 27 [26,29,29] fun l=>bV (zaQ (nthL l 0) (nthL l 1).cs (nthL l 2).cs)),
  (63,natP PT 63 [26] fun l=>slP 1 5 (zdr (nthL l 0))),(129,natP PT 129 [26] fun l=>slP 1 5 (zbK (nthL l 0))),(66,natP PT 66 [26] fun l=>slP 1 5 (zbK (nthL l 0)))]
def RK7:Rec:=evN PT NtK7 (fun _=>false) 2
def labP:LabW:=labW [([0,0,1,0,1,1],⟨[1,3,4],[(3,0,6)]⟩)]
def finP:BR:=finW PT 0 [.tmp 2] [1024]
end
theorem zfk:zaU PT RK7:=zdt mixed (by repeat (first | exact zcK | refine zat ?_)) zcz 2
end Go.Eng
namespace Go.Eng
open Go.RowKit Go.Proofs
set_option maxRecDepth 4000
noncomputable section
def stP(to tw tv tq tn tp:Nat)(tl:List AV)(vp vr i:Nat)(vl:List AV):List AV:=[tupV [⟨10,4,0,0,0,[]⟩,⟨25,vp,5,vr,0,[]⟩,i64 i],tupV [],tupV [⟨16,1,0,1,0,[i64 to,i64 tw,u64 tv,stA tq tn,slP tp 5 tl]⟩,⟨16,6,5,0,0,vl⟩]]
end
theorem zeK(l:List Tm):za4 l.length (l.map tmA)=l.map tmA:=by
  rw[zbv,List.take_of_length_le (by rw[List.length_map];exact Nat.le_refl _)]
theorem zmH(t:Tm):zbK (tmA t)=(preT t).map tmA:=by unfold zbK;rw[zaZ]
theorem zv9(t:Tm):zdr (tmA t)=(poT t).map tmA:=by unfold zdr;rw[zaZ]
mutual
theorem zhc:∀ t:Tm,(poT t).length=szT t
  | .mk _ _ _ _ _ _ l=>by rw[poT,szT,List.length_append,List.length_cons,List.length_nil,znt l];omega
theorem znt:∀ l:List Tm,(poTs l).length=szTs l
  | []=>rfl
  | t::l=>by rw[poTs,szTs,List.length_append,zhc t,znt l]
end
theorem zix(l:List Tm)(i:Nat)(h:i<l.length):szTs (l.drop i)=szT l[i]+szTs (l.drop (i+1)):=by
  rw[List.drop_eq_getElem_cons h,szTs]
theorem zhE:∀ l:List Tm,l.length≤szTs l
  | []=>Nat.zero_le _
  | t::l=>by rw[szTs,List.length_cons];have:=zgX t;have:=zhE l;omega
noncomputable def J129(n:Nat):Jmp:=jmpW PT 23 labP 0 (fun _=>none) RK7 (zad Tryz.f129) finP n
noncomputable def zrP(J:Jmp):Jmp:=lblW PT 23 labP 0 (fun _=>none) RK7 (zad Tryz.f129) finP J
theorem zlL(n:Nat)(q:List Nat)(ds:List AV):J129 (n+1) q ds=zrP (J129 n) q ds:=rfl
theorem s129(J:Jmp)(to tw tv tq tn tp:Nat)(tl:List AV):(zbm PT 23 labP 0 (fun _=>none) J finP [] (zad Tryz.f129) finP []).run RK7 (zar 0 [tmV to tw tv tq tn tp tl] noFr) (zbk PT)=J outP (stP to tw tv tq tn tp tl 1 1 0 [tmV to tw tv tq tn tp tl]):=by kernel_rfl
theorem l129(J:Jmp)(to tw tv tq tn tp vp vr i:Nat)(tl vl:List AV):zrP J outP (stP to tw tv tq tn tp tl vp vr i vl) =
  (bi (nbeq (bi (nb (nble (biased 3 (lenL tl)) (biased 3 i))) 1 0) 1)
 (bi (nble i.succ (lenL tl))
 (bi (tgT tl i)
 (bi (nbeq (okN (zac PT 129 [(elT tl i)] ⟨24,1,0,5,0,zbK (elT tl i)⟩)) 1)
 (bi (nble ((lenL (za4 vr vl)).add (lenL (zbK (elT tl i)))) 100000)
 (J outP (stP to tw tv tq tn tp tl (bi (nbeq (lenL (zbK (elT tl i))) 0) vp 1) ((lenL (za4 vr vl)).add (lenL (zbK (elT tl i)))) (zaR i 1) (appL (za4 vr vl) (zbK (elT tl i)))))
 (zab 211))
 (zab 301))
 (zab 201))
 (zab 205))
 (ansY (tupV [⟨24,bi (nbeq vp 0) 0 1,0,5,0,za4 vr vl⟩,tupV []]))):=by kernel_rfl
theorem zwB:Tryz.f129.body=some (zad Tryz.f129):=by kernel_rfl
theorem z2T:Tryz.prog.funcs[129]?=some Tryz.f129:=by kernel_rfl
theorem z2U:Tryz.f129.ntmps=23:=by kernel_rfl
theorem z2V:Tryz.f129.results.toList=[.tmp 2]:=by kernel_rfl
theorem zwC(to tw tv tq tn tp:Nat)(X:List Tm)(ih:∀ t ∈ X,zac PT 129 [tmA t] (slP 1 5 ((preT t).map tmA)))(k:Nat):∀ (d i:Nat) (acc:List Tm),i+d=X.length→acc.length+szTs (X.drop i)+1≤90000→X.length≤90000 →
    J129 (k+d+1) outP (stP to tw tv tq tn tp (X.map tmA) 1 acc.length i (acc.map tmA))=ansY (tupV [slP 1 5 ((acc++zb8 (X.drop i)).map tmA),tupV []]):=by
  intro d
  induction d with
  | zero =>
    intro i acc hi hl hx
    rw[zlL,l129,zao,zau,zb9 (by omega) (by omega),decide_eq_false (by omega),zaj,zeK,show i=X.length by omega,List.drop_length,zb8,List.append_nil]
    rfl
  | succ d ihd =>
    intro i acc hi hl hx
    have hlt:i<X.length:=by omega
    have hs:=zix X i hlt
    have q:=zak.2 (ih X[i] (List.getElem_mem hlt))
    have q':okN (zac PT 129 [tmA X[i]] ⟨24,1,0,5,0,(preT X[i]).map tmA⟩)=1:=q
    rw[show k+(d+1)+1=(k+d+1)+1 by omega,zlL,l129,zao,zau,zb9 (by omega) (by omega),decide_eq_true hlt,zae,zah.2 (show i.succ≤X.length from hlt),zae,zdY X i hlt,zae,zdX X i hlt,zmH,zeK,zau,zau,q',n11,zae,
      zah.2 (show acc.length.add (preT X[i]).length≤100000 by rw[zco];show acc.length+szT X[i]≤100000;omega),zae,zcf (by omega),zaV,← List.map_append]
    have e1:nbeq (preT X[i]).length 0=false:=zam.2 (by rw[zco];have:=zgX X[i];omega)
    rw[e1,zaj]
    have h:=ihd (i+1) (acc++preT X[i]) (by omega) (by rw[List.length_append,zco];omega) hx
    rw[List.length_append] at h
    rw[List.drop_eq_getElem_cons hlt,zb8,← List.append_assoc]
    exact h
theorem zz0(to tw tv tq tn tp:Nat)(X:List Tm)(ih:∀ t ∈ X,zac PT 129 [tmA t] (slP 1 5 ((preT t).map tmA)))(hsz:szTs X+2≤90000)(N:Nat)(hN:N=0+X.length+1) :
    (zbm PT 23 labP 0 (fun _=>none) (J129 N) finP [] (zad Tryz.f129) finP []).run RK7 (zar 0 [tmA (Tm.mk to tw tv tq tn tp X)] noFr) (zbk PT)=ansY (tupV [slP 1 5 ((preT (Tm.mk to tw tv tq tn tp X)).map tmA),tupV []]):=by
  have h:=s129 (J129 N) to tw tv tq tn tp (X.map tmA)
  rw[← zaP] at h
  refine h.trans ?_
  have hx:=zhE X
  have hl:=zwC to tw tv tq tn tp X ih 0 X.length 0 [Tm.mk to tw tv tq tn tp X] (by omega) (by rw[List.drop_zero];simp only[List.length_cons,List.length_nil];omega) (by omega)
  rw[hN,preT]
  rw[List.drop_zero] at hl
  exact hl
theorem zwD:∀ t:Tm,szT t+1≤90000→zac PT 129 [tmA t] (slP 1 5 ((preT t).map tmA)):=by
  intro t
  induction t using Tm.ind with
  | h to tw tv tq tn tp X ih =>
  intro hs
  rw[szT] at hs
  have ih':∀ t ∈ X,zac PT 129 [tmA t] (slP 1 5 ((preT t).map tmA)):=fun t ht=>ih t ht (by have:=zeI ht;omega)
  obtain⟨N,hN⟩:∃ N,N=0+X.length+1:=⟨_,rfl⟩
  refine zfo globs ?_ rfl
  refine zht (n:=N) (nrm:=[1024]) (r:=RK7) (Gn:=fun _=>none) (c:=zad Tryz.f129) (args:=[tmA (Tm.mk to tw tv tq tn tp X)]) (v0:=slP 1 5 ((preT (Tm.mk to tw tv tq tn tp X)).map tmA)) mixed zcz z2T zwB zfk (fun _ _ h=>by cases h) (lab:=labP) (bs:=[]) (bs':=[]) (fn:=Tryz.f129) ?_
  rw[z2U,z2V]
  have h:=zz0 to tw tv tq tn tp X ih' (by omega) N hN
  have e:zeA PT 23 labP 0 (fun _=>none) RK7 (zad Tryz.f129) (finW PT 0 [.tmp 2] [1024]) N [tmA (Tm.mk to tw tv tq tn tp X)] []=(zbm PT 23 labP 0 (fun _=>none) (J129 N) finP [] (zad Tryz.f129) finP []).run RK7 (zar 0 [tmA (Tm.mk to tw tv tq tn tp X)] noFr) (zbk PT):=by unfold zeA J129 finP;rfl
  exact e.trans h
noncomputable def J66(n:Nat):Jmp:=jmpW PT 23 labP 0 (fun _=>none) RK7 (zad Tryz.f66) finP n
noncomputable def zvA(J:Jmp):Jmp:=lblW PT 23 labP 0 (fun _=>none) RK7 (zad Tryz.f66) finP J
theorem znu(n:Nat)(q:List Nat)(ds:List AV):J66 (n+1) q ds=zvA (J66 n) q ds:=rfl
theorem s66(J:Jmp)(to tw tv tq tn tp:Nat)(tl:List AV):(zbm PT 23 labP 0 (fun _=>none) J finP [] (zad Tryz.f66) finP []).run RK7 (zar 0 [tmV to tw tv tq tn tp tl] noFr) (zbk PT)=J outP (stP to tw tv tq tn tp tl 1 1 0 [tmV to tw tv tq tn tp tl]):=by kernel_rfl
theorem l66(J:Jmp)(to tw tv tq tn tp vp vr i:Nat)(tl vl:List AV):zvA J outP (stP to tw tv tq tn tp tl vp vr i vl) =
  (bi (nbeq (bi (nb (nble (biased 3 (lenL tl)) (biased 3 i))) 1 0) 1)
 (bi (nble i.succ (lenL tl))
 (bi (tgT tl i)
 (bi (nbeq (okN (zac PT 66 [(elT tl i)] ⟨24,1,0,5,0,zbK (elT tl i)⟩)) 1)
 (bi (nble ((lenL (za4 vr vl)).add (lenL (zbK (elT tl i)))) 100000)
 (J outP (stP to tw tv tq tn tp tl (bi (nbeq (lenL (zbK (elT tl i))) 0) vp 1) ((lenL (za4 vr vl)).add (lenL (zbK (elT tl i)))) (zaR i 1) (appL (za4 vr vl) (zbK (elT tl i)))))
 (zab 211))
 (zab 301))
 (zab 201))
 (zab 205))
 (ansY (tupV [⟨24,bi (nbeq vp 0) 0 1,0,5,0,za4 vr vl⟩,tupV []]))):=by kernel_rfl
theorem zz1:Tryz.f66.body=some (zad Tryz.f66):=by kernel_rfl
theorem fn66:Tryz.prog.funcs[66]?=some Tryz.f66:=by kernel_rfl
theorem nt66:Tryz.f66.ntmps=23:=by kernel_rfl
theorem rs66:Tryz.f66.results.toList=[.tmp 2]:=by kernel_rfl
theorem zz2(to tw tv tq tn tp:Nat)(X:List Tm)(ih:∀ t ∈ X,zac PT 66 [tmA t] (slP 1 5 ((preT t).map tmA)))(k:Nat):∀ (d i:Nat) (acc:List Tm),i+d=X.length→acc.length+szTs (X.drop i)+1≤90000→X.length≤90000 →
    J66 (k+d+1) outP (stP to tw tv tq tn tp (X.map tmA) 1 acc.length i (acc.map tmA))=ansY (tupV [slP 1 5 ((acc++zb8 (X.drop i)).map tmA),tupV []]):=by
  intro d
  induction d with
  | zero =>
    intro i acc hi hl hx
    rw[znu,l66,zao,zau,zb9 (by omega) (by omega),decide_eq_false (by omega),zaj,zeK,show i=X.length by omega,List.drop_length,zb8,List.append_nil]
    rfl
  | succ d ihd =>
    intro i acc hi hl hx
    have hlt:i<X.length:=by omega
    have hs:=zix X i hlt
    have q:=zak.2 (ih X[i] (List.getElem_mem hlt))
    have q':okN (zac PT 66 [tmA X[i]] ⟨24,1,0,5,0,(preT X[i]).map tmA⟩)=1:=q
    rw[show k+(d+1)+1=(k+d+1)+1 by omega,znu,l66,zao,zau,zb9 (by omega) (by omega),decide_eq_true hlt,zae,zah.2 (show i.succ≤X.length from hlt),zae,zdY X i hlt,zae,zdX X i hlt,zmH,zeK,zau,zau,q',n11,zae,
      zah.2 (show acc.length.add (preT X[i]).length≤100000 by rw[zco];show acc.length+szT X[i]≤100000;omega),zae,zcf (by omega),zaV,← List.map_append]
    have e1:nbeq (preT X[i]).length 0=false:=zam.2 (by rw[zco];have:=zgX X[i];omega)
    rw[e1,zaj]
    have h:=ihd (i+1) (acc++preT X[i]) (by omega) (by rw[List.length_append,zco];omega) hx
    rw[List.length_append] at h
    rw[List.drop_eq_getElem_cons hlt,zb8,← List.append_assoc]
    exact h
theorem z2W(to tw tv tq tn tp:Nat)(X:List Tm)(ih:∀ t ∈ X,zac PT 66 [tmA t] (slP 1 5 ((preT t).map tmA)))(hsz:szTs X+2≤90000)(N:Nat)(hN:N=0+X.length+1) :
    (zbm PT 23 labP 0 (fun _=>none) (J66 N) finP [] (zad Tryz.f66) finP []).run RK7 (zar 0 [tmA (Tm.mk to tw tv tq tn tp X)] noFr) (zbk PT)=ansY (tupV [slP 1 5 ((preT (Tm.mk to tw tv tq tn tp X)).map tmA),tupV []]):=by
  have h:=s66 (J66 N) to tw tv tq tn tp (X.map tmA)
  rw[← zaP] at h
  refine h.trans ?_
  have hx:=zhE X
  have hl:=zz2 to tw tv tq tn tp X ih 0 X.length 0 [Tm.mk to tw tv tq tn tp X] (by omega) (by rw[List.drop_zero];simp only[List.length_cons,List.length_nil];omega) (by omega)
  rw[hN,preT]
  rw[List.drop_zero] at hl
  exact hl
theorem zz3:∀ t:Tm,szT t+1≤90000→zac PT 66 [tmA t] (slP 1 5 ((preT t).map tmA)):=by
  intro t
  induction t using Tm.ind with
  | h to tw tv tq tn tp X ih =>
  intro hs
  rw[szT] at hs
  have ih':∀ t ∈ X,zac PT 66 [tmA t] (slP 1 5 ((preT t).map tmA)):=fun t ht=>ih t ht (by have:=zeI ht;omega)
  obtain⟨N,hN⟩:∃ N,N=0+X.length+1:=⟨_,rfl⟩
  refine zfo globs ?_ rfl
  refine zht (n:=N) (nrm:=[1024]) (r:=RK7) (Gn:=fun _=>none) (c:=zad Tryz.f66) (args:=[tmA (Tm.mk to tw tv tq tn tp X)]) (v0:=slP 1 5 ((preT (Tm.mk to tw tv tq tn tp X)).map tmA)) mixed zcz fn66 zz1 zfk (fun _ _ h=>by cases h) (lab:=labP) (bs:=[]) (bs':=[]) (fn:=Tryz.f66) ?_
  rw[nt66,rs66]
  have h:=z2W to tw tv tq tn tp X ih' (by omega) N hN
  have e:zeA PT 23 labP 0 (fun _=>none) RK7 (zad Tryz.f66) (finW PT 0 [.tmp 2] [1024]) N [tmA (Tm.mk to tw tv tq tn tp X)] []=(zbm PT 23 labP 0 (fun _=>none) (J66 N) finP [] (zad Tryz.f66) finP []).run RK7 (zar 0 [tmA (Tm.mk to tw tv tq tn tp X)] noFr) (zbk PT):=by unfold zeA J66 finP;rfl
  exact e.trans h
noncomputable def J63(n:Nat):Jmp:=jmpW PT 26 labP 0 (fun _=>none) RK7 (zad Tryz.f63) finP n
noncomputable def zvB(J:Jmp):Jmp:=lblW PT 26 labP 0 (fun _=>none) RK7 (zad Tryz.f63) finP J
theorem znv(n:Nat)(q:List Nat)(ds:List AV):J63 (n+1) q ds=zvB (J63 n) q ds:=rfl
theorem s63(J:Jmp)(to tw tv tq tn tp:Nat)(tl:List AV):(zbm PT 26 labP 0 (fun _=>none) J finP [] (zad Tryz.f63) finP []).run RK7 (zar 0 [tmV to tw tv tq tn tp tl] noFr) (zbk PT)=J outP (stP to tw tv tq tn tp tl 1 0 0 []):=by kernel_rfl
theorem l63(J:Jmp)(to tw tv tq tn tp vp vr i:Nat)(tl vl:List AV):zvB J outP (stP to tw tv tq tn tp tl vp vr i vl) =
  (bi (nbeq (bi (nb (nble (biased 3 (lenL tl)) (biased 3 i))) 1 0) 1)
 (bi (nble i.succ (lenL tl))
 (bi (tgT tl i)
 (bi (nbeq (okN (zac PT 63 [(elT tl i)] ⟨24,1,0,5,0,zdr (elT tl i)⟩)) 1)
 (bi (nble ((lenL (za4 vr vl)).add (lenL (zdr (elT tl i)))) 100000)
 (J outP (stP to tw tv tq tn tp tl (bi (nbeq (lenL (zdr (elT tl i))) 0) vp 1) ((lenL (za4 vr vl)).add (lenL (zdr (elT tl i)))) (zaR i 1) (appL (za4 vr vl) (zdr (elT tl i)))))
 (zab 211))
 (zab 301))
 (zab 201))
 (zab 205))
 (bi (nble ((lenL (za4 vr vl)).add 1) 100000)
 (ansY (tupV [⟨24,1,0,5,0,za4 ((lenL (za4 vr vl)).add 1) (appL (za4 vr vl) [(tmV to tw tv tq tn tp tl)])⟩,tupV []]))
 (zab 211))):=by kernel_rfl
theorem zz4:Tryz.f63.body=some (zad Tryz.f63):=by kernel_rfl
theorem fn63:Tryz.prog.funcs[63]?=some Tryz.f63:=by kernel_rfl
theorem nt63:Tryz.f63.ntmps=26:=by kernel_rfl
theorem rs63:Tryz.f63.results.toList=[.tmp 2]:=by kernel_rfl
theorem zz5(to tw tv tq tn tp:Nat)(X:List Tm)(ih:∀ t ∈ X,zac PT 63 [tmA t] (slP 1 5 ((poT t).map tmA)))(k:Nat):∀ (d i:Nat) (acc:List Tm),i+d=X.length→acc.length+szTs (X.drop i)+1≤90000→X.length≤90000 →
    J63 (k+d+1) outP (stP to tw tv tq tn tp (X.map tmA) 1 acc.length i (acc.map tmA))=ansY (tupV [slP 1 5 ((acc++poTs (X.drop i)++[Tm.mk to tw tv tq tn tp X]).map tmA),tupV []]):=by
  intro d
  induction d with
  | zero =>
    intro i acc hi hl hx
    rw[znv,l63,zao,zau,zb9 (by omega) (by omega),decide_eq_false (by omega),zaj,zeK,zau,zah.2 (show acc.length.add 1≤100000 by show acc.length+1≤100000;omega),zae,show i=X.length by omega,List.drop_length,poTs,List.append_nil,← zaP,zaV]
    have e:za4 (acc.length.add 1) (acc.map tmA++[tmA (Tm.mk to tw tv tq tn tp X)])=(acc++[Tm.mk to tw tv tq tn tp X]).map tmA:=by
      rw[zbv,List.take_of_length_le (by rw[List.length_append,List.length_map,List.length_cons,List.length_nil];exact Nat.le_refl _),List.map_append];rfl
    rw[e];rfl
  | succ d ihd =>
    intro i acc hi hl hx
    have hlt:i<X.length:=by omega
    have hs:=zix X i hlt
    have q:=zak.2 (ih X[i] (List.getElem_mem hlt))
    have q':okN (zac PT 63 [tmA X[i]] ⟨24,1,0,5,0,(poT X[i]).map tmA⟩)=1:=q
    rw[show k+(d+1)+1=(k+d+1)+1 by omega,znv,l63,zao,zau,zb9 (by omega) (by omega),decide_eq_true hlt,zae,zah.2 (show i.succ≤X.length from hlt),zae,zdY X i hlt,zae,zdX X i hlt,zv9,zeK,zau,zau,q',n11,zae,
      zah.2 (show acc.length.add (poT X[i]).length≤100000 by rw[zhc];show acc.length+szT X[i]≤100000;omega),zae,zcf (by omega),zaV,← List.map_append]
    have e1:nbeq (poT X[i]).length 0=false:=zam.2 (by rw[zhc];have:=zgX X[i];omega)
    rw[e1,zaj]
    have h:=ihd (i+1) (acc++poT X[i]) (by omega) (by rw[List.length_append,zhc];omega) hx
    rw[List.length_append] at h
    rw[List.drop_eq_getElem_cons hlt,poTs,← List.append_assoc]
    exact h
theorem z2X(to tw tv tq tn tp:Nat)(X:List Tm)(ih:∀ t ∈ X,zac PT 63 [tmA t] (slP 1 5 ((poT t).map tmA)))(hsz:szTs X+2≤90000)(N:Nat)(hN:N=0+X.length+1) :
    (zbm PT 26 labP 0 (fun _=>none) (J63 N) finP [] (zad Tryz.f63) finP []).run RK7 (zar 0 [tmA (Tm.mk to tw tv tq tn tp X)] noFr) (zbk PT)=ansY (tupV [slP 1 5 ((poT (Tm.mk to tw tv tq tn tp X)).map tmA),tupV []]):=by
  have h:=s63 (J63 N) to tw tv tq tn tp (X.map tmA)
  rw[← zaP] at h
  refine h.trans ?_
  have hx:=zhE X
  have hl:=zz5 to tw tv tq tn tp X ih 0 X.length 0 [] (by omega) (by rw[List.drop_zero];simp only[List.length_cons,List.length_nil];omega) (by omega)
  rw[hN,poT]
  rw[List.drop_zero] at hl
  exact hl
theorem zz6:∀ t:Tm,szT t+1≤90000→zac PT 63 [tmA t] (slP 1 5 ((poT t).map tmA)):=by
  intro t
  induction t using Tm.ind with
  | h to tw tv tq tn tp X ih =>
  intro hs
  rw[szT] at hs
  have ih':∀ t ∈ X,zac PT 63 [tmA t] (slP 1 5 ((poT t).map tmA)):=fun t ht=>ih t ht (by have:=zeI ht;omega)
  obtain⟨N,hN⟩:∃ N,N=0+X.length+1:=⟨_,rfl⟩
  refine zfo globs ?_ rfl
  refine zht (n:=N) (nrm:=[1024]) (r:=RK7) (Gn:=fun _=>none) (c:=zad Tryz.f63) (args:=[tmA (Tm.mk to tw tv tq tn tp X)]) (v0:=slP 1 5 ((poT (Tm.mk to tw tv tq tn tp X)).map tmA)) mixed zcz fn63 zz4 zfk (fun _ _ h=>by cases h) (lab:=labP) (bs:=[]) (bs':=[]) (fn:=Tryz.f63) ?_
  rw[nt63,rs63]
  have h:=z2X to tw tv tq tn tp X ih' (by omega) N hN
  have e:zeA PT 26 labP 0 (fun _=>none) RK7 (zad Tryz.f63) (finW PT 0 [.tmp 2] [1024]) N [tmA (Tm.mk to tw tv tq tn tp X)] []=(zbm PT 26 labP 0 (fun _=>none) (J63 N) finP [] (zad Tryz.f63) finP []).run RK7 (zar 0 [tmA (Tm.mk to tw tv tq tn tp X)] noFr) (zbk PT):=by unfold zeA J63 finP;rfl
  exact e.trans h
end Go.Eng
