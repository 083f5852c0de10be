/- A part of the proof that the evaluator in GnC, and the driver in GnZ, answer as the model does; no conditions. -/
import Derived.Test.YtfmoohdaimlggaaGreatDoorGnHf
import Derived.Test.YtfmoohdaimlggaaGreatDoorGnTa
import Derived.Laws.Externs
import Derived.Test.YtfmoohdaimlggaaGreatDoorGnHa
import Derived.Test.YtfmoohdaimlggaaGreatDoorRows
namespace Go.Eng
open Go.RowKit Go.Proofs
noncomputable section
def ftT(k aw:Nat)(b:Tm)(w z o l h:Nat)(nl:List AV):Bool:=(vlT nl b).2 && (decide (w=aw) && (if k=3 then decide ((vlT nl b).1 &&& z1V w z o l h=(vlT nl b).1) else if k=4 then decide (z1W w z o l h<(vlT nl b).1) else false))
def zgq(x f:AV)(nl:List AV):Bool:=ftT (gk x) (ga x).w (gb x) (nthL f.cs 0).p (nthL f.cs 1).p (nthL f.cs 2).p (nthL f.cs 3).p (nthL f.cs 4).p nl
def zgr(x:AV):Bool:=zb2 (ga x) 12 20 && zb2 (gb x) 12 20
def zpL(l:List AV):Bool:=fewB (l.map unB)
def NtGv(lv:Nat × Native):Nat→Option Native:=ntL [lv,(5,natP Tryz.prog 5 [28] fun l=>bV (zgr (nthL l 0))),(9,natP Tryz.prog 9 [46] fun l=>bV (zpL (nthL (nthL l 0).cs 2).cs)),vN 10,vN 11,(12,natP Tryz.prog 12 [28,40,41] fun l=>bV (zgq (nthL l 0) (nthL l 1) (nthL l 2).cs)),(13,natP Tryz.prog 13 [28,40,41] fun l=>bV (zgq (nthL l 0) (nthL l 1) (nthL l 2).cs))]
end
end Go.Eng
namespace Go.Eng
noncomputable def zkj:Native:=fun args H=>bi (nbeq (lenL args) 3) (bi (nbeq (nthL args 0).tag 7) (bi (nbeq (nthL args 1).tag 7) (bi (nbeq (nthL args 2).tag 7) (bi (nble (nthL args 2).p 1) [⟨1,0,tupV [mk1 7 (Nat.mod (Nat.add (Nat.add (nthL args 0).p (nthL args 1).p) (nthL args 2).p) 18446744073709551616),mk1 7 (Nat.div (Nat.add (Nat.add (nthL args 0).p (nthL args 1).p) (nthL args 2).p) 18446744073709551616)],H⟩] (zaG 76)) (zaG 76)) (zaG 76)) (zaG 76)) (zaG 76)
variable {P:Program}
theorem ztL{f:Nat}{fn:Func}(hf:P.funcs[f]?=some fn)(hname:(fn.name == "runtime.NumGoroutine")=false)(hb:fn.body.isNone=true)(hn:Extern.findNext fn=none)(he:Extern.find fn=some add64Entry):zji P f zkj:=by
  intro w0 H φ w args vals ha hr hall
  unfold zkj at hall ⊢
  cases h0:nbeq (lenL args) 3
  · rw[h0] at hall;exact (zaI hall).elim
  rw[h0,zag] at hall
  rw[zag]
  have h0:=zaa.1 h0
  rw[zaz] at h0
  match args,vals,ha,h0 with
  | [a,b,c],_,.cons ha (.cons hb' (.cons hc .nil)),_ =>
    simp only[show nthL [a,b,c] 0=a from rfl,show nthL [a,b,c] 1=b from rfl,show nthL [a,b,c] 2=c from rfl] at hall ⊢
    cases h1:nbeq a.tag 7
    · rw[h1] at hall;exact (zaI hall).elim
    rw[h1,zag] at hall
    rw[zag]
    cases h2:nbeq b.tag 7
    · rw[h2] at hall;exact (zaI hall).elim
    rw[h2,zag] at hall
    rw[zag]
    cases h3:nbeq c.tag 7
    · rw[h3] at hall;exact (zaI hall).elim
    rw[h3,zag] at hall
    rw[zag]
    cases h4:nble c.p 1
    · rw[h4] at hall;exact (zaI hall).elim
    rw[zag]
    obtain⟨ea,pa,_⟩:=ha.of_int (by decide) (zaa.1 h1)
    obtain⟨eb,pb,_⟩:=hb'.of_int (by decide) (zaa.1 h2)
    obtain⟨ec,pc,_⟩:=hc.of_int (by decide) (zaa.1 h3)
    have h4:=zah.1 h4
    have hm:kMod 7=18446744073709551616:=by decide +kernel
    have hh:zbj 7=18446744073709551616:=by decide +kernel
    have hk:kOf 7=.u64:=rfl
    rw[hm] at pa pb pc
    subst ea eb ec
    rw[zbs (by rw[hh];exact pa),zbs (by rw[hh];exact pb),zbs (by rw[hh];exact pc),hk]
    refine⟨.tuple #[.int .u64 (((a.p+b.p+c.p) % 18446744073709551616:Nat):Int),.int .u64 (((a.p+b.p+c.p) / 18446744073709551616:Nat):Int)],w,?_,⟨_,List.mem_singleton.2 rfl,φ,?_,hr,EX.refl H φ⟩⟩
    · rw[run_callFunc_extern hf hname hb hn he]
      have:=run_add64 (P:=P) (a.p:Int) (b.p:Int) (c.p:Int) (by omega) (by omega) (by omega) (by omega) w
      rw[show ([Value.int .u64 (a.p:Int),.int .u64 (b.p:Int),.int .u64 (c.p:Int)]:List Value).toArray=#[.int .u64 (a.p:Int),.int .u64 (b.p:Int),.int .u64 (c.p:Int)] from rfl,this]
      simp only[Result.andThen]
      congr 5<;>omega
    · have key:∀ n:Nat,n<18446744073709551616→VR φ (mk1 7 n) (.int .u64 (n:Int)):=fun n hn=>by
        have:=VR.int (φ:=φ) 7 n 0 0 [] (by decide) (by rw[hm];exact hn)
        rwa [zbs (by rw[hh];exact hn),hk] at this
      have g1:=key ((a.p+b.p+c.p) % 18446744073709551616) (Nat.mod_lt _ (by decide))
      have g2:=key ((a.p+b.p+c.p) / 18446744073709551616) (by omega)
      exact .tup 0 0 0 0 _ [_,_] (.cons g1 (.cons g2 .nil))
end Go.Eng
namespace Go.Eng
open Go.RowKit Go.Proofs Go.Proofs.YtfmoohdaimlggaaGreatDoor
noncomputable section
def zdq(d:DataW Unit):List AV:=(dav 4 d).getD []
def LA:List (Nat × List AV):=[(2,zdq Rows.laid_math_bits_deBruijn32tab),(3,zdq Rows.laid_math_bits_deBruijn64tab),(1,zdq Rows.laid_internal_strconv_uint64pow10)]
def mgA(f:Nat):Bool:=bi (nbeq f 116) true (nbeq f 175)
end
theorem zpM:zhn (evN Tryz.prog (ntL [(1310,zkj)]) mgA 3000 (mk1 13 6) [] (zd2 Tryz.prog LA))=true:=by kernel_rfl
end Go.Eng
namespace Go.Eng
open Go.RowKit Go.Proofs
noncomputable section
def RGv:Rec:=evN Tryz.prog (NtGv (6,zkI LA)) (fun _=>false) 2
end
theorem z1X:Tryz.prog.funcs[310]?=some Tryz.f310:=by kernel_rfl
theorem zyU:zji Tryz.prog 310 zkj:=ztL z1X (by kernel_rfl) (by kernel_rfl) (by kernel_rfl) (by kernel_rfl)
theorem zrC:Tryz.prog.globals.size=4:=by kernel_rfl
theorem zvn:∀ g ∈ LA,g.1<Tryz.prog.globals.size:=by
  have h:(LA.all fun g=>nble (Nat.succ g.1) 4)=true:=by kernel_rfl
  intro g hg
  rw[zrC]
  exact zah.1 (List.all_eq_true.1 h g hg)
theorem zrD:∀ g ∈ LA,∀ c ∈ g.2,c.tag<10:=by
  have h:(LA.all fun g=>g.2.all fun c=>nble (Nat.succ c.tag) 10)=true:=by kernel_rfl
  intro g hg c hc
  exact zah.1 (List.all_eq_true.1 (List.all_eq_true.1 h g hg) c hc)
theorem fnlv:∃ fn,Tryz.prog.funcs[6]?=some fn∧fn.body.isNone=false:=⟨Tryz.f6,by kernel_rfl,by kernel_rfl⟩
end Go.Eng
namespace Go.Eng
open Go.RowKit Go.Proofs
theorem s4(J:Jmp)(k ao aw av aq an ap bo bw bv bq bn bp w z o l h np:Nat)(al bl nl:List AV):(zaB Tryz.prog 57 (fun _=>none) (finY Tryz.prog [.tmp 6] [4]) J [] (zad Tryz.f4) (finY Tryz.prog [.tmp 6] [4]) []).run RGv (zar 0 [aggV [i64 k,i64 ao,i64 aw,u64 av,stA aq an,slP ap 5 al,i64 bo,i64 bw,u64 bv,stA bq bn,slP bp 5 bl],aggV [i64 w,u64 z,u64 o,u64 l,u64 h],slP np 2 nl] noFr) (zd2 Tryz.prog LA) =
  (bi (nbeq (okN (zac Tryz.prog 5 [⟨15,0,0,0,0,[(i64 k),(i64 ao),(i64 aw),(u64 av),(stA aq an),⟨24,ap,0,5,0,al⟩,(i64 bo),(i64 bw),(u64 bv),(stA bq bn),⟨24,bp,0,5,0,bl⟩]⟩] ⟨8,bi (zgr ⟨15,0,0,0,0,[(i64 k),(i64 ao),(i64 aw),(u64 av),(stA aq an),⟨24,ap,0,5,0,al⟩,(i64 bo),(i64 bw),(u64 bv),(stA bq bn),⟨24,bp,0,5,0,bl⟩]⟩) 1 0,0,0,0,[]⟩)) 1)
 (bi (nbeq (Nat.sub 1 (bi (zgr ⟨15,0,0,0,0,[(i64 k),(i64 ao),(i64 aw),(u64 av),(stA aq an),⟨24,ap,0,5,0,al⟩,(i64 bo),(i64 bw),(u64 bv),(stA bq bn),⟨24,bp,0,5,0,bl⟩]⟩) 1 0)) 0)
 (bi (nbeq (okN (zac Tryz.prog 9 [⟨15,0,0,0,0,[(slP 0 1 []),(slP 0 2 []),⟨24,np,0,2,0,nl⟩]⟩] (mk1 8 (bi (zpL nl) 1 0)))) 1)
 (bi (nbeq (Nat.sub 1 (bi (zpL nl) 1 0)) 1)
 (ansY (mk1 8 1))
 (bi (nbeq (okN (zac Tryz.prog 10 [⟨15,0,0,0,0,[(i64 ao),(i64 aw),(u64 av),(stA aq an),⟨24,ap,0,5,0,al⟩]⟩,⟨24,np,0,2,0,nl⟩] ⟨16,0,0,0,0,[⟨7,zh9 (unTm ⟨15,0,0,0,0,[(i64 ao),(i64 aw),(u64 av),(stA aq an),⟨24,ap,0,5,0,al⟩]⟩) nl,0,0,0,[]⟩,⟨8,bi (zhA (unTm ⟨15,0,0,0,0,[(i64 ao),(i64 aw),(u64 av),(stA aq an),⟨24,ap,0,5,0,al⟩]⟩) nl) 1 0,0,0,0,[]⟩]⟩)) 1)
 (bi (nbeq (okN (zac Tryz.prog 11 [⟨15,0,0,0,0,[(i64 ao),(i64 aw),(u64 av),(stA aq an),⟨24,ap,0,5,0,al⟩]⟩,⟨24,np,0,2,0,nl⟩] ⟨16,0,0,0,0,[⟨7,zh9 (unTm ⟨15,0,0,0,0,[(i64 ao),(i64 aw),(u64 av),(stA aq an),⟨24,ap,0,5,0,al⟩]⟩) nl,0,0,0,[]⟩,⟨8,bi (zhA (unTm ⟨15,0,0,0,0,[(i64 ao),(i64 aw),(u64 av),(stA aq an),⟨24,ap,0,5,0,al⟩]⟩) nl) 1 0,0,0,0,[]⟩]⟩)) 1)
 (bi (nbeq (bi (nbeq (zh9 (unTm ⟨15,0,0,0,0,[(i64 ao),(i64 aw),(u64 av),(stA aq an),⟨24,ap,0,5,0,al⟩]⟩) nl) (zh9 (unTm ⟨15,0,0,0,0,[(i64 ao),(i64 aw),(u64 av),(stA aq an),⟨24,ap,0,5,0,al⟩]⟩) nl)) 1 0) 1)
 (bi (nbeq (bi (nbeq (bi (zhA (unTm ⟨15,0,0,0,0,[(i64 ao),(i64 aw),(u64 av),(stA aq an),⟨24,ap,0,5,0,al⟩]⟩) nl) 1 0) (bi (zhA (unTm ⟨15,0,0,0,0,[(i64 ao),(i64 aw),(u64 av),(stA aq an),⟨24,ap,0,5,0,al⟩]⟩) nl) 1 0)) 1 0) 1)
 (bi (nbeq (okN (zac Tryz.prog 12 [⟨15,0,0,0,0,[(i64 k),(i64 ao),(i64 aw),(u64 av),(stA aq an),⟨24,ap,0,5,0,al⟩,(i64 bo),(i64 bw),(u64 bv),(stA bq bn),⟨24,bp,0,5,0,bl⟩]⟩,(aggV [(i64 w),(u64 z),(u64 o),(u64 l),(u64 h)]),⟨24,np,0,2,0,nl⟩] ⟨8,bi (zgq ⟨15,0,0,0,0,[(i64 k),(i64 ao),(i64 aw),(u64 av),(stA aq an),⟨24,ap,0,5,0,al⟩,(i64 bo),(i64 bw),(u64 bv),(stA bq bn),⟨24,bp,0,5,0,bl⟩]⟩ (aggV [(i64 w),(u64 z),(u64 o),(u64 l),(u64 h)]) nl) 1 0,0,0,0,[]⟩)) 1)
 (bi (eqA 1000 ⟨24,np,0,2,0,nl⟩ ⟨24,np,0,2,0,nl⟩)
 (bi (eqA 1000 (aggV [(i64 w),(u64 z),(u64 o),(u64 l),(u64 h)]) (aggV [(i64 w),(u64 z),(u64 o),(u64 l),(u64 h)]))
 (bi (eqA 1000 ⟨15,0,0,0,0,[(i64 k),(i64 ao),(i64 aw),(u64 av),(stA aq an),⟨24,ap,0,5,0,al⟩,(i64 bo),(i64 bw),(u64 bv),(stA bq bn),⟨24,bp,0,5,0,bl⟩]⟩ ⟨15,0,0,0,0,[(i64 k),(i64 ao),(i64 aw),(u64 av),(stA aq an),⟨24,ap,0,5,0,al⟩,(i64 bo),(i64 bw),(u64 bv),(stA bq bn),⟨24,bp,0,5,0,bl⟩]⟩)
 (bi (nbeq (okN (zac Tryz.prog 13 [⟨15,0,0,0,0,[(i64 k),(i64 ao),(i64 aw),(u64 av),(stA aq an),⟨24,ap,0,5,0,al⟩,(i64 bo),(i64 bw),(u64 bv),(stA bq bn),⟨24,bp,0,5,0,bl⟩]⟩,(aggV [(i64 w),(u64 z),(u64 o),(u64 l),(u64 h)]),⟨24,np,0,2,0,nl⟩] ⟨8,bi (zgq ⟨15,0,0,0,0,[(i64 k),(i64 ao),(i64 aw),(u64 av),(stA aq an),⟨24,ap,0,5,0,al⟩,(i64 bo),(i64 bw),(u64 bv),(stA bq bn),⟨24,bp,0,5,0,bl⟩]⟩ (aggV [(i64 w),(u64 z),(u64 o),(u64 l),(u64 h)]) nl) 1 0,0,0,0,[]⟩)) 1)
 (bi (nbeq (bi (nbeq (bi (zgq ⟨15,0,0,0,0,[(i64 k),(i64 ao),(i64 aw),(u64 av),(stA aq an),⟨24,ap,0,5,0,al⟩,(i64 bo),(i64 bw),(u64 bv),(stA bq bn),⟨24,bp,0,5,0,bl⟩]⟩ (aggV [(i64 w),(u64 z),(u64 o),(u64 l),(u64 h)]) nl) 1 0) (bi (zgq ⟨15,0,0,0,0,[(i64 k),(i64 ao),(i64 aw),(u64 av),(stA aq an),⟨24,ap,0,5,0,al⟩,(i64 bo),(i64 bw),(u64 bv),(stA bq bn),⟨24,bp,0,5,0,bl⟩]⟩ (aggV [(i64 w),(u64 z),(u64 o),(u64 l),(u64 h)]) nl) 1 0)) 1 0) 1)
 (ansY (mk1 8 1))
 (bi (nbeq (bi (nbeq (bi (zgq ⟨15,0,0,0,0,[(i64 k),(i64 ao),(i64 aw),(u64 av),(stA aq an),⟨24,ap,0,5,0,al⟩,(i64 bo),(i64 bw),(u64 bv),(stA bq bn),⟨24,bp,0,5,0,bl⟩]⟩ (aggV [(i64 w),(u64 z),(u64 o),(u64 l),(u64 h)]) nl) 1 0) (bi (zgq ⟨15,0,0,0,0,[(i64 k),(i64 ao),(i64 aw),(u64 av),(stA aq an),⟨24,ap,0,5,0,al⟩,(i64 bo),(i64 bw),(u64 bv),(stA bq bn),⟨24,bp,0,5,0,bl⟩]⟩ (aggV [(i64 w),(u64 z),(u64 o),(u64 l),(u64 h)]) nl) 1 0)) 1 0) 0)
 (ansY (mk1 8 0))
 (zab 40)))
 (zab 301))
 (zab 90))
 (zab 90))
 (zab 90))
 (zab 301))
 (bi (nbeq (bi (nbeq (bi (zhA (unTm ⟨15,0,0,0,0,[(i64 ao),(i64 aw),(u64 av),(stA aq an),⟨24,ap,0,5,0,al⟩]⟩) nl) 1 0) (bi (zhA (unTm ⟨15,0,0,0,0,[(i64 ao),(i64 aw),(u64 av),(stA aq an),⟨24,ap,0,5,0,al⟩]⟩) nl) 1 0)) 1 0) 0)
 (ansY (mk1 8 0))
 (zab 40)))
 (bi (nbeq (bi (nbeq (zh9 (unTm ⟨15,0,0,0,0,[(i64 ao),(i64 aw),(u64 av),(stA aq an),⟨24,ap,0,5,0,al⟩]⟩) nl) (zh9 (unTm ⟨15,0,0,0,0,[(i64 ao),(i64 aw),(u64 av),(stA aq an),⟨24,ap,0,5,0,al⟩]⟩) nl)) 1 0) 0)
 (ansY (mk1 8 0))
 (zab 40)))
 (zab 301))
 (zab 301)))
 (zab 301))
 (ansY (mk1 8 1)))
 (zab 301)):=by kernel_rfl
theorem zpN:∀ (t:Tm) (d n k:Nat),cnt t d n=some k→d≤1000→n≤1000→t.Sm d:=by
  intro t
  induction t using Tm.ind with
  | h op w v nq np p l ih =>
    intro d n k h hd hn
    rw[cnt] at h
    split at h
    · cases h
    · rename_i h0
      obtain⟨m,rfl⟩:∃ m,d=m+1:=⟨d - 1,by omega⟩
      have key:∀ (l:List Tm) (n k:Nat),cnts l m n=some k→n≤1000→(∀ t ∈ l,∀ d n k,cnt t d n=some k→d≤1000→n≤1000→t.Sm d)→l.length+k≤n∧∀ t ∈ l,t.Sm m:=by
        intro l
        induction l with
        | nil=>intro n k h _ _;rw[cnts] at h;cases h;exact⟨by simp,fun t ht=>by cases ht⟩
        | cons a l ihl =>
          intro n k h hn ht
          rw[cnts] at h
          cases hc:cnt a m n with
          | none=>rw[hc] at h;cases h
          | some j =>
            rw[hc] at h
            have hj:j<n:=by
              obtain⟨op,w,v,nq,np,p,bs⟩:=a
              rw[cnt] at hc
              split at hc
              · cases hc
              · have:=zle _ _ _ _ hc
                omega
            obtain⟨g1,g2⟩:=ihl j k h (by omega) fun t h=>ht t (by simp[h])
            refine⟨by simp only[List.length_cons];omega,fun t h=>?_⟩
            rcases List.mem_cons.1 h with rfl | h
            · exact ht t (by simp) m n j hc (by omega) hn
            · exact g2 t h
      have h':cnts l m (n - 1)=some k:=by simpa using h
      obtain⟨g1,g2⟩:=key l (n - 1) k h' (by omega) ih
      exact .mk (by omega) g2
theorem Tm.Sm.up{t:Tm}:∀ {d:Nat},t.Sm d→∀ {e:Nat},d≤e→t.Sm e:=by
  induction t using Tm.ind with
  | h op w v nq np p l ih =>
    intro d h e he
    cases h with
    | mk h1 h2 =>
      obtain⟨m,rfl⟩:∃ m,e=m+1:=⟨e - 1,by omega⟩
      exact .mk h1 fun t ht=>ih t ht (h2 t ht) (by omega)
theorem Tm.Sm.len{t:Tm}{d:Nat}(h:t.Sm d):zkh t:=by
  induction h with
  | mk h1 _ ih=>exact .mk (by omega) ih
theorem zj3{t:Tm}(h:zb2 t 12 20=true):t.Sm 12:=by
  unfold zb2 at h
  cases hc:cnt t 12 20 with
  | none=>rw[hc] at h;cases h
  | some k=>exact zpN t 12 20 k hc (by omega) (by omega)
theorem Tm.ok.len{t:Tm}(h:t.ok):zkh t:=by
  have hr:reachBytes<2 ^ 48:=by decide +kernel
  induction h with
  | mk h1 _ ih=>exact .mk (by have:=h1.2.2.2.2.2;omega) ih
theorem z1Y(k:Nat)(a b:Tm):aggV [i64 k,i64 a.op,i64 a.w,u64 a.v,stA a.nq a.np,slP a.p 5 (a.as.map tmA),i64 b.op,i64 b.w,u64 b.v,stA b.nq b.np,slP b.p 5 (b.as.map tmA)]=gdA k a b:=rfl
theorem z1Z(k:Nat)(a b:Tm):ga (gdA k a b)=a:=by
  have:ga (gdA k a b)=unTm (tmV a.op a.w a.v a.nq a.np a.p (a.as.map tmA)):=rfl
  rw[this,zvg,zaZ]
theorem z2a(k:Nat)(a b:Tm):gb (gdA k a b)=b:=by
  have:gb (gdA k a b)=unTm (tmV b.op b.w b.v b.nq b.np b.p (b.as.map tmA)):=rfl
  rw[this,zvg,zaZ]
theorem znj(n:Nat)(t p q r s:Nat):eqA (n+1) ⟨t,p,q,r,s,[]⟩ ⟨t,p,q,r,s,[]⟩=true:=zcv n _ _ _ _ _ _ fun c hc=>by cases hc
theorem zyV{k:Nat}{a b:Tm}(ha:a.Sm 40)(hb:b.Sm 40):eqA 1000 (gdA k a b) (gdA k a b)=true:=by
  unfold gdA
  refine zcv 999 15 0 0 0 0 _ fun c hc=>?_
  have key:∀ (t:Tm),t.Sm 40→eqA 999 (slP t.p 5 (t.as.map tmA)) (slP t.p 5 (t.as.map tmA))=true:=fun t ht=>zcv 998 24 _ 0 5 0 _ fun c hc=>by
    obtain⟨s,hs,rfl⟩:=List.mem_map.1 hc
    cases ht with
    | mk h1 h2=>exact zr6 39 s (h2 s hs) 998 (by omega)
  have key2:∀ t p q r s,eqA 999 ⟨t,p,q,r,s,[]⟩ ⟨t,p,q,r,s,[]⟩=true:=fun t p q r s=>znj 998 t p q r s
  simp only[List.mem_cons,List.not_mem_nil,or_false] at hc
  rcases hc with rfl | rfl | rfl | rfl | rfl | rfl | rfl | rfl | rfl | rfl | rfl<;>first | exact key _ ha | exact key _ hb | exact key2 _ _ _ _ _
end Go.Eng
