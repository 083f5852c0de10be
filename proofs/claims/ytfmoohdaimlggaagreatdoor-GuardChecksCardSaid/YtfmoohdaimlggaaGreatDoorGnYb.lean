/- A part of the proof that the evaluator in GnC, and the driver in GnZ, answer as the model does; no conditions. -/
import Derived.Test.YtfmoohdaimlggaaGreatDoorGnSc
import Derived.Test.YtfmoohdaimlggaaGreatDoorGnSd
namespace Go.Eng
open Go.RowKit
variable {P:Program} {w0:World} {H:Hp} {φ:Ph} {c:Kont} {w:World} {z:Nat→Option (List Value)}
theorem zgE{agg:Bool}{l:List AV}(h1:∀ c ∈ l,za6 c=true)(h2:agg=false→l.length=1):zaO (zbE agg l)=true∧cellsOf (zbE agg l)=l:=by
  cases agg
  · have:=h2 rfl
    match l,this with
    | [a],_ =>
      have ha:=h1 a (by simp)
      show zaO a=true∧cellsOf a=[a]
      refine⟨by unfold zaO;rw[ha];rfl,?_⟩
      unfold cellsOf
      rw[show nbeq a.tag 15=false from zam.2 (by rcases zk6 ha with h | h | h<;>omega)];rfl
  · exact⟨rfl,rfl⟩
theorem zt2{sz:Nat}{x:AV}(hx:(cellsOf x).length=sz):∀ {l:List AV},(∀ c ∈ l,zaO c=true∧(cellsOf c).length=sz)→∀ {i:Nat},i<l.length→zba (l.set i x)=(zba l).take (i * sz)++cellsOf x++(zba l).drop (i * sz+sz):=by
  intro l
  induction l with
  | nil=>intro _ i h;simp at h
  | cons a l ih =>
    intro h i hi
    have ha:=(h a (by simp)).2
    cases i with
    | zero =>
      rw[List.set_cons_zero,zbx,zbx,Nat.zero_mul,Nat.zero_add,List.take_zero,← ha,List.drop_left' rfl];rfl
    | succ i =>
      have e1:(i+1) * sz=(cellsOf a).length+i * sz:=by rw[ha,Nat.add_mul];omega
      have t1:∀ (n:Nat) (Y:List AV),(cellsOf a++Y).take ((cellsOf a).length+n)=cellsOf a++Y.take n:=fun n Y=>by
        rw[List.take_append,List.take_of_length_le (Nat.le_add_right _ _),Nat.add_sub_cancel_left]
      have t2:∀ (n:Nat) (Y:List AV),(cellsOf a++Y).drop ((cellsOf a).length+n)=Y.drop n:=fun n Y=>by
        rw[← List.drop_drop,List.drop_left' rfl]
      rw[List.set_cons_succ,zbx,zbx,ih (fun c hc=>h c (by simp[hc])) (by simpa using hi),e1,t1,Nat.add_assoc,t2]
      simp only[List.append_assoc]
theorem zrb{t:TypeId}{sz:Nat}{a b:AV}{va vb:Value}(hs:(szB P t).run=some sz)(ha:VR φ a va)(hb:VR φ b vb)(hr:HR P w0 H φ w)(hok:AllOk ((zmU (zaC P t) sz (ksB P t).run).run a b H c)) :
    Out P w0 (fun v w'=>(Instr.storeAt t va vb).run P w=.ok () w'∧v=undef) H φ ((zmU (zaC P t) sz (ksB P t).run).run a b H c) c:=by
  refine Out.om hok fun ks hks hok=>Out.bi2 hok (fun _ hok=>(zaY hok).elim) fun hgg hok=>Out.bi hok fun h27 hok=>Out.bi hok fun hq hok=>Out.bi hok fun hst hok=>Out.bi hok fun hk hok=>Out.bi hok fun ht hok=>Out.bi hok fun hlk hok=>Out.bi hok fun hlx hok=>Out.bi hok fun htg hok=>?_
  have hagg:zaC P t=false→sz=1:=by
    intro h
    rw[h,zai,zdQ] at hgg
    exact zaa.1 (by simpa using hgg)
  obtain⟨x,hx,hrl,rfl⟩:=ha.of_optr (zaa.1 h27)
  have hk':=zaa.1 hk
  have ht':=zaa.1 ht
  have hst':=zaa.1 hst
  have hq':=zaa.1 hq
  obtain⟨l,rest,ty,fr,ho,g1,g2,g3,g4,g5,g6,g7⟩:=hr.list hx (by unfold isL;rw[hk];rfl)
  have:=g3 hk';subst this
  have hlk':=zaa.1 hlk
  rw[zaz] at hlk'
  have hlx':=zaa.1 hlx
  rw[zaz] at hlx'
  rw[ht'] at g2 g4 g6
  have hbok:zaO b=true:=by
    by_cases h15:b.tag=15
    · unfold zaO;rw[h15];cases za6 b<;>rfl
    · have ec:cellsOf b=[b]:=by
        unfold cellsOf;rw[zam.2 h15];rfl
      rw[ec] at htg hlx'
      cases ks with
      | nil=>simp at hlk';omega
      | cons k ks =>
        have h1:bi (zax k b) (zdW ks [b] 1) false=true:=htg
        cases h2:zax k b
        · rw[h2] at h1;cases h1
        have hk9:=zhw hks k (by simp)
        unfold zaO za6
        rcases zgf h2 with⟨h3,h4⟩ | ⟨h3,h4,_⟩
        · rw[zah.2 (show b.tag≤14 by omega)];rfl
        · rw[h4];rfl
  obtain⟨hc1,_⟩:=hb.cells hbok
  obtain⟨f1,f2,f3,f4⟩:=zmn ks (zhw hks) hc1 0 htg
  have hvl:vb.cells.toList.length=sz:=by rw[← hc1.length];exact hlx'
  rw[List.drop_zero,List.take_of_length_le (by omega)] at f1
  obtain⟨e1,e2⟩:=zgE (agg:=zaC P t) f4 (fun h=>by rw[f3,hlk',hagg h])
  have hlt:a.r<(hget H a.p).cs.length:=by omega
  have hl:=g1.length
  rw[zbP g2] at hl
  have hle:(a.r+1) * sz≤(hget H a.p).cs.length * sz:=Nat.mul_le_mul_right _ hlt
  rw[Nat.add_mul,Nat.one_mul] at hle
  have hone:∀ v ∈ vb.cells.toList,v.oneCell'=true:=by
    intro v hv
    obtain⟨i,hi⟩:=List.mem_iff_getElem?.1 hv
    have hi':i<(zcN ks (cellsOf b) 0).length:=by rw[f1.length];exact (List.getElem?_eq_some_iff.1 hi).1
    obtain⟨v',hv',hvr⟩:=f1.get (List.getElem?_eq_getElem hi')
    rw[hi] at hv';cases hv'
    exact (hvr.vr.one (f4 _ (List.getElem_mem hi'))).1
  have hst2:=run_storeCells_at (P:=P) x (a.r * a.s+a.q) ty vb.cells.toList 0 (l++rest).toArray w ho (by rw[List.size_toArray,List.length_append,hst',hq'];omega) hone
  have hoff:a.r * a.s+a.q=a.r * sz:=by rw[hst',hq'];rfl
  refine Out.set (x:=x) (o':=.cells (l.take (a.r * sz)++vb.cells.toList++l.drop (a.r * sz+sz)++rest).toArray ty)
    (w':=w.setRow x (((l++rest).toArray).toList.take (a.r * a.s+a.q+0)++vb.cells.toList++((l++rest).toArray).toList.drop (a.r * a.s+a.q+0+vb.cells.toList.length)).toArray) hr hx (by omega) ?_ (.ud _ _ _ _ _) ⟨?_,rfl⟩ ?_ ?_ (by simp[World.setRow]) rfl rfl rfl hok (fun h=>by omega) (by omega) ?_
  · refine⟨(fun h=>by cases h),(fun h=>by cases h),(fun h=>by cases h),fun _=>.inr (.inr ⟨.inl rfl,l.take (a.r * sz)++vb.cells.toList++l.drop (a.r * sz+sz),rest,ty,(0,0),rfl,?_,?_,fun _=>rfl,?_,?_,g6⟩)⟩
    · show FZs φ.fz (zba (putN _ _ _)) _
      rw[zfG,zt2 (sz:=sz) (by rw[e2,f3,hlk']) g2 hlt,e2]
      exact ((g1.take _).append f1).append (g1.drop _)
    · intro c hc
      have hc':c ∈ putN (zbE (zaC P t) (zcN ks (cellsOf b) 0)) a.r (hget H a.p).cs:=hc
      rw[zfG] at hc'
      rcases List.mem_or_eq_of_mem_set hc' with h | h
      · exact g2 c h
      · rw[h];exact⟨e1,by rw[e2,f3,hlk']⟩
    · show _=φ.k x * sz
      rw[← g4]
      simp only[List.length_append,List.length_take,List.length_drop,hvl]
      omega
    · show (putN _ _ _).length<2 ^ 40
      rw[zfG,List.length_set];exact g5
  · simp only[Instr.storeAt,Instr.sureAddr,storeVar,Sem.run_bind,Sem.run_pure',Result.andThen_ok,zaS hs]
    rw[if_neg (by simpa using hvl)]
    exact hst2
  · rw[setRow_heap w x _ _ ty (0,0) ho]
    congr 3
    rw[hoff,hvl]
    simp only[Nat.add_zero]
    rw[List.take_append_of_le_length (by omega),List.drop_append_of_le_length (by omega)]
    simp only[List.append_assoc]
  · intro k hk
    simp[World.setRow,Array.getElem?_modify,Ne.symm hk]
  · intro _
    show (putN _ _ _).length=_
    rw[zfG,List.length_set];exact g7
theorem ix3{a:AV}{n:Nat}(h3:a.tag=3)(h:a.p≤n)(hn:n<2 ^ 63):ixOk a n=true:=by
  unfold ixOk
  rw[h3,show nble 3 7=true from rfl,zag,zah.2 h,zag,zdQ]
  have e:zbj 3=2 ^ 63:=by decide
  have:zbb 3 a.p=false:=zaW.2 (by rw[e];omega)
  rw[this];rfl
theorem FSl.part{a:AV}{v:Value}(h:FSl z a v){l hi s:Nat}(h1:l≤hi)(h2:hi≤a.cs.length)(hs:s=0 ∨ s=1) :
    (v=.slice none 0 0∧a.p=0∧a.cs=[]∧FZ z ⟨24,a.p,0,a.r,s,(a.cs.take hi).drop l⟩ (.slice none 0 0)) ∨
    ∃ ad cap,v=.slice (some ad) a.cs.length cap∧a.p=1∧a.cs.length≤cap∧a.cs.length<2 ^ 63∧∀ cap' ad',(s=1→cap'=hi - l)→hi - l≤cap'→(l<hi→ad'=ad.add (l * a.r))→FZ z ⟨24,a.p,0,a.r,s,(a.cs.take hi).drop l⟩ (.slice (some ad') (hi - l) cap'):=by
  have hlen:((a.cs.take hi).drop l).length=hi - l:=by rw[List.length_drop,List.length_take];omega
  have hnil:hi - l=0→(a.cs.take hi).drop l=[]:=fun h=>List.length_eq_zero_iff.1 (by rw[hlen];exact h)
  have hemp:∀ cap' ad',a.p=1→(s=1→cap'=hi - l)→hi - l=0→FZ z ⟨24,a.p,0,a.r,s,(a.cs.take hi).drop l⟩ (.slice (some ad') (hi - l) cap'):=by
    intro cap' ad' hp h3 h0
    rw[hnil h0,h0,hp]
    rcases hs with rfl | rfl
    · exact .empty 0 _ ad' cap'
    · rw[h3 rfl,h0];exact .done 0 _ 1 ad'
  cases h with
  | nil g1 g2 =>
    refine .inl ⟨rfl,g1,g2,?_⟩
    rw[g1,g2]
    simp only[List.take_nil,List.drop_nil]
    exact .nils 0 _ s
  | empty ad cap g1 g2 g3 =>
    refine .inr ⟨ad,cap,by rw[g2];rfl,g1,by rw[g2];exact Nat.zero_le _,by rw[g2];decide,fun cap' ad' h3 _ _=>hemp cap' ad' g1 h3 ?_⟩
    rw[g2] at h2
    simp at h2;omega
  | sl x off cap C ls g1 g2 g3 g4 g5 g6 g7 g8 g9 =>
    refine .inr ⟨_,cap,rfl,g1,g5,g7,fun cap' ad' h3 h4 h5=>?_⟩
    by_cases h0:hi - l=0
    · exact hemp cap' ad' g1 h3 h0
    · rw[h5 (by omega),Addr.add_mid,g1,← hlen]
      have hsub:∀ c ∈ (a.cs.take hi).drop l,zaO c=true∧(cellsOf c).length=a.r:=fun c hc=>g4 c (List.mem_of_mem_take (List.mem_of_mem_drop hc))
      have hfz:FZs z (zba ((a.cs.take hi).drop l)) ((ls.take (hi * a.r)).drop (l * a.r)):=by
        have:=(g3.take (hi * a.r)).drop (l * a.r)
        rwa [zc1 g4,zkQ (fun c hc=>g4 c (List.mem_of_mem_take hc))] at this
      refine .sl 0 a.r s _ x (off+l * a.r) cap' C _ g2 hfz hsub (by rw[hlen];exact h4) (fun e=>by rw[hlen];exact h3 e) (by rw[hlen];omega) ?_ (by rw[hlen];omega)
      have hll:ls.length=a.cs.length * a.r:=by rw[← g3.length,zbP g4]
      have hm:hi * a.r≤a.cs.length * a.r:=Nat.mul_le_mul_right _ h2
      have hml:l * a.r≤hi * a.r:=Nat.mul_le_mul_right _ h1
      have e2:((ls.take (hi * a.r)).drop (l * a.r)).length=hi * a.r - l * a.r:=by rw[List.length_drop,List.length_take];omega
      rw[e2]
      conv=>rhs;rw[← g8]
      rw[List.take_take,List.drop_take,List.drop_drop,Nat.min_eq_left (by omega)]
theorem zuW{t e:TypeId}{sz:Nat}{hasHi:Bool}{lo hi:Option Value}{x l h:AV}{vx:Value}(ht:(tyB P t).run=some (.slice e))(hs:(szB P e).run=some sz)(hx:VR φ x vx)(hlo:LoOK φ lo l)(hhi:HiOK φ hi hasHi h)(hr:HR P w0 H φ w)
    (hok:AllOk ((cutY sz hasHi).run x l h H c)):Out P w0 (fun v w'=>(Instr.sliceAt t vx lo hi none).run P w=.ok v w') H φ ((cutY sz hasHi).run x l h H c) c:=by
  refine Out.bi hok fun g3 hok=>Out.bi2 hok (fun g24 hok=>Out.bi hok fun gh hok=>Out.bi hok fun g1 hok=>Out.bi hok fun g2 _=>?_) fun _ hok=>Out.bi hok fun g25 hok=>Out.bi hok fun gL hok=>Out.bi hok fun gh hok=>Out.bi hok fun g0 hok=>Out.bi hok fun g1 hok=>?_
  · obtain⟨g24,gsz⟩:=zaw.1 g24
    have hsz:=zaa.1 gsz
    have i1:(bi hasHi h (mk1 3 (lenL x.cs))).p≤x.cs.length:=by have:=zah.1 g1;rw[zaz] at this ⊢;exact this
    have i2:=zah.1 g2
    rw[zbB,zbv]
    rcases ((hx.of_frz (zaa.1 g24)).of_sl (zaa.1 g24)).part i2 i1 (.inl rfl) with⟨rfl,hp,hcs,hf⟩ | ⟨ad,cap,rfl,hp,hcap,h63,hf⟩
    · have hx0:x.cs.length=0:=by rw[hcs];rfl
      have h0:(bi hasHi h (mk1 3 (lenL x.cs))).p=0:=by omega
      have l0:l.p=0:=by omega
      have hbd:=zdn (P:=P) (w:=w) (isSlice:=true) (len:=0) (cap:=0) (top:=0) hlo hhi (Nat.le_refl _) (by
        have e0:lenL x.cs=0:=by rw[hcs];rfl
        rw[e0] at gh h0
        exact ix3 (zaa.1 gh) (by omega) (by omega)) (ix3 (zaa.1 g3) (by omega) (by
        have e0:lenL x.cs=0:=by rw[hcs];rfl
        rw[e0] at h0;omega))
      refine Out.same hr (.frz _ _ _ _ _ _ hf) ?_
      have e0:lenL x.cs=0:=by rw[hcs];rfl
      rw[e0] at h0
      rw[zcV ht]
      simp only[Instr.slice,Sem.run_bind,zav ht,Result.andThen_ok,hbd,zaS hs,Sem.run_pure',h0,l0]
      rfl
    · have hbd:=zdn (P:=P) (w:=w) (isSlice:=true) (len:=x.cs.length) (cap:=cap) (top:=x.cs.length) hlo hhi hcap (by
        rw[zaz] at gh i1
        exact ix3 (zaa.1 gh) i1 h63) (by
        rw[zaz] at i1 i2
        exact ix3 (zaa.1 g3) i2 (by omega))
      rw[zaz] at i1 i2 hf ⊢
      generalize hh:(bi hasHi h (mk1 3 x.cs.length)).p=hp' at *
      refine Out.same (val:=.slice (some (if cap=l.p then ad else ad.add (l.p * sz))) (hp' - l.p) (cap - l.p)) hr (.frz _ _ _ _ _ _ (hf _ _ (fun h=>by cases h) (by omega) fun hlt=>by rw[if_neg (by omega),hsz])) ?_
      rw[zcV ht]
      simp only[Instr.slice,Sem.run_bind,zav ht,Result.andThen_ok,hbd,zaS hs,Sem.run_pure']
      by_cases hc:cap=l.p
      · rw[if_pos hc,if_pos hc]
      · rw[if_neg hc,if_neg hc];rfl
  · have l0:=zaa.1 g0
    have i1:=zah.1 g1
    have htag:=zaa.1 g25
    have fin:∀ ad len cap,vx=.slice ad len cap→x.r=len→len≤cap→x.r<2 ^ 63→(VR φ ⟨25,x.p,x.q,(bi hasHi h (mk1 3 x.r)).p,0,[]⟩ (.slice ad (bi hasHi h (mk1 3 x.r)).p cap))→Out P w0 (fun v w'=>(Instr.sliceAt t vx lo hi none).run P w=.ok v w') H φ (c H ⟨25,x.p,x.q,(bi hasHi h (mk1 3 x.r)).p,0,[]⟩) c:=by
      intro ad len cap hv hlen hcap h63 hvr
      subst hv hlen
      have hbd:=zdn (P:=P) (w:=w) (isSlice:=true) (len:=x.r) (cap:=cap) (top:=x.r) hlo hhi hcap (ix3 (zaa.1 gh) i1 h63) (ix3 (zaa.1 g3) (by omega) (by omega))
      refine Out.same hr hvr ?_
      rw[zcV ht]
      simp only[Instr.slice,Sem.run_bind,zav ht,Result.andThen_ok,hbd,zaS hs,Sem.run_pure',l0,Nat.sub_zero]
      by_cases hc:cap=0
      · rw[if_pos hc]
      · rw[if_neg hc]
        cases ad with
        | none=>rfl
        | some ad=>simp[Addr.add]
    by_cases hr0:x.r=0
    · have h0:(bi hasHi h (mk1 3 x.r)).p=0:=by omega
      have key:∃ ad cap,vx=.slice ad 0 cap∧VR φ ⟨25,x.p,x.q,0,0,[]⟩ (.slice ad 0 cap):=by
        cases hx<;>simp only at htag hr0<;>first | (subst hr0;exact⟨_,_,rfl,.own _ _ _ _ _ (by assumption) (Nat.zero_le _) (by assumption)⟩) | exact⟨_,_,rfl,.ownn _ _ _⟩ | exact⟨_,_,rfl,.owne _ _ _ _⟩ | (exact absurd htag (by omega))
      obtain⟨ad,cap,rfl,hv⟩:=key
      exact fin ad 0 cap rfl hr0 (Nat.zero_le _) (by omega) (by rw[h0];exact hv)
    · have hp:x.p=1:=by
        cases hx<;>first | rfl | exact absurd rfl hr0 | (simp only at htag;omega)
      obtain⟨y,hy,g2,g4,rfl⟩:=zeP hx htag (by omega)
      obtain⟨l,rest,ty,fr,ho,k1,k2,k3,k4,k5,k6,k7⟩:=hr.list hy gL
      exact fin _ _ _ rfl rfl (by omega) (by omega) (by rw[hp];exact .own _ _ _ _ _ hy (by omega) g4)
theorem zt3{t e:TypeId}{sz:Nat}{lo:Option Value}{x l h m:AV}{vx vh vm:Value}(ht:(tyB P t).run=some (.slice e))(hs:(szB P e).run=some sz)(hx:VR φ x vx)(hlo:LoOK φ lo l)(hh:VR φ h vh)(hm:VR φ m vm)(hr:HR P w0 H φ w)
    (hok:AllOk ((zjL sz).run [x,l,h,m] H c)):Out P w0 (fun v w'=>(Instr.sliceAt t vx lo (some vh) (some vm)).run P w=.ok v w') H φ ((zjL sz).run [x,l,h,m] H c) c:=by
  refine Out.bi hok fun g3 hok=>Out.bi hok fun g24 hok=>Out.bi hok fun g0 hok=>Out.bi hok fun g1 hok=>Out.bi hok fun g2 _=>?_
  obtain⟨gl,g3⟩:=zaw.1 g3
  obtain⟨gh,gm⟩:=zaw.1 g3
  obtain⟨g24,gsz⟩:=zaw.1 g24
  have gl:l.tag=3:=zaa.1 gl
  have gh:h.tag=3:=zaa.1 gh
  have gm:m.tag=3:=zaa.1 gm
  have gsz:x.r=sz:=zaa.1 gsz
  have g0:h.p=m.p:=zaa.1 g0
  have i1:h.p≤x.cs.length:=by have:=zah.1 g1;rwa [zaz] at this
  have i2:l.p≤h.p:=zah.1 g2
  have g24:x.tag=24:=zaa.1 g24
  change Out P w0 _ H φ (c H ⟨24,x.p,0,x.r,1,zbJ (za4 h.p x.cs) l.p⟩) c
  rw[zbB,zbv]
  rcases ((hx.of_frz g24).of_sl g24).part i2 i1 (.inr rfl) with⟨rfl,hp,hcs,hf⟩ | ⟨ad,cap,rfl,hp,hcap,h63,hf⟩
  · rw[hcs] at i1
    have h0:h.p=0:=by simpa using i1
    have l0:l.p=0:=by omega
    have m0:m.p=0:=by omega
    have b1:=zcd (P:=P) (w:=w) (m:=0) (code:=.slice3Acap) hm (ix3 (n:=0) gm (by omega) (by omega)) (Nat.le_refl _)
    have b2:=zcd (P:=P) (w:=w) (m:=m.p) (code:=.slice3B) hh (ix3 (n:=m.p) gh (by omega) (by omega)) (Nat.le_refl _)
    have hbd:(Instr.sliceBounds true 0 0 lo (some vh) (some vm)).run P w=.ok (l.p,h.p,m.p) w:=by
      rcases hlo with⟨rfl,hp⟩ | ⟨u,rfl,hu⟩
      · simp only[Instr.sliceBounds,Sem.run_bind,Sem.run_pure',Result.andThen_ok,b1,b2,if_true,hp]
      · have hb':=zcd (P:=P) (w:=w) (m:=h.p) (code:=.slice3C) hu (ix3 (n:=h.p) gl (by omega) (by omega)) (Nat.le_refl _)
        simp only[Instr.sliceBounds,Sem.run_bind,Sem.run_pure',Result.andThen_ok,b1,b2,if_true,Option.isSome_some,hb']
    refine Out.same hr (.frz _ _ _ _ _ _ hf) ?_
    rw[zcV ht]
    simp only[Instr.slice,Sem.run_bind,zav ht,Result.andThen_ok,hbd,zaS hs,Sem.run_pure',h0,l0,m0]
    rfl
  · have b1:=zcd (P:=P) (w:=w) (m:=cap) (code:=.slice3Acap) hm (ix3 (n:=x.cs.length) gm (by omega) h63) hcap
    have b2:=zcd (P:=P) (w:=w) (m:=m.p) (code:=.slice3B) hh (ix3 (n:=m.p) gh (by omega) (by omega)) (Nat.le_refl _)
    have hbd:(Instr.sliceBounds true x.cs.length cap lo (some vh) (some vm)).run P w=.ok (l.p,h.p,m.p) w:=by
      rcases hlo with⟨rfl,hp⟩ | ⟨u,rfl,hu⟩
      · simp only[Instr.sliceBounds,Sem.run_bind,Sem.run_pure',Result.andThen_ok,b1,b2,if_true,hp]
      · have hb':=zcd (P:=P) (w:=w) (m:=h.p) (code:=.slice3C) hu (ix3 (n:=h.p) gl (by omega) (by omega)) (Nat.le_refl _)
        simp only[Instr.sliceBounds,Sem.run_bind,Sem.run_pure',Result.andThen_ok,b1,b2,if_true,Option.isSome_some,hb']
    refine Out.same (val:=.slice (some (if m.p=l.p then ad else ad.add (l.p * sz))) (h.p - l.p) (m.p - l.p)) hr (.frz _ _ _ _ _ _ (hf _ _ (fun _=>by omega) (by omega) fun hlt=>by rw[if_neg (by omega),gsz])) ?_
    rw[zcV ht]
    simp only[Instr.slice,Sem.run_bind,zav ht,Result.andThen_ok,hbd,zaS hs,Sem.run_pure']
    by_cases hc:m.p=l.p
    · rw[if_pos hc,if_pos hc]
    · rw[if_neg hc,if_neg hc];rfl
end Go.Eng
namespace Go.Eng
open Go.RowKit
variable {P:Program} {w0:World} {H:Hp} {φ:Ph} {c:Kont} {w:World} {z:Nat→Option (List Value)}
theorem HR.frz{b:Nat}(h:HR P w0 H φ w)(hb:b<H.n)(hL:isL (hget H b)=true):HR P w0 (frzB H b) φ w:=by
  have hn:=h.n
  unfold frzB
  refine⟨?_,?_,h.n,h.lim,h.below,h.gl,h.op,?_,?_,h.fo⟩
  · intro b' x hb'
    obtain⟨h1,h2,o,h3,h4⟩:=h.blk b' x hb'
    refine⟨h1,h2,o,h3,?_⟩
    rw[zaM (by omega) (by omega)]
    by_cases he:b=b'
    · subst he
      rw[if_pos rfl]
      have hk:(hget H b).kind=6 ∨ (hget H b).kind=7:=by
        rcases zbw.1 hL with e | e
        · exact .inl (zaa.1 e)
        · exact .inr (zaa.1 e)
      rcases h4.ext (by omega) with⟨e,_⟩ | ⟨e,_⟩ | ⟨_,l,rest,t,fr,rfl,g2,g3,g4,g5⟩
      · omega
      · omega
      · exact⟨(fun h=>by cases h),(fun h=>by cases h),(fun h=>by cases h),fun _=>.inr (.inr ⟨.inr rfl,l,rest,t,fr,rfl,g2,g3,(fun h=>by cases h),g5⟩)⟩
    · rw[if_neg he];exact h4
  · intro b1 b2 x e1 e2 k1 k2
    have l1:=(h.blk _ _ e1).1;have l2:=(h.blk _ _ e2).1
    have key:∀ b1,b1<H.n→(hget (hset H b ⟨7,(hget H b).t,(hget H b).e,(hget H b).cs⟩) b1).kind ≠ 0→(hget H b1).kind ≠ 0:=by
      intro b1 hb1 hk1
      rw[zaM (by omega) (by omega)] at hk1
      by_cases he:b=b1
      · subst he
        intro h0
        rcases zbw.1 hL with e | e<;>(have:=zaa.1 e;omega)
      · rw[if_neg he] at hk1;exact hk1
    exact h.inj b1 b2 x e1 e2 (key b1 l1 k1) (key b2 l2 k2)
  · intro x C hx
    refine⟨(h.fz x C hx).1,fun b' hb' hl=>?_⟩
    have l1:=(h.blk _ _ hb').1
    rw[zaM (by omega) (by omega)]
    by_cases he:b=b'
    · rw[if_pos he];exact .inr rfl
    · rw[if_neg he];exact (h.fz x C hx).2 b' hb' hl
  · intro b' x hb' hk
    have l1:=(h.blk _ _ hb').1
    rw[zaM (by omega) (by omega)] at hk ⊢
    by_cases he:b=b'
    · subst he
      rw[if_pos rfl]
      refine h.tl b x hb' ?_
      rcases zbw.1 hL with e | e
      · exact .inl (zaa.1 e)
      · exact .inr (zaa.1 e)
    · rw[if_neg he] at hk ⊢;exact h.tl b' x hb' hk
theorem EX.frz{b:Nat}(h:HR P w0 H φ w)(hb:b<H.n)(hl:H.lim≤b)(hL:isL (hget H b)=true):EX H φ (frzB H b) φ:=by
  have hn:=h.n
  refine⟨Le.refl φ,fun b x h h'=>(by rw[h] at h';cases h'),Nat.le_refl _,rfl,?_,?_,?_,fun _ _ h=>.inl h⟩
  · intro k h1 h2;unfold frzB;rw[zaM (by omega) h2,if_neg (by omega)]
  · intro k h1 h2 h3;unfold frzB;rw[zaM (by omega) (by omega),]
    split
    · rename_i e
      subst e
      have h7:(hget H b).kind=7:=by
        rcases zbw.1 hL with e | e
        · exact absurd (zaa.1 e) h3
        · exact zaa.1 e
      rw[← h7]
    · rfl
  · intro k h1 h2 h3
    unfold frzB
    rw[zaM (by omega) h2]
    split
    · rename_i e;subst e
      rcases zbw.1 hL with e | e<;>(have:=zaa.1 e;omega)
    · exact h3
theorem HR.addfz{x:Nat}{C:List Value}{t:TypeId}{fr:Nat × Nat}(h:HR P w0 H φ w)(hx0:OwnB w0 φ x)(ho:w.heap[x]?=some (.cells C.toArray t fr))(hd:∀ b,φ b=some x→(H.lim≤b ∨ (hget H b).kind=0)∧((hget H b).kind=0 ∨ (hget H b).kind=7)) :
    ∃ φ':Ph,HR P w0 H φ' w∧EX H φ H φ'∧φ'.fz x=some C∧φ'.f=φ.f:=by
  let φ':Ph:=⟨φ.f,φ.k,φ.op,fun y=>if y=x then some C else φ.fz y,φ.tl⟩
  have hle:Le φ φ':=by
    refine⟨fun b y hb=>⟨hb,rfl⟩,rfl,fun y D hy=>?_,fun _ _ _=>rfl⟩
    show (if y=x then some C else φ.fz y)=some D
    by_cases e:y=x
    · subst e
      obtain⟨⟨t',fr',h1⟩,_⟩:=h.fz y D hy
      rw[ho] at h1
      have h2:=Option.some.inj h1
      injection h2 with h2 _ _
      rw[if_pos rfl]
      congr 1
      simpa using h2
    · rw[if_neg e];exact hy
  refine⟨φ',⟨?_,h.inj,h.n,h.lim,h.below.op rfl,h.gl,h.op,?_,h.tl,?_⟩,⟨hle,fun b y hb hn=>(by have hb':φ b=some y:=hb;rw[hb'] at hn;cases hn),Nat.le_refl _,rfl,fun _ _ _=>rfl,fun _ _ _ _=>rfl,fun _ _ _ h=>h,?_⟩,if_pos rfl,rfl⟩
  · intro b y hb
    obtain⟨h1,h2,o,h3,h4⟩:=h.blk b y hb
    exact⟨h1,h2,o,h3,h4.mono hle rfl⟩
  · intro y D hy
    have hy':(if y=x then some C else φ.fz y)=some D:=hy
    by_cases e:y=x
    · rw[if_pos e] at hy';cases hy'
      subst e
      exact⟨⟨t,fr,ho⟩,fun b hb hl=>(hd b hb).2⟩
    · rw[if_neg e] at hy';exact h.fz y D hy'
  · intro y D hy
    have hy':(if y=x then some C else φ.fz y)=some D:=hy
    by_cases e:y=x
    · exact .inl (e ▸ hx0)
    · rw[if_neg e] at hy';exact h.fo y D hy'
  · intro y D hy
    have hy':(if y=x then some C else φ.fz y)=some D:=hy
    by_cases e:y=x
    · exact .inr fun b _ hb=>(hd b (e ▸ hb)).1
    · rw[if_neg e] at hy';exact .inl hy'
structure Frz(P:Program)(w0 w:World)(H:Hp)(φ:Ph)(H':Hp)(φ':Ph):Prop where
  hr:HR P w0 H' φ' w
  ex:EX H φ H' φ'
  f:φ'.f=φ.f
  n:H'.n=H.n
  dead:∀ b,b<H.n→(hget H b).kind=0→(hget H' b).kind=0
theorem Frz.refl(h:HR P w0 H φ w):Frz P w0 w H φ H φ:=⟨h,EX.refl H φ,rfl,rfl,fun _ _ h=>h⟩
theorem Frz.trans{H1 H2:Hp}{φ1 φ2:Ph}(a:Frz P w0 w H φ H1 φ1)(b:Frz P w0 w H1 φ1 H2 φ2):Frz P w0 w H φ H2 φ2 :=
  ⟨b.hr,a.ex.trans b.ex,b.f.trans a.f,b.n.trans a.n,fun x hx hk=>b.dead x (by rw[a.n];exact hx) (a.dead x hx hk)⟩
theorem zt4{c:AV}{v:Value}(h:FZ z c v)(ho:za6 c=true):zaO c=true∧cellsOf c=[c]:=by
  refine⟨by unfold zaO;rw[ho];rfl,?_⟩
  unfold cellsOf
  rw[show nbeq c.tag 15=false from zam.2 (by rcases zk6 ho with h | h | h<;>omega)];rfl
def FrzE(P:Program)(w0:World)(f:TypeId→Nat→List AV→Hp→Option (List AV × Hp)):Prop:=∀ (e:TypeId) (n:Nat) (cells:List AV) (H:Hp) (es:List AV) (H':Hp),f e n cells H=some (es,H')→∀ (sz:Nat),(szB P e).run=some sz→∀ (φ:Ph) (w:World) (vals:List Value),HR P w0 H φ w→VRs φ cells vals →
  ∃ φ',Frz P w0 w H φ H' φ'∧FZs φ'.fz (zba es) vals∧es.length=n∧∀ c ∈ es,zaO c=true∧(cellsOf c).length=sz
theorem ziI{a:AV}{n:Nat}(h:isNil a n=true):a.tag=17∧a.p=n:=by
  obtain⟨h1,h2⟩:=zaw.1 (show bi (nbeq a.tag 17) (nbeq a.p n) false=true from h)
  exact⟨zaa.1 h1,zaa.1 h2⟩
theorem zys{ih:TypeId→Nat→List AV→Hp→Option (List AV × Hp)}(hih:FrzE P w0 ih){t:TypeId}{c c':AV}{H H':Hp}(h:frzC P ih t c H=some (c',H')){φ:Ph}{w:World}{v:Value}(hr:HR P w0 H φ w)(hv:VR φ c v) :
    ∃ φ',Frz P w0 w H φ H' φ'∧FZ φ'.fz c' v∧za6 c'=true:=by
  have scal:om (kTag P t) none (fun k=>bi (nbeq c.tag k) (some (canC k c,H)) none)=some (c',H')→(∀ e,(tyB P t).run ≠ some (.slice e))→∃ φ',Frz P w0 w H φ H' φ'∧FZ φ'.fz c' v∧za6 c'=true:=by
    intro h hns
    obtain⟨k,hk,h⟩:=za1 h
    obtain⟨ht,h⟩:=zas h
    cases h
    have h9:k≤9:=by
      unfold kTag at hk
      split at hk<;>first | (cases hk;done) | skip
      · rename_i k' _;cases hk;cases k'<;>simp[zap]
      · cases hk;omega
      · cases hk;omega
      · rename_i e he;exact absurd he (hns e)
    have htag:zax k c=true:=by
      unfold zax;rw[zaW.2 (by omega),zai];exact ht
    refine⟨φ,Frz.refl hr,hv.can (.inl h9) htag,?_⟩
    unfold canC
    by_cases h8:k≤8
    · rw[zah.2 h8,zag];unfold za6 mk1;rw[zah.2 (show k≤14 by omega)];rfl
    · have:k=9:=by omega
      subst this;rfl
  unfold frzC at h
  split at h
  · rename_i e ht
    obtain⟨sz,hsz,h⟩:=za1 h
    cases h24:nbeq c.tag 24
    · rw[h24,zai] at h
      cases hn:isNil c 1
      · rw[hn,zai] at h
        cases h25:nbeq c.tag 25
        · rw[h25,zai] at h
          obtain⟨h11,h⟩:=zas h
          obtain⟨hk1,h⟩:=zas h
          obtain⟨_,h⟩:=zas h
          obtain⟨hr5,h⟩:=zas h
          obtain⟨cells,hcl,h⟩:=za1 h
          obtain⟨⟨es,H2⟩,hes,h⟩:=za1 h
          obtain⟨hlim,h⟩:=zas h
          cases h
          have hlim:=zah.1 hlim
          obtain⟨x,cap,rfl,hx,hc1,hc2,_⟩:=hv.of_sl (zaa.1 h11)
          obtain⟨hcn,hcb,o,ho,hB⟩:=hr.blk _ _ hx
          obtain⟨l,rest,t',rfl,hl,h1,_⟩:=hB.cells (zaa.1 hk1)
          rw[zbB] at hcl
          obtain⟨hlen,rfl⟩:=zbL hcl
          have hn1:=hr.n
          have hsub:=(hl.drop c.q).take (Nat.mul c.r sz)
          obtain⟨φ1,hf,hfz,hel,hec⟩:=hih e c.r _ _ _ _ hes sz hsz φ w _ (hr.kill hcn) hsub
          have hfr:Frz P w0 w H φ (hset H c.p noB) φ:=⟨hr.kill hcn,EX.kill hr hx hlim (by have:=zaa.1 hk1;omega),rfl,rfl,fun b hb hk=>by
            rw[zaM (by omega) (by omega)];split
            · rfl
            · exact hk⟩
          have hf2:=hfr.trans hf
          have hd:∀ b,φ1 b=some x→(H2.lim≤b ∨ (hget H2 b).kind=0)∧((hget H2 b).kind=0 ∨ (hget H2 b).kind=7):=by
            intro b hb
            rw[hf2.f] at hb
            obtain⟨g1,g2,_⟩:=hr.blk b x hb
            have hbz:(hget (hset H c.p noB) b).kind=0:=by
              rw[zaM (by omega) (by omega)]
              by_cases he:c.p=b
              · rw[if_pos he];rfl
              · rw[if_neg he]
                cases hz:decide ((hget H b).kind=0) with
                | true=>exact of_decide_eq_true hz
                | false=>exact absurd (hr.inj _ _ _ hx hb (by have:=zaa.1 hk1;omega) (of_decide_eq_false hz)) he
            exact⟨.inr (hf.dead b g1 hbz),.inl (hf.dead b g1 hbz)⟩
          obtain⟨φ2,hr2,hex2,hz2,hf3⟩:=hf2.hr.addfz ((hcb hlim).mono hf2.ex.keep.op) ho hd
          refine⟨φ2,hf2.trans ⟨hr2,hex2,hf3,rfl,fun _ _ h=>h⟩,?_,rfl⟩
          have hfz2:=hfz.mono hex2.keep.fz
          by_cases h0:c.r=0
          · have:es=[]:=List.length_eq_zero_iff.1 (by rw[hel];exact h0)
            rw[this,h0]
            exact .empty 0 sz _ cap
          · have e1:c.r=es.length:=hel.symm
            have hvl:((l.drop c.q).take (Nat.mul c.r sz)).length=Nat.mul c.r sz:=by
              rw[List.length_take,List.length_drop]
              rw[List.length_drop,hl.length] at hlen
              omega
            have hsl:=FZ.sl (z:=φ2.fz) 0 sz 0 es x c.q cap _ _ hz2 hfz2 hec (by omega) (fun h=>by cases h) (by have:=zah.1 hr5;omega) ?_ (by omega)
            · rw[hel] at hsl;exact hsl
            · rw[hvl,List.drop_append,List.take_append]
              have:Nat.mul c.r sz - (l.drop c.q).length=0:=by
                rw[List.length_drop]
                rw[List.length_drop,hl.length] at hlen
                omega
              rw[this];simp
        · rw[h25,zag] at h
          obtain⟨hlim,h⟩:=zas h
          obtain⟨hL,h⟩:=zas h
          obtain⟨hts,h⟩:=zas h
          cases h
          have htag:=zaa.1 h25
          obtain⟨hlim,hin⟩:=zaw.1 hlim
          have hlim:=zah.1 hlim
          have hin:c.q<H.n:=zah.1 hin
          have hts:=zaa.1 hts
          rw[zbv]
          have hfr:Frz P w0 w H φ (frzB H c.q) φ:=⟨hr.frz hin hL,EX.frz hr hin hlim hL,rfl,rfl,fun b hb hk=>by
            have hn1:=hr.n
            unfold frzB
            rw[zaM (by omega) (by omega)]
            split
            · rename_i e;subst e
              rcases zbw.1 hL with e | e<;>(have:=zaa.1 e;omega)
            · exact hk⟩
          by_cases hr0:c.r=0
          · refine⟨φ,hfr,?_,rfl⟩
            rw[hr0,List.take_zero]
            cases hv<;>simp only at htag hr0<;>first | exact .nils 0 sz 0 | exact .empty 0 sz _ _ | (subst hr0;exact .empty 0 sz _ _) | (exact absurd htag (by omega))
          · have hp:c.p=1:=by
              cases hv<;>first | rfl | exact absurd rfl hr0 | (simp only at htag;omega)
            obtain⟨x,hx,g1,g2,rfl⟩:=zeP hv htag (by omega)
            obtain⟨l,rest,ty,fr,ho,k1,k2,k3,k4,k5,k6,k7⟩:=hr.list hx hL
            have hn1:=hr.n
            have hk0:(hget H c.q).kind ≠ 0:=by
              rcases zbw.1 hL with e | e<;>(have:=zaa.1 e;omega)
            have hd:∀ b,φ b=some x→((frzB H c.q).lim≤b ∨ (hget (frzB H c.q) b).kind=0)∧((hget (frzB H c.q) b).kind=0 ∨ (hget (frzB H c.q) b).kind=7):=by
              intro b hb
              have g3:=(hr.blk b x hb).1
              unfold frzB
              rw[zaM (by omega) (by omega)]
              by_cases he:c.q=b
              · rw[if_pos he];exact⟨.inl (he ▸ hlim),.inr rfl⟩
              · rw[if_neg he]
                cases hz:decide ((hget H b).kind=0) with
                | true=>exact⟨.inr (of_decide_eq_true hz),.inl (of_decide_eq_true hz)⟩
                | false=>exact absurd (hr.inj _ _ _ hx hb hk0 (of_decide_eq_false hz)) he
            obtain⟨φ2,hr2,hex2,hz2,hf3⟩:=hfr.hr.addfz ((hr.blk _ _ hx).2.1 hlim) ho hd
            refine⟨φ2,hfr.trans ⟨hr2,hex2,hf3,rfl,fun _ _ h=>h⟩,?_,rfl⟩
            have hcl:(hget H c.q).cs.length=φ.tl c.q:=k7
            have htl:((hget H c.q).cs.take c.r).length=c.r:=by rw[List.length_take];omega
            rw[hts] at k2
            have hfz2:FZs φ2.fz (zba ((hget H c.q).cs.take c.r)) (l.take (c.r * sz)):=by
              have:=(k1.mono hex2.keep.fz).take (c.r * sz)
              rwa [zc1 k2] at this
            have hll:l.length=(hget H c.q).cs.length * sz:=by rw[← k1.length,zbP k2]
            have hle:c.r * sz≤(hget H c.q).cs.length * sz:=Nat.mul_le_mul_right _ (by omega)
            rw[hp]
            have hsl:=FZ.sl (z:=φ2.fz) 0 sz 0 ((hget H c.q).cs.take c.r) x 0 (φ.k x) _ _ hz2 hfz2 (fun a ha=>k2 a (List.mem_of_mem_take ha)) (by omega) (fun h=>by cases h) (by omega) ?_ (by omega)
            · rw[htl] at hsl;exact hsl
            · rw[List.drop_zero,List.length_take,Nat.min_eq_left (by omega),List.take_append_of_le_length (by omega)]
      · rw[hn,zag] at h
        cases h
        have:=hv.isNil hn
        simp only at this;subst this
        exact⟨φ,Frz.refl hr,.nils 0 sz 0,rfl⟩
    · rw[h24,zag] at h
      obtain⟨hrs,h⟩:=zas h
      cases h
      have:=((hv.of_frz (zaa.1 h24)).of_sl (zaa.1 h24)).fz 0 0 (.inl rfl)
      rw[zaa.1 hrs] at this
      exact⟨φ,Frz.refl hr,this,rfl⟩
  · obtain⟨hn,h⟩:=zas h
    cases h
    have:=hv.isNil hn
    simp only at this;subst this
    obtain⟨e1,e2⟩:=ziI hn
    obtain⟨ct,cp,cq,cr,cS,ccs⟩:=c
    simp only at e1 e2;subst e1 e2
    exact⟨φ,Frz.refl hr,.nilp _ _ _ _,rfl⟩
  · obtain⟨hn,h⟩:=zas h
    cases h
    have:=hv.isNil hn
    simp only at this;subst this
    obtain⟨e1,e2⟩:=ziI hn
    obtain⟨ct,cp,cq,cr,cS,ccs⟩:=c
    simp only at e1 e2;subst e1 e2
    exact⟨φ,Frz.refl hr,.nilm _ _ _ _,rfl⟩
  · obtain⟨hn,h⟩:=zas h
    cases h
    have:=hv.isNil hn
    simp only at this;subst this
    obtain⟨e1,e2⟩:=ziI hn
    obtain⟨ct,cp,cq,cr,cS,ccs⟩:=c
    simp only at e1 e2;subst e1 e2
    exact⟨φ,Frz.refl hr,.nilf _ _ _ _,rfl⟩
  · rename_i hns _ _ _
    exact scal h (fun e he=>hns e he)
theorem zl7{ih:TypeId→Nat→List AV→Hp→Option (List AV × Hp)}(hih:FrzE P w0 ih):∀ (ts:List TypeId) (cs:List AV) (H:Hp) (cs':List AV) (H':Hp),frzL P ih ts cs H=some (cs',H')→∀ (φ:Ph) (w:World) (vals:List Value),HR P w0 H φ w→VRs φ cs vals →
    ∃ φ',Frz P w0 w H φ H' φ'∧FZs φ'.fz cs' vals∧cs'.length=ts.length∧∀ c ∈ cs',za6 c=true:=by
  intro ts
  induction ts with
  | nil =>
    intro cs H cs' H' h φ w vals hr hv
    cases cs with
    | nil =>
      have h':some (([]:List AV),H)=some (cs',H'):=h
      cases h';cases hv
      exact⟨φ,Frz.refl hr,.nil,rfl,fun c hc=>by cases hc⟩
    | cons c cs=>cases h
  | cons t ts ihl =>
    intro cs H cs' H' h φ w vals hr hv
    cases cs with
    | nil=>cases h
    | cons c cs =>
      have h':om (frzC P ih t c H) none (fun x=>om (frzL P ih ts cs x.2) none fun y=>some (x.1::y.1,y.2))=some (cs',H'):=h
      obtain⟨⟨c1,H1⟩,h1,h'⟩:=za1 h'
      obtain⟨⟨cs2,H2⟩,h2,h'⟩:=za1 h'
      cases h'
      cases hv with
      | cons hv1 hv2 =>
        obtain⟨φ1,f1,z1,o1⟩:=zys hih h1 hr hv1
        obtain⟨φ2,f2,z2,l2,o2⟩:=ihl cs H1 cs2 H2 h2 φ1 w _ f1.hr (hv2.mono f1.ex.keep)
        refine⟨φ2,f1.trans f2,.cons (z1.mono f2.ex.keep.fz) z2,by simp[l2],fun c hc=>?_⟩
        cases hc with
        | head=>exact o1
        | tail _ hc=>exact o2 c hc
theorem zl8(fuel:Nat):FrzE P w0 (frzE P fuel):=by
  induction fuel with
  | zero=>intro e n cells H es H' h;cases h
  | succ fuel ih =>
    intro e n cells H es H' h sz hsz
    have hdef:∀ n cells H,frzE P (fuel+1) e n cells H=(om (zff P 20 e) (fun _ _=>none) fun ts=>om (szB P e).run (fun _ _=>none) fun sz=>bi (bi (nbeq (lenL ts) sz) (bi (zaC P e) true (nbeq sz 1)) false) (Nat.rec (motive:=fun _=>List AV→Hp→Option (List AV × Hp)) (fun cs H=>List.rec (motive:=fun _=>Option (List AV × Hp)) (some ([],H)) (fun _ _ _=>none) cs)
      (fun _ ihn cs H=>om (zcy cs (lenL ts)) none fun x=>om (frzL P (frzE P fuel) ts x H) none fun y=>om (ihn (zbJ cs (lenL ts)) y.2) none fun z=>some (zbE (zaC P e) y.1::z.1,z.2)) n) (fun _ _=>none)) cells H:=fun _ _ _=>rfl
    rw[hdef] at h
    cases hts:zff P 20 e with
    | none=>rw[hts] at h;cases h
    | some ts =>
      rw[hts,zan,hsz,zan] at h
      cases hc:bi (nbeq (lenL ts) sz) (bi (zaC P e) true (nbeq sz 1)) false
      · rw[hc] at h;cases h
      rw[hc,zag] at h
      obtain⟨hc1,hc2⟩:=zaw.1 hc
      have hlt:=zaa.1 hc1
      have hlt':ts.length=sz:=by rwa [zaz] at hlt
      clear hdef
      induction n generalizing cells H es H' with
      | zero =>
        intro φ w vals hr hv
        cases cells with
        | nil =>
          have h':some (([]:List AV),H)=some (es,H'):=h
          cases h';cases hv
          exact⟨φ,Frz.refl hr,.nil,rfl,fun c hc=>by cases hc⟩
        | cons c cs=>cases h
      | succ n ihn =>
        intro φ w vals hr hv
        obtain⟨x,hx,h⟩:=za1 h
        obtain⟨⟨y,H1⟩,hy,h⟩:=za1 h
        obtain⟨⟨zs,H2⟩,hz,h⟩:=za1 h
        cases h
        rw[hlt] at hx hz
        rw[zbB] at hz
        obtain⟨hl1,rfl⟩:=zbL hx
        obtain⟨φ1,f1,z1,l1,o1⟩:=zl7 ih ts _ H y H1 hy φ w _ hr (hv.take sz)
        have hz':=hz
        rw[← zbB,← hlt] at hz'
        obtain⟨φ2,f2,z2,l2,o2⟩:=ihn _ H1 zs H2 hz' φ1 w (vals.drop sz) f1.hr (by rw[zbB,hlt];exact (hv.drop sz).mono f1.ex.keep)
        obtain⟨e1,e2⟩:=zgE (agg:=zaC P e) o1 (fun h=>by
          rw[h,zai] at hc2
          rw[l1,hlt'];exact zaa.1 hc2)
        refine⟨φ2,f1.trans f2,?_,by simp[l2],fun c hc=>?_⟩
        · rw[zbx,e2]
          have:=(z1.mono f2.ex.keep.fz).append z2
          rwa [List.take_append_drop] at this
        · cases hc with
          | head=>exact⟨e1,by rw[e2,l1,hlt']⟩
          | tail _ hc=>exact o2 c hc
end Go.Eng
namespace Go.Eng
open Go.RowKit
variable {P:Program} {w0:World} {H:Hp} {φ:Ph} {c:Kont} {w:World} {z:Nat→Option (List Value)}
theorem HR.early(hr:HR P w0 H φ w)(hn:H.n≤32766)(B:AB):HR P w0 (hnew H B) φ w∧EX H φ (hnew H B) φ:=by
  have hs:(hnew H B).n=H.n+1:=zcA _ _
  have hg:∀ b,b<H.n→hget (hnew H B) b=hget H b:=fun b hb=>by rw[zaD (by omega) (by omega),if_neg (by omega)]
  refine⟨⟨?_,?_,by omega,by have:=hr.lim;show H.lim≤_;omega,hr.below,hr.gl,hr.op,?_,?_,hr.fo⟩,⟨Le.refl φ,fun b x h h'=>(by rw[h] at h';cases h'),by omega,rfl,?_,?_,?_,fun _ _ h=>.inl h⟩⟩
  · intro b x hb
    obtain⟨h1,h2,o,h3,h4⟩:=hr.blk b x hb
    exact⟨by omega,h2,o,h3,by rw[hg b h1];exact h4⟩
  · intro b b' x hb hb' k1 k2
    rw[hg b (hr.blk b x hb).1] at k1
    rw[hg b' (hr.blk b' x hb').1] at k2
    exact hr.inj b b' x hb hb' k1 k2
  · intro x C hx
    refine⟨(hr.fz x C hx).1,fun b hb hl=>?_⟩
    rw[hg b (hr.blk b x hb).1]
    exact (hr.fz x C hx).2 b hb hl
  · intro b x hb hk
    rw[hg b (hr.blk b x hb).1] at hk ⊢
    exact hr.tl b x hb hk
  · intro b hb _
    exact hg b (by have:=hr.lim;omega)
  · intro b hb _ _
    exact hg b hb
  · intro b hb _ hk
    rw[hg b hb];exact hk
theorem EX.kill6{b:Nat}(h:HR P w0 H φ w)(hb:b<H.n)(hl:H.lim≤b)(h6:(hget H b).kind=6):EX H φ (hset H b noB) φ:=by
  have hn:=h.n
  refine⟨Le.refl φ,fun b x h h'=>(by rw[h] at h';cases h'),Nat.le_refl _,rfl,?_,?_,?_,fun _ _ h=>.inl h⟩
  · intro k h1 h2;rw[zaM (by omega) h2,if_neg (by omega)]
  · intro k h1 h2 h3;rw[zaM (by omega) (by omega),if_neg (fun e=>by subst e;exact h3 h6)]
  · intro k h1 h2 h3
    rw[zaM (by omega) h2]
    split
    · rename_i e;subst e;omega
    · exact h3
theorem zuX{e:TypeId}{sz:Nat}{y:AV}{vy:Value}{news:List AV}{H':Hp}(hs:(szB P e).run=some sz)(hy:VR φ y vy)(hr:HR P w0 H φ w)(h:ziO P e sz H y=some (news,H')) :
    ∃ (φ':Ph) (nvs:List Value),Frz P w0 w H φ H' φ'∧FZs φ'.fz (zba news) nvs∧(∀ c ∈ news,zaO c=true∧(cellsOf c).length=sz)∧(Builtin.lenOf vy).run P w=.ok news.length w ∧
      (∀ w':World,w'.heap=w.heap→(Builtin.firstCells sz news.length vy).run P w'=.ok nvs.toArray w')∧nvs.length=news.length * sz:=by
  have none_ok:∀ (ad:Option Addr) (cap:Nat),vy=.slice ad 0 cap→(Builtin.lenOf vy).run P w=.ok 0 w∧(∀ w':World,w'.heap=w.heap→(Builtin.firstCells sz 0 vy).run P w'=.ok ([]:List Value).toArray w'):=by
    intro ad cap hv
    subst hv
    refine⟨rfl,fun w' _=>?_⟩
    cases ad with
    | none=>rfl
    | some a =>
      simp only[Builtin.firstCells,Nat.zero_mul]
      rfl
  unfold ziO at h
  cases h24:nbeq y.tag 24
  · rw[h24,zai] at h
    cases hn:isNil y 1
    · rw[hn,zai] at h
      cases h25:nbeq y.tag 25
      · rw[h25,zai] at h
        obtain⟨h11,h⟩:=zas h
        obtain⟨hk1,h⟩:=zas h
        obtain⟨cells,hcl,h⟩:=za1 h
        obtain⟨x,cap,rfl,hx,hc1,hc2,_⟩:=hy.of_sl (zaa.1 h11)
        obtain⟨hcn,hcb,o,ho,hB⟩:=hr.blk _ _ hx
        obtain⟨l,rest,t',rfl,hl,h1,_⟩:=hB.cells (zaa.1 hk1)
        rw[zbB] at hcl
        obtain⟨hlen,rfl⟩:=zbL hcl
        have em:Nat.mul y.r sz=y.r * sz:=rfl
        rw[em] at hlen h
        rw[List.length_drop,hl.length] at hlen
        obtain⟨φ1,hf,hfz,hel,hec⟩:=zl8 20 e y.r _ _ _ _ h sz hs φ w _ hr ((hl.drop y.q).take (y.r * sz))
        refine⟨φ1,_,hf,hfz,hec,by rw[hel];rfl,fun w' hw'=>?_,?_⟩
        · rw[hel]
          exact zme (x:=y) ho (by omega) w' hw'
        · rw[hel,List.length_take,List.length_drop];omega
      · rw[h25,zag] at h
        obtain⟨hL,h⟩:=zas h
        obtain⟨hts,h⟩:=zas h
        cases h
        have htag:=zaa.1 h25
        have hts:=zaa.1 hts
        rw[zbv]
        by_cases hr0:y.r=0
        · have key:∃ ad cap,vy=.slice ad 0 cap:=by
            cases hy<;>simp only at htag hr0<;>first | (subst hr0;exact⟨_,_,rfl⟩) | exact⟨_,_,rfl⟩ | (exact absurd htag (by omega))
          obtain⟨ad,cap,hv⟩:=key
          obtain⟨g1,g2⟩:=none_ok ad cap hv
          rw[hr0,List.take_zero]
          exact⟨φ,[],Frz.refl hr,.nil,fun c hc=>(by cases hc),g1,g2,by simp⟩
        · obtain⟨x,hx,g1,g2,rfl⟩:=zeP hy htag (by omega)
          obtain⟨l,rest,ty,fr,ho,k1,k2,k3,k4,k5,k6,k7⟩:=hr.list hx hL
          rw[hts] at k2
          have htl:((hget H y.q).cs.take y.r).length=y.r:=by rw[List.length_take];omega
          have hll:l.length=(hget H y.q).cs.length * sz:=by rw[← k1.length,zbP k2]
          have hle:y.r * sz≤(hget H y.q).cs.length * sz:=Nat.mul_le_mul_right _ (by omega)
          have hfz2:FZs φ.fz (zba ((hget H y.q).cs.take y.r)) (l.take (y.r * sz)):=by
            have:=k1.take (y.r * sz)
            rwa [zc1 k2] at this
          refine⟨φ,_,Frz.refl hr,hfz2,fun a ha=>k2 a (List.mem_of_mem_take ha),by rw[htl];rfl,fun w' hw'=>?_,by rw[List.length_take,htl];omega⟩
          rw[htl]
          simp only[Builtin.firstCells]
          rw[zde (P:=P) (w:=w') (by rw[hw'];exact ho) (by rw[List.length_append];omega),List.drop_zero,List.take_append_of_le_length (by omega)]
    · rw[hn,zag] at h
      cases h
      have:=hy.isNil hn
      simp only at this
      obtain⟨g1,g2⟩:=none_ok none 0 this
      exact⟨φ,[],Frz.refl hr,.nil,fun c hc=>(by cases hc),g1,g2,by simp⟩
  · rw[h24,zag] at h
    obtain⟨hrs,h⟩:=zas h
    cases h
    have hrs:=zaa.1 hrs
    have hsl:=(hy.of_frz (zaa.1 h24)).of_sl (zaa.1 h24)
    cases hsl with
    | nil g1 g2 =>
      obtain⟨k1,k2⟩:=none_ok none 0 rfl
      rw[g2]
      exact⟨φ,[],Frz.refl hr,.nil,fun c hc=>(by cases hc),k1,k2,by simp⟩
    | empty ad cap g1 g2 g3 =>
      obtain⟨k1,k2⟩:=none_ok (some ad) cap rfl
      rw[g2]
      exact⟨φ,[],Frz.refl hr,.nil,fun c hc=>(by cases hc),k1,k2,by simp⟩
    | sl x off cap C l g1 g2 g3 g4 g5 g6 g7 g8 g9 =>
      rw[hrs] at g4
      have hll:l.length=y.cs.length * sz:=by rw[← g3.length,zbP g4]
      obtain⟨⟨ty,fr,ho⟩,_⟩:=hr.fz x C g2
      refine⟨φ,l,Frz.refl hr,g3,g4,rfl,fun w' hw'=>?_,hll⟩
      simp only[Builtin.firstCells]
      have hle:l.length≤C.length - off:=by
        have:=congrArg List.length g8
        rw[List.length_take,List.length_drop] at this;omega
      rw[zde (P:=P) (w:=w') (by rw[hw'];exact ho) (by omega),← hll,g8]
section app
variable {tys:Array TypeId} {e sz bt ty:Nat} {zv:Value}
theorem zkS{r cap k:Nat}{base:Option Addr}{vy:Value}{olds nvs:List Value}{cs:List AV}(hA:AppT P tys e sz bt zv)(hsz:1≤sz)(hr:HR P w0 H φ w)
    (hlen:(Builtin.lenOf vy).run P w=.ok k w) (hfirst:∀ w':World,w'.heap=w.heap→(Builtin.firstCells sz k vy).run P w'=.ok nvs.toArray w')
    (hold:∀ w':World,w'.heap=w.heap→(Builtin.firstCells sz r (.slice base r cap)).run P w'=.ok olds.toArray w') (hgrow:cap<r+k) (hsm:r+k≤100000)
    (hcs:FZs φ.fz (zba cs) (olds++nvs)) (h1:∀ c ∈ cs,zaO c=true∧(cellsOf c).length=sz) (hl:cs.length=r+k) (hok:AllOk (newC H ⟨6,sz,0,cs⟩ (fun b=>⟨25,1,b,r+k,0,[]⟩) c)) :
    Out P w0 (fun v w'=>(Builtin.append_ tys ty #[.slice base r cap,vy]).run P w=.ok v w') H φ (newC H ⟨6,sz,0,cs⟩ (fun b=>⟨25,1,b,r+k,0,[]⟩) c) c:=by
  obtain⟨newCap,hcap,hrun⟩:=zie (ty:=ty) hA hlen hfirst hold hgrow hsm
  have hll:(olds++nvs).length=(r+k) * sz:=by rw[← hcs.length,zbP h1,hl]
  refine Out.newL (w:=w.drew) (o:=.cells (olds++nvs++(Builtin.zeroCells zv.cells (newCap - (r+k))).toList).toArray e) (val:=.slice (some ⟨w.heap.size,0,none⟩) (r+k) newCap) newCap hr.drew ?_ ?_ hrun hok
  · intro φ' hle hk
    refine⟨(fun h=>by cases h),(fun h=>by cases h),(fun h=>by cases h),fun _=>.inr (.inr ⟨.inl rfl,olds++nvs,_,e,(0,0),rfl,hcs.mono hle.fz,h1,fun _=>rfl,?_,?_,hsz⟩)⟩
    · rw[List.length_append,hll,znL hA.zs]
      have:φ'.k w.drew.heap.size=newCap:=hk
      show _=φ'.k _ * sz
      rw[this,← Nat.add_mul];congr 1;omega
    · show cs.length<2 ^ 40
      omega
  · intro φ' hle hf hk htl
    have hk':φ'.k w.heap.size=newCap:=hk
    have htl':φ'.tl H.n=cs.length:=htl
    have:=VR.own (φ:=φ') H.n w.heap.size (r+k) 0 [] hf (by omega) (by omega)
    rw[hk'] at this
    exact this
theorem zoa(h:AppT P tys e sz bt zv){ad:Addr}{r cap:Nat}{vy:Value}(hr:r≤cap)(hlen:(Builtin.lenOf vy).run P w=.ok 0 w)(hfirst:(Builtin.firstCells sz 0 vy).run P w=.ok ([]:List Value).toArray w) :
    (Builtin.append_ tys ty #[.slice (some ad) r cap,vy]).run P w=.ok (.slice (some ad) r cap) w:=by
  obtain⟨t,h0,hu⟩:=h.t0
  obtain⟨t',d',h0',hu',hd'⟩:=h.t1
  have hnot:=zkE hd'
  have h1:(#[Value.slice (some ad) r cap,vy]:Array Value)[0]?=some (.slice (some ad) r cap):=rfl
  have h2:(#[Value.slice (some ad) r cap,vy]:Array Value)[1]?=some vy:=rfl
  have hst:∀ a:Addr,(storeCells a ([]:List Value)).run P w=.ok () w:=fun a=>rfl
  unfold Builtin.append_
  simp only[h0,h0',h1,h2,Sem.run_bind,zav hu,zav hu',hnot,Result.andThen_ok,zaS h.hsz,hlen,Bool.false_eq_true,if_false,Nat.add_zero,hr,if_true,hfirst,Bool.not_false,hst,Sem.run_pure',Bool.not_true]
theorem zfd{p:Nat}{base:Option Addr}{vy:Value}{news:List AV}{nvs:List Value}(hA:AppT P tys e sz bt zv)(hp:(p=0∧base=none) ∨ (p=2∧∃ a,base=some a))(hr:HR P w0 H φ w)
    (hfz:FZs φ.fz (zba news) nvs) (hel:∀ c ∈ news,zaO c=true∧(cellsOf c).length=sz) (hlen:(Builtin.lenOf vy).run P w=.ok news.length w) (hfirst:∀ w':World,w'.heap=w.heap→(Builtin.firstCells sz news.length vy).run P w'=.ok nvs.toArray w')
    (hok:AllOk (zfg sz p [] news H c)):Out P w0 (fun v w'=>(Builtin.append_ tys ty #[.slice base 0 0,vy]).run P w=.ok v w') H φ (zfg sz p [] news H c) c:=by
  refine Out.bi hok fun hsz hok=>Out.bi hok fun hsm hok=>?_
  have hsz:=zah.1 hsz
  have hsm:0+news.length≤100000:=by have:=zah.1 hsm;rw[zaz,zaz] at this;exact this
  rw[zaz,zaz] at hok ⊢
  have e0:appL [] news=news:=zaV _ _
  rw[e0] at hok ⊢
  have e1:Nat.add ([]:List AV).length news.length=0+news.length:=rfl
  rw[e1] at hok ⊢
  by_cases hm:news.length=0
  · have hn0:news=[]:=List.length_eq_zero_iff.1 hm
    subst hn0
    have hnv:nvs=[]:=List.length_eq_zero_iff.1 (by rw[← hfz.length];rfl)
    subst hnv
    refine Out.bi hok fun hn _=>?_
    obtain⟨g1,g2⟩:=hr.early (zah.1 hn) ⟨6,sz,0,[]⟩
    rcases hp with⟨rfl,rfl⟩ | ⟨rfl,a,rfl⟩
    · exact⟨_,_,φ,.slice none 0 0,w,fun _ h=>h,zjy hA hlen (hfirst w rfl),.ownn _ _ _,g1,g2⟩
    · exact⟨_,_,φ,.slice (some a) 0 0,w,fun _ h=>h,zoa hA (Nat.le_refl _) hlen (hfirst w rfl),.owne _ _ _ _,g1,g2⟩
  · have eb:∀ b:Nat,(⟨25,bi (nbeq news.length 0) p 1,b,0+news.length,0,[]⟩:AV)=⟨25,1,b,0+news.length,0,[]⟩:=fun b=>by rw[zam.2 hm,zai]
    simp only[eb] at hok ⊢
    exact zkS (olds:=[]) (r:=0) (cap:=0) hA hsz hr hlen hfirst (fun w' _=>by
      cases base with
      | none=>rfl
      | some a=>simp only[Builtin.firstCells,Nat.zero_mul];rfl) (by omega) hsm hfz hel (by omega) hok
theorem zj0{x y:AV}{vx vy:Value}(hA:AppT P tys e sz bt zv)(hx:VR φ x vx)(hy:VR φ y vy)(hr:HR P w0 H φ w)(hok:AllOk ((zeE P e sz bt).run x y H c)) :
    Out P w0 (fun v w'=>(Builtin.append_ tys ty #[vx,vy]).run P w=.ok v w') H φ ((zeE P e sz bt).run x y H c) c:=by
  refine Out.om hok fun zz hz hok=>?_
  obtain⟨news,H1⟩:=zz
  obtain⟨φ1,nvs,hf,hfz,hel,hlen,hfirst,hnl⟩:=zuX hA.hsz hy hr hz
  have hx1:=hx.mono hf.ex.keep
  refine Out.trans ?_ hf.ex
  have hr1:=hf.hr
  refine Out.bi2 hok (fun h25 hok=>Out.bi hok fun h6 hok=>Out.bi hok fun hts hok=>Out.bi hok fun hlim hok=>?_) fun _ hok=>Out.bi2 hok (fun h24 hok=>Out.bi hok fun hs1 hok=>Out.bi hok fun hl0 hok=>?_) fun _ hok=>Out.bi hok fun hn hok=>?_
  · have htag:=zaa.1 h25
    have h6':(hget H1 x.q).kind=6:=zaa.1 h6
    have hts:(hget H1 x.q).t=sz:=zaa.1 hts
    obtain⟨hlim,hin⟩:=zaw.1 hlim
    have hlim:H1.lim≤x.q:=zah.1 hlim
    have hin:x.q<H1.n:=zah.1 hin
    rw[zbv] at hok ⊢
    refine Out.trans ?_ (EX.kill6 hr1 hin hlim h6')
    have hrk:=hr1.kill hin
    by_cases hp1:x.p=1
    · obtain⟨blk,hb,g1,g2,rfl⟩:=hx1.of_own htag hp1
      have hL:isL (hget H1 x.q)=true:=by unfold isL;rw[h6];rfl
      obtain⟨l,rest,ty',fr,ho,k1,k2,k3,k4,k5,k6,k7⟩:=hr1.list hb hL
      have:=k3 h6';subst this
      rw[hts] at k2 k4 k6
      have htl:((hget H1 x.q).cs.take x.r).length=x.r:=by rw[List.length_take];omega
      have hll:l.length=(hget H1 x.q).cs.length * sz:=by rw[← k1.length,zbP k2]
      have hle:x.r * sz≤(hget H1 x.q).cs.length * sz:=Nat.mul_le_mul_right _ (by omega)
      have hcs:FZs φ1.fz (zba ((hget H1 x.q).cs.take x.r++news)) (l.take (x.r * sz)++nvs):=by
        rw[zdG,← zc1 k2]
        exact (k1.take _).append hfz
      have hel2:∀ c ∈ (hget H1 x.q).cs.take x.r++news,zaO c=true∧(cellsOf c).length=sz:=fun a ha=>by
        rcases List.mem_append.1 ha with h | h
        · exact k2 a (List.mem_of_mem_take h)
        · exact hel a h
      have hlen2:((hget H1 x.q).cs.take x.r++news).length=x.r+news.length:=by rw[List.length_append,htl]
      have hold:∀ w':World,w'.heap=w.heap→(Builtin.firstCells sz x.r (.slice (some ⟨blk,0,none⟩) x.r (φ1.k blk))).run P w'=.ok (l.take (x.r * sz)).toArray w':=fun w' hw'=>by
        simp only[Builtin.firstCells]
        rw[zbO (P:=P) (w:=w') (by rw[hw'];exact ho) (by rw[List.length_append];omega),List.drop_zero,List.take_append_of_le_length (by omega)]
      refine Out.bi hok fun hsz hok=>Out.bi hok fun hsm hok=>?_
      have hsz:=zah.1 hsz
      have hsm:x.r+news.length≤100000:=by
        have:=zah.1 hsm;rw[zaz,zaz,htl] at this;exact this
      rw[zaz,zaz,htl,hp1] at hok ⊢
      have eb:∀ b:Nat,(⟨25,bi (nbeq news.length 0) 1 1,b,Nat.add x.r news.length,0,[]⟩:AV)=⟨25,1,b,x.r+news.length,0,[]⟩:=fun b=>by cases nbeq news.length 0<;>rfl
      simp only[eb,zaV] at hok ⊢
      by_cases hfit:x.r+news.length≤φ1.k blk
      · have hone:∀ v ∈ nvs,v.oneCell'=true:=by
          have hvrs:VRs φ1 (zba news) nvs:=hfz.vrs
          refine zkF hvrs fun a ha=>?_
          obtain⟨i,hi⟩:=List.mem_iff_getElem?.1 ha
          obtain⟨v,_,hv⟩:=hfz.get hi
          exact hv.one
        have hml:(x.r+news.length) * sz≤φ1.k blk * sz:=Nat.mul_le_mul_right _ hfit
        rw[Nat.add_mul] at hml
        have hlr:=k4
        rw[List.length_append] at hlr
        have hst:=run_storeCells_at (P:=P) blk (0+x.r * sz) ty' nvs 0 (l++rest).toArray w ho (by rw[List.size_toArray,List.length_append];omega) hone
        have hrun:=zgc (ty:=ty) hA hlen (hfirst w rfl) hfit hst
        have hw':((l++rest).toArray).toList.take (0+x.r * sz+0)++nvs++((l++rest).toArray).toList.drop (0+x.r * sz+0+nvs.length)=l.take (x.r * sz)++nvs++(l++rest).drop (x.r * sz+news.length * sz):=by
          simp only[Nat.zero_add,Nat.add_zero,hnl]
          rw[List.take_append_of_le_length (by omega)]
        rw[hw'] at hrun
        obtain⟨s1,s2⟩:(w.setRow blk (l.take (x.r * sz)++nvs++(l++rest).drop (x.r * sz+news.length * sz)).toArray).heap[blk]?=some (.cells (l.take (x.r * sz)++nvs++(l++rest).drop (x.r * sz+news.length * sz)).toArray ty')∧∀ j,j ≠ blk→(w.setRow blk (l.take (x.r * sz)++nvs++(l++rest).drop (x.r * sz+news.length * sz)).toArray).heap[j]?=w.heap[j]?:=by
          refine⟨setRow_heap w blk _ _ ty' (0,0) ho,fun j hj=>?_⟩
          simp[World.setRow,Array.getElem?_modify,Ne.symm hj]
        have hn1:=hr1.n
        have hdead:∀ b,φ1 b=some blk→(hget (hset H1 x.q noB) b).kind=0:=by
          intro b hb'
          have hbl:=(hr1.blk _ _ hb').1
          rw[zaM (by omega) (by omega)]
          by_cases he:x.q=b
          · rw[if_pos he];rfl
          · rw[if_neg he]
            cases hz:decide ((hget H1 b).kind=0) with
            | true=>exact of_decide_eq_true hz
            | false=>exact absurd (hr1.inj _ _ _ hb hb' (by omega) (of_decide_eq_false hz)) he
        have hbase:=(hr1.blk _ _ hb).2.1 hlim
        have hnf:=hr1.live hb hlim (by omega) (by omega)
        have hr2:=hrk.store hdead hnf hbase s2 ⟨_,s1⟩ (by simp[World.setRow]) rfl rfl rfl
        refine Out.alias (val:=.slice (some ⟨blk,0,none⟩) (x.r+news.length) (φ1.k blk)) hr2 hdead (.inl hnf) hbase s1 ?_ ?_ hrun hok
        · refine⟨(fun h=>by cases h),(fun h=>by cases h),(fun h=>by cases h),fun _=>.inr (.inr ⟨.inl rfl,l.take (x.r * sz)++nvs,(l++rest).drop (x.r * sz+news.length * sz),ty',(0,0),rfl,hcs,hel2,fun _=>rfl,?_,?_,hsz⟩)⟩
          · show _=φ1.k blk * sz
            rw[← k4]
            simp only[List.length_append,List.length_take,List.length_drop,hnl]
            omega
          · show (_:List AV).length<2 ^ 40
            rw[hlen2];omega
        · intro φ' hle hf' hkk htl'
          have htl2:φ'.tl H1.n=x.r+news.length:=by
            have:φ'.tl H1.n=((hget H1 x.q).cs.take x.r++news).length:=htl'
            rw[this,hlen2]
          have:=VR.own (φ:=φ') H1.n blk (x.r+news.length) 0 [] hf' (by omega) (by omega)
          rw[hkk] at this
          exact this
      · exact zkS hA hsz hrk hlen hfirst hold (by omega) hsm hcs hel2 hlen2 hok
    · have key:∃ base,vx=.slice base 0 0∧x.r=0∧((x.p=0∧base=none) ∨ (x.p=2∧∃ a,base=some a)):=by
        cases hx<;>first | exact absurd rfl hp1 | exact⟨_,rfl,rfl,.inl ⟨rfl,rfl⟩⟩ | exact⟨_,rfl,rfl,.inr ⟨rfl,_,rfl⟩⟩ | (simp only at htag;omega)
      obtain⟨base,rfl,hr0,hp⟩:=key
      rw[hr0,List.take_zero] at hok ⊢
      exact zfd hA hp hrk hfz hel hlen hfirst hok
  · have hl0':=zaa.1 hl0
    rw[zaz] at hl0'
    have hs1:=zaa.1 hs1
    have htag:=zaa.1 h24
    cases (hx1.of_frz htag).of_sl htag with
    | nil g1 g2 =>
      rw[g1] at hok ⊢
      exact zfd hA (.inl ⟨rfl,rfl⟩) hr1 hfz hel hlen hfirst hok
    | empty ad cap g1 g2 g3 =>
      have:cap=0:=by rcases g3 with h | h<;>omega
      subst this
      rw[g1] at hok ⊢
      exact zfd hA (.inr ⟨rfl,_,rfl⟩) hr1 hfz hel hlen hfirst hok
    | sl=>omega
  · have:=hx1.isNil hn
    simp only at this;subst this
    exact zfd hA (.inl ⟨rfl,rfl⟩) hr1 hfz hel hlen hfirst hok
end app
end Go.Eng
