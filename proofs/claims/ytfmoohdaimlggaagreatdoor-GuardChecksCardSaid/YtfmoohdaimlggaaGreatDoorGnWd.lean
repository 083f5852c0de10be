/- A part of the proof that the evaluator in GnC, and the driver in GnZ, answer as the model does; no conditions. -/
import Derived.Test.YtfmoohdaimlggaaGreatDoorGnWc
namespace Go.Eng
open Go.RowKit
variable {P:Program} {w0:World} {H Hb H0:Hp} {φ φ0 φ':Ph} {w:World} {N k0:Nat} {T:Fr} {a:Act} {r:Rec} {lab:LabW} {Gn:Gens} {fin:BR} {top:Code} {L:RL}
def znW(P:Program)(w:World)(k:Nat)(φ:Ph)(v0:AV)(bs':List AV):Ending→World→Prop
  | .returned v,w'=>∃ φ',HR P w (zbR bs' (zbk P)) φ' w'∧EX (Hk P k) φ (zbR bs' (zbk P)) φ'∧VR φ' v0 v
  | _,_=>False
def ztx(P:Program)(f:Nat)(args bs:List AV)(v0:AV)(bs':List AV):Prop:=∀ (w:World) (φ:Ph) (vals:List Value),HR P w (zbR bs (zbk P)) φ w→PlainOp φ→P.globals.size≤w.heap.size→VRs φ args vals→Calls P f vals.toArray w (znW P w bs.length φ v0 bs')
theorem zuS{bs:List AV}(hr:HR P w0 (zbR bs (zbk P)) φ w):EX (Hk P bs.length) φ (zbR bs (zbk P)) φ:=by
  have hn:=zhs bs (zbk P)
  have hbn:(zbk P).n=P.globals.size:=rfl
  have hnn:=hr.n
  rw[hn.1,hbn] at hnn
  refine⟨Le.refl φ,fun b x h h'=>(by rw[h] at h';cases h'),by rw[Hk_n.1,hn.1,hbn];omega,by rw[Hk_n.2,hn.2];rfl,fun b hb _=>?_,fun b hb h0 h6=>?_,fun b hb _ h5=>?_,fun _ _ h=>.inl h⟩
  · rw[Hk_n.2] at hb
    rw[zeC hnn hb,zdF _ _ hnn (by rw[hbn];exact hb)];exact zdS b
  · rw[Hk_n.1] at hb
    by_cases h2:b<P.globals.size
    · rw[zeC hnn h2,zdF _ _ hnn (by rw[hbn];exact h2)];exact zdS b
    · exfalso
      have:=zmP (P:=P) (k:=bs.length) (i:=b - P.globals.size) hnn (by omega)
      rw[show P.globals.size+(b - P.globals.size)=b by omega] at this
      rw[this] at h6;exact h6 rfl
  · rw[Hk_n.1] at hb
    exfalso
    by_cases h2:b<P.globals.size
    · rw[zeC hnn h2] at h5;cases h5
    · have:=zmP (P:=P) (k:=bs.length) (i:=b - P.globals.size) hnn (by omega)
      rw[show P.globals.size+(b - P.globals.size)=b by omega] at this
      rw[this] at h5;cases h5
theorem zpk{fn:Func}{nrm:List Nat}{v0:AV}{bs':List AV}(hk:P.globals.size+k0≤32767)(hφ0:∀ b x,φ0 b=some x→b<P.globals.size+k0)(hs:St P w0 N (Hk P k0) φ0 T H φ a w)
    (h:∀ x ∈ (finW P k0 fn.results.toList nrm).run r T H,x ∈ ansY (tupV [v0,tupV bs'])):LeavesInM (fen none) 0 P fn a.tmps (znW P w0 k0 φ0 v0 bs') a.defers .returning w:=by
  have hL:AllOk (ansY (tupV [v0,tupV bs'])):=fun x hx ht=>by rw[List.mem_singleton.1 hx] at ht;cases ht
  have h':∀ x ∈ om (zfv (zaK T) H) (zab 248) (fun H=>om ((zbM P fn.results.toList).run T H) (zab 248) fun v=>om (zkK P nrm (bi (nbeq v.tag 16) v.cs [v]) H) (zab 249) fun z=>om (zhU P.globals.size k0 z.1 [] z.2) (zab 249) fun y =>
    bi (ze7 z.2 y.seen) (ansY (tupV [bi (nbeq v.tag 16) (tupV y.vs) (nthL y.vs 0),tupV (mpL encB y.bs)])) (zab 249)),x ∈ ansY (tupV [v0,tupV bs']):=h
  cases hkm:zfv (zaK T) H with
  | none=>rw[hkm] at h';exact (zaq hL h').elim
  | some H1 =>
  rw[hkm,zan] at h'
  cases hv:(zbM P fn.results.toList).run T H1 with
  | none=>rw[hv] at h';exact (zaq hL h').elim
  | some v =>
  rw[hv,zan] at h'
  refine ze2 (H':=H1) _ hs.tr.defers hs.hr hkm fun φ2 w2 hex2 hr2=>?_
  obtain⟨val,h3,h4⟩:=zdN (hs.tr.mono hex2.keep) hr2 hv
  refine⟨val,h3,?_⟩
  cases hz:zkK P nrm (bi (nbeq v.tag 16) v.cs [v]) H1 with
  | none=>rw[hz] at h';exact (zaq hL h').elim
  | some z =>
  obtain⟨zs,H2⟩:=z
  rw[hz,zan] at h'
  simp only[] at h'
  cases hp:zhU P.globals.size k0 zs [] H2 with
  | none=>rw[hp] at h';exact (zaq hL h').elim
  | some y =>
  rw[hp,zan] at h'
  cases hmc:ze7 H2 y.seen
  · rw[hmc] at h';exact (zaq hL h').elim
  rw[hmc,zag] at h'
  have e:=zgg h'
  have e1:[bi (nbeq v.tag 16) (tupV y.vs) (nthL y.vs 0),tupV (mpL encB y.bs)]=[v0,tupV bs']:=congrArg AV.cs e
  injection e1 with e1 e2
  injection e2 with e2 _
  have e2:mpL encB y.bs=bs':=congrArg AV.cs e2
  subst e1 e2
  obtain⟨seen,hpre,hpk,_⟩:=zkN hp
  have hvs:∃ vals,VRs φ2 (bi (nbeq v.tag 16) v.cs [v]) vals∧((nbeq v.tag 16=true∧val=.tuple vals.toArray) ∨ (nbeq v.tag 16=false∧vals=[val])):=by
    cases h16:nbeq v.tag 16
    · exact⟨[val],.cons h4 .nil,.inr ⟨rfl,rfl⟩⟩
    · obtain⟨l,rfl,hl⟩:=h4.of_tup (zaa.1 h16)
      exact⟨l,hl,.inl ⟨rfl,rfl⟩⟩
  obtain⟨vals,hvs,hcase⟩:=hvs
  obtain⟨φ3,k1,k2,k3⟩:=zuK nrm hz hr2 hvs
  have hex3:=(hs.ex.trans hex2).trans k2
  have hlim:H2.lim=P.globals.size:=hex3.lim.trans Hk_n.2
  obtain⟨g1,g2,_,_,_⟩:=zl4 k1 hlim hpk hmc
  have g4:=zph hk k1 hex3 hpk hmc hpre hφ0
  refine⟨_,g1,g4,?_⟩
  have g5:=g2 _ k3
  rcases hcase with⟨h16,rfl⟩ | ⟨h16,rfl⟩
  · rw[h16,zag]
    exact .tup 0 0 0 0 _ _ g5
  · rw[h16,zai]
    revert g5
    generalize y.vs=ys
    intro g5
    cases g5 with
    | cons q1 q2=>exact q1
theorem zht(hm:P.follows .mixedOrders=true)(hgor:zhI P){f:Nat}{fn:Func}{c:Code}(hf:P.funcs[f]?=some fn)(hbd:fn.body=some c)(hrec:zaU P r)(hGn:∀ f g,Gn f=some g→∃ fn,P.funcs[f]?=some fn∧fn.body.isNone=false){nrm:List Nat}{n:Nat}{args bs bs':List AV}{v0:AV}
    (h:zeA P fn.ntmps lab bs.length Gn r c (finW P bs.length fn.results.toList nrm) n args bs=ansY (tupV [v0,tupV bs'])):ztx P f args bs v0 bs':=by
  intro w φ vals hr hpl hG hargs
  have h5:∀ x ∈ ansY (tupV [v0,tupV bs']),x.tag=5:=fun x hx=>by rw[List.mem_singleton.1 hx]
  have hL:AllOk (ansY (tupV [v0,tupV bs'])):=fun x hx ht=>by have:=h5 x hx;omega
  have hn:=zhs bs (zbk P)
  have hbn:(zbk P).n=P.globals.size:=rfl
  have hk:P.globals.size+bs.length≤32767:=by have:=hr.n;rw[hn.1,hbn] at this;exact this
  have hφ0:∀ b x,φ b=some x→b<P.globals.size+bs.length:=fun b x hb=>by have:=(hr.blk b x hb).1;rw[hn.1,hbn] at this;exact this
  refine zeq (ro:=none) (n:=0) (callsIn_of_wp_marks hf hbd trivial ?_)
  have hst:St P w fn.ntmps (Hk P bs.length) φ (zar 0 args noFr) (zbR bs (zbk P)) φ { tmps:=vals.toArray++Array.replicate (fn.ntmps - vals.toArray.size) undef,defers:=[] } w:=⟨zfC hargs _ hr.gl,hr,zuS hr⟩
  refine wpIn_mono (zoz (fin:=finW P bs.length fn.results.toList nrm) (top:=c) (lab:=lab) hm hgor hrec hL h5 hk hφ0 hpl hG hGn c [] (fun _=>finW P bs.length fn.results.toList nrm) (fun _=>[]) (fun _=>rfl) n hst (by
    have e:(zbm P fn.ntmps lab bs.length Gn (jmpW P fn.ntmps lab bs.length Gn r c (finW P bs.length fn.results.toList nrm) n) (finW P bs.length fn.results.toList nrm) [] c (finW P bs.length fn.results.toList nrm) []).run r (zar 0 args noFr) (zbR bs (zbk P))=ansY (tupV [v0,tupV bs']):=h
    rw[e];exact fun _ h=>h)) ?_
  intro e a' w' hq
  cases e with
  | normal =>
    obtain⟨_,_,T,H',φ',hs,hx⟩:=hq
    exact zpk hk hφ0 hs hx
  | ret =>
    obtain⟨_,_,T,H',φ',hs,hx⟩:=hq
    exact zpk hk hφ0 hs hx
  | exit i =>
    obtain⟨_,_,T,H',φ',_,hx⟩:=hq
    exact (zaq hL (show ∀ x ∈ zab 244,x ∈ _ from hx)).elim
  | _=>exact hq.elim
theorem zfo(hG:P.globals.size≤32767){f:Nat}{args:List AV}{v0:AV}(h:ztx P f args [] v0 [])(hc:zbG v0=true):zac P f args v0:=by
  intro z w vals hz hw hargs
  have hb:=zlB hG hz hw
  have hop:PlainOp (phz P z):=fun n v h=>by
    rcases h with h | h
    · exact .inr (.inr h.1)
    · exact .inl h.1
  refine Calls.mono (h w (phz P z) vals hb.hr hop hw (hargs _ rfl)) fun e w' he=>?_
  cases e with
  | returned v =>
    obtain⟨φ',h1,h2,h3⟩:=he
    have hne:∀ k,¬ exB φ' k:=fun k hk=>by
      unfold exB at hk
      rw[h2.keep.op] at hk
      rcases hk with hk | hk<;>have:=hk.1<;>omega
    refine⟨φ'.fz,h2.keep.fz,fun x C hx=>?_,fun x C hx=>(h1.fz x C hx).1,fun ψ e=>zfq hc h3 e,h1.below.below hne⟩
    rcases h1.fo x C hx with (h | h) | h
    · exact .inr h
    · exact (hne x h).elim
    · rw[h2.keep.op] at h
      obtain⟨_,x',C',e1,e2⟩ | ⟨h0,_⟩:=h
      rotate_left
      · omega
      have e3:x=x':=by injection e1 with _ e1;exact Int.ofNat.inj e1
      subst e3
      have e4:=h2.keep.fz x C' e2
      rw[hx] at e4;cases e4
      exact .inl e2
  | panicked ch=>exact he.elim
  | outgrown=>exact he.elim
end Go.Eng
namespace Go.Eng
open Go.RowKit
variable {P:Program} {w0:World} {H Hb H0:Hp} {φ φ0 φ':Ph} {w:World}
noncomputable section
end
end Go.Eng
namespace Go.Eng
open Go.RowKit
variable {P:Program} {w0:World} {H Hb H0:Hp} {φ φ0 φ':Ph} {w:World}
end Go.Eng
namespace Go.Eng
open Go.RowKit
variable {P:Program} {w0:World} {H Hb H0:Hp} {φ φ0 φ':Ph} {w:World} {N:Nat} {T:Fr} {a:Act} {r:Rec} {ro:Option Nat}
theorem zjD{o:Oper}{cl:Call}{f:Operand}{K:Act→World→Prop}{Q:Exit→Act→World→Prop}{R:Ending→World→Prop}(ho:o.op=.call cl)(hcl:cl.callee=.value f)
    (hA:zmM P (a.eval f) (cl.args.toList.map a.eval) w R) (hK:∀ e w',R e w'→∃ v,e=.returned v∧K (a.put o.dst v) w'):o.wpIn (fen ro) 0 P a w K Q:=by
  have ea:cl.args.map a.eval=(cl.args.toList.map a.eval).toArray:=by rw[← Array.toList_map,Array.toArray_toList]
  refine⟨fun _ _=>trivial,?_⟩
  rw[Oper.semAt_eq _ _ _ (fun c hc=>by rw[ho] at hc;cases hc)]
  rcases hA with⟨g,first,cap,fn,e1,e2,e3,e4,hcalls⟩ | ⟨l,e1,g,tmps,assign,body,e2,hround⟩
  · have hrun:(execOp a.eval o).run P w=.ok (.enter g (first++(cl.args.toList.map a.eval).toArray++cap)) w:=by
      simp only[execOp,ho,resolve,hcl,e1,Deferred.ofValue,Sem.run_bind,Sem.run_pure',Result.andThen_ok,invoke,callFunc,program,Sem.run,e2,e4,e3,ea]
      rfl
    rw[hrun,Oper.uponIn_enter]
    refine⟨zdC,zeX (Calls.mono hcalls fun e w' he=>?_)⟩
    obtain⟨v,rfl,hk⟩:=hK e w' he
    exact hk
  · have hrun:(execOp a.eval o).run P w=.ok (.round l g tmps assign body) w:=by
      simp only[execOp,ho,resolve,hcl,e1,Deferred.ofValue,Sem.run_bind,Sem.run_pure',Result.andThen_ok,invoke,ea,Array.empty_append]
      exact e2
    rw[hrun,Oper.uponIn_round]
    refine⟨zdC,RoundIn.mono (hround ro) fun e w' he=>?_⟩
    obtain⟨v,rfl,hk⟩:=hK e w' he
    exact hk
noncomputable section
def mkK:BR:=⟨fun _ T H=>[⟨9,0,T,H⟩]⟩
end
theorem zcC{T':Fr}{H':Hp}:AllOk [⟨9,0,T',H'⟩]:=fun x hx h=>by rw[List.mem_singleton.1 hx] at h;cases h
theorem zd3{T':Fr}{H':Hp}{a':Act}{w':World}(h:On P w0 r N H0 φ0 [⟨9,0,T',H'⟩] mkK a' w'):∃ φ',St P w0 N H0 φ0 T' H' φ' a' w':=by
  obtain⟨T1,H1,φ1,h1,h2⟩:=h
  have:=List.mem_singleton.1 (h2 _ (List.mem_singleton.2 rfl))
  injection this with _ _ e1 e2
  subst e1 e2
  exact⟨φ1,h1⟩
noncomputable section
def phc(P:Program)(z:Nat→Option (List Value))(cb:Value):Ph:=⟨fun b=>if b<P.globals.size then some b else none,fun _=>0,fun t v=>(t=5000∧v=cb) ∨ (phz P z).op t v,z,fun _=>0⟩
def cbA:AV:=⟨23,5000,0,0,0,[]⟩
end
theorem zjr{cb:Value}{φ:Ph}(h:∀ v,v=cb→φ.op 5000 v)(h1:cb.oneCell'=true)(h2:cb.cells=#[cb]):VR φ cbA cb :=
  .opq _ _ _ _ _ _ ⟨(fun h=>by cases h),(fun _ h=>absurd h (by decide)),(fun h=>by cases h),fun _=>h cb rfl⟩ h1 h2
theorem zhZ{cb v:Value}{z:Nat→Option (List Value)}(hop:φ.op=(phc P z cb).op)(h:VR φ cbA v):v=cb:=by
  obtain⟨⟨_,_,_,h1⟩,_,_⟩:=h.of_opq rfl
  have h2:φ.op 5000 v:=h1 (by decide)
  rw[hop] at h2
  rcases h2 with⟨_,h⟩ | h | h
  · exact h
  · have:=h.1;omega
  · have:=h.1;omega
theorem zhu{z:Nat→Option (List Value)}{cb:Value}(hG:P.globals.size≤32767)(hz:zd4 z w)(hw:P.globals.size≤w.heap.size):HR P w (zaf P) (phc P z cb) w:=by
  have hb:=(zlB (P:=P) hG hz hw).hr
  have hle:Le ⟨(phc P z cb).f,(phc P z cb).k,(phz P z).op,(phc P z cb).fz,(phc P z cb).tl⟩ (phz P z):=⟨fun _ _ h=>⟨h,rfl⟩,rfl,fun _ _ h=>h,fun _ _ _=>rfl⟩
  refine⟨fun b x hx=>?_,hb.inj,hb.n,hb.lim,BelowX.refl _ _,hb.gl,⟨fun t v ht h=>?_,hw,fun x hx=>.inr (hb.op.2.2 x hx)⟩,hb.fz,hb.tl,fun x C hx=>.inr (.inr ?_)⟩
  · obtain⟨h1,h2,o,h3,_⟩:=hb.blk b x hx
    refine⟨h1,fun hl=>?_,o,h3,by rw[zg6];exact zfQ⟩
    have hl':P.globals.size≤b:=hl
    have h1':b<P.globals.size:=h1
    omega
  · rcases h with⟨h,_⟩ | h | h
    · omega
    · have:=h.1;omega
    · have:=h.1;omega
  · exact .inl ⟨rfl,x,C,rfl,hx⟩
theorem z0O{o:Oper}{k:BR}{L:RL}{K:Act→World→Prop}{Q:Exit→Act→World→Prop}(hrec:zaU P r)(hL:AllOk L)(hon:On P w0 r N H0 φ0 L (opK P N o k) a w)(hK:∀ a' w',On P w0 r N H0 φ0 L k a' w'→K a' w'):o.wpIn (fen ro) 0 P a w K Q:=by
  obtain⟨T,H,φ,hs,h⟩:=hon
  exact Oper.wpIn_mono hK (zcU (Q:=Q) hrec hL hs h)
theorem zra{id:Nat}{ops:Array Oper}{k:BR}{T':Fr}{H':Hp}{Q:Exit→Act→World→Prop}(hrec:zaU P r)(hon:On P w0 r N H0 φ0 [⟨9,0,T',H'⟩] (opsK P N ops ops.toList k) a w)
    (hQ:∀ a' w',On P w0 r N H0 φ0 [⟨9,0,T',H'⟩] k a' w'→Q .normal a' w'):(Code.region id ops false).wpIn (fen ro) 0 P Q a w:=by
  obtain⟨T,H,φ,hs,h⟩:=hon
  refine wpIn_mono (zlM hrec zcC hs h) ?_
  intro e a' w' hq
  cases e with
  | normal=>exact hQ a' w' hq
  | exit i=>obtain⟨x,hx,h1,_⟩:=hq;rw[List.mem_singleton.1 hx] at h1;cases h1
  | ret=>obtain⟨x,hx,h1,_⟩:=hq;rw[List.mem_singleton.1 hx] at h1;cases h1
  | _=>exact hq.elim
theorem zcX{o:Oper}{K k:BR}{L:RL}{Kp:Act→World→Prop}{Q:Exit→Act→World→Prop}(hk:K=opK P N o k)(hrec:zaU P r)(hL:AllOk L)(hon:On P w0 r N H0 φ0 L K a w)(hK:∀ a' w',On P w0 r N H0 φ0 L k a' w'→Kp a' w'):o.wpIn (fen ro) 0 P a w Kp Q :=
  z0O hrec hL (hk ▸ hon) hK
theorem zdo{id:Nat}{ops:Array Oper}{K k:BR}{T':Fr}{H':Hp}{Q:Exit→Act→World→Prop}(hk:K=opsK P N ops ops.toList k)(hrec:zaU P r)(hon:On P w0 r N H0 φ0 [⟨9,0,T',H'⟩] K a w)
    (hQ:∀ a' w',On P w0 r N H0 φ0 [⟨9,0,T',H'⟩] k a' w'→Q .normal a' w'):(Code.region id ops false).wpIn (fen ro) 0 P Q a w:=zra hrec (hk ▸ hon) hQ
theorem zcb{k:BR}{T':Fr}{H':Hp}(hs:St P w0 N H0 φ0 T H φ a w)(h:k.run r T H=[⟨9,0,T',H'⟩]):On P w0 r N H0 φ0 [⟨9,0,T',H'⟩] k a w:=⟨T,H,φ,hs,by rw[h];exact fun _ h=>h⟩
theorem zhv{z:Nat→Option (List Value)}{cb:Value}(hG:P.globals.size≤32767)(hz:zd4 z w)(hw:P.globals.size≤w.heap.size)(hN:N≤a.tmps.size)(hd:a.defers=[])(hm:zaK T=[])(hv:∀ t,VR (phc P z cb) ((getB t).run T) (a.tmps.getD t undef)) :
    St P w N (zaf P) (phc P z cb) T (zaf P) (phc P z cb) a w :=
  ⟨⟨hN,hv,by rw[hm,hd];rfl,(zhu (P:=P) (cb:=cb) hG hz hw).gl⟩,zhu hG hz hw,EX.refl _ _⟩
theorem zdh{z:Nat→Option (List Value)}{cb:Value}(hs:St P w0 N (zaf P) (phc P z cb) T H φ a w):(∀ x C,z x=some C→φ.fz x=some C)∧(∀ x C,φ.fz x=some C→z x=some C ∨ w0.heap.size≤x)∧zd4 φ.fz w∧Below w0.heap.size w0 w:=by
  have hne:∀ k,¬ exB φ k:=fun k hk=>by
    unfold exB at hk
    rw[hs.ex.keep.op] at hk
    rcases hk with hk | hk | hk<;>have:=hk.1<;>omega
  refine⟨hs.ex.keep.fz,fun x C hx=>?_,fun x C hx=>(hs.hr.fz x C hx).1,hs.hr.below.below hne⟩
  rcases hs.hr.fo x C hx with (h | h) | h
  · exact .inr h
  · exact (hne x h).elim
  · rw[hs.ex.keep.op] at h
    obtain⟨h0,_⟩ | ⟨_,x',C',e1,e2⟩ | ⟨h0,_⟩:=h
    · omega
    · have e3:x=x':=by injection e1 with _ e1;exact Int.ofNat.inj e1
      subst e3
      have e4:=hs.ex.keep.fz x C' e2
      rw[hx] at e4;cases e4
      exact .inl e2
    · omega
theorem z0P{t:Nat}{v':AV}{H':Hp}(hs:St P w0 N H0 φ0 T H φ a w)(h:zhp ((getB t).run T) H=some (v',H')):∃ φ',St P w0 N H0 φ0 T H' φ' a w∧FV φ'.fz v' (a.tmps.getD t undef)∧∀ x C,φ.fz x=some C→φ'.fz x=some C:=by
  obtain⟨φ',h1,h2,_,h4⟩:=zml h hs.hr (hs.tr.val t)
  exact⟨φ',⟨hs.tr.mono h2.keep,h1,hs.ex.trans h2⟩,h4,h2.keep.fz⟩
theorem zce{t:Nat}(hs:St P w0 N H0 φ0 T H φ a w)(h:zbG ((getB t).run T)=true):FV φ.fz ((getB t).run T) (a.tmps.getD t undef):=fun ψ e=>zfq h (hs.tr.val t) e
theorem zty{v:Value}:VR φ unkV v:=.unk _ _ _ _ _ _
noncomputable def frL(l:List (Nat × AV)):Fr:=l.foldl (fun T x=>(setB x.1).run T x.2) zdU
theorem ziH(l:List (Nat × AV))(hl:∀ x ∈ l,x.1<511∧VR φ x.2 (a.tmps.getD x.1 undef)):(∀ t,VR φ ((getB t).run (frL l)) (a.tmps.getD t undef))∧zaK (frL l)=[]:=by
  have key:∀ (l:List (Nat × AV)) (T:Fr),(∀ x ∈ l,x.1<511∧VR φ x.2 (a.tmps.getD x.1 undef))→(∀ t,VR φ ((getB t).run T) (a.tmps.getD t undef))→zaK T=[] →
      (∀ t,VR φ ((getB t).run (l.foldl (fun T x=>(setB x.1).run T x.2) T)) (a.tmps.getD t undef))∧zaK (l.foldl (fun T x=>(setB x.1).run T x.2) T)=[]:=by
    intro l
    induction l with
    | nil=>exact fun T _ h hm=>⟨h,hm⟩
    | cons x l ih =>
      intro T hl h hm
      refine ih _ (fun y hy=>hl y (by simp[hy])) (fun t=>?_) (by rw[zb1];exact hm)
      rw[zbr]
      by_cases e:x.1=t
      · subst e;rw[if_pos ⟨rfl,(hl x (by simp)).1⟩];exact (hl x (by simp)).2
      · rw[if_neg (fun h=>e h.1)];exact h t
  exact key l zdU hl (fun t=>by rw[zf5];exact zty) rfl
noncomputable def resT(l:RL):Fr:=List.rec (motive:=fun _=>Fr) noFr (fun x _ _=>x.T) l
noncomputable def resH(l:RL):Hp:=List.rec (motive:=fun _=>Hp) noH (fun x _ _=>x.H) l
theorem zbu{F:Fence}{n:Nat}{ops:Array Oper}{Q:Exit→Act→World→Prop}{i:Nat}{rest:List Nat}{o:Oper}(ho:ops[i]?=some o)(hg:o.guard=none)(h:o.wpIn F n P a w (wpOpsIn F n P ops Q rest) Q):wpOpsIn F n P ops Q (i::rest) a w:=by
  simp only[wpOpsIn,ho,Region.wanted,hg,if_true]
  exact h
end Go.Eng
