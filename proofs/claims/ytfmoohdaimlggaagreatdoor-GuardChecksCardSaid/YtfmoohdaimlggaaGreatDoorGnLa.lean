/- A part of the proof that the evaluator in GnC, and the driver in GnZ, answer as the model does; no conditions. -/
import Derived.Test.YtfmoohdaimlggaaGreatDoorGnDb
import Derived.RangeFuncRecord
namespace Go.Eng
open Go.RowKit
variable {P:Program} {w0:World}
section blk
variable {H:Hp} {φ:Ph} {w:World}
theorem zll{B:AB}{o:Obj}(hr:HR P w0 H φ w)(hn:H.n≤32766)(hB:BRel P φ w.heap.size B o) :
    ∃ φ',HR P w0 (hnew H B) φ' (w.alloc o)∧EX H φ (hnew H B) φ'∧φ' H.n=some w.heap.size:=by
  have e:newC H B yldV (fun H v=>[⟨v.tag,v.p,noFr,H⟩])=[⟨14,H.n,noFr,hnew H B⟩]:=by
    unfold newC;rw[zah.2 hn];rfl
  have hok:AllOk (newC H B yldV (fun H v=>[⟨v.tag,v.p,noFr,H⟩])):=by
    rw[e];intro x hx;rw[List.mem_singleton.1 hx];exact fun h=>by cases h
  obtain⟨H',v,φ',val,w',h1,h2,h3,h4,h5⟩:=Out.new (Y:=fun v w'=>v=.func (.yield w.heap.size) #[] #[]∧w'=w.alloc o ) (mk:=yldV) (val:=.func (.yield w.heap.size) #[] #[]) hr hB (fun φ' _ h=>.yld _ _ _ _ _ _ h) ⟨rfl,rfl⟩ hok
  have h1':=h1 _ (List.mem_singleton.2 rfl)
  rw[e] at h1'
  have h1':=List.mem_singleton.1 h1'
  injection h1' with e1 e2 _ e3
  subst e3
  obtain⟨rfl,rfl⟩:=h2
  refine⟨φ',h4,h5,?_⟩
  obtain⟨x,g1,g2⟩:=h3.of_yld e1
  injection g1 with g1
  injection g1 with g1
  rw[← e2,g1];exact g2
theorem zfB{B:AB}{o o':Obj}{b x:Nat}(hr:HR P w0 H φ w)(hb:φ b=some x)(hk:(hget H b).kind ≠ 0)(hl:H.lim≤b)(ho:w.heap[x]?=some o)(hB:BRel P φ x B o')(hk5:(hget H b).kind=5→B.kind=5)(hk7:(hget H b).kind ≠ 7:=by omega)(hk6:B.kind<6:=by exact Nat.le_of_ble_eq_true rfl) :
    ∃ φ',HR P w0 (hset H b B) φ' (w.putObj x o')∧EX H φ (hset H b B) φ':=by
  have e:setC H b B udV (fun H v=>[⟨0,0,noFr,H⟩])=[⟨0,0,noFr,hset H b B⟩]:=by
    unfold setC;rw[zah.2 hl];rfl
  have hok:AllOk (setC H b B udV (fun H v=>[⟨0,0,noFr,H⟩])):=by
    rw[e];intro x hx;rw[List.mem_singleton.1 hx];exact fun h=>by cases h
  obtain⟨s1,s2,s3⟩:=zbZ (w:=w) o' ho
  obtain⟨H',v,φ',val,w',h1,h2,h3,h4,h5⟩:=Out.set (Y:=fun _ w'=>w'=w.putObj x o') (w':=w.putObj x o') (v:=udV) (val:=undef) hr hb hk hB (.ud _ _ _ _ _) rfl s1 s2 s3 rfl rfl rfl hok hk5 hk7 (fun h=>by omega)
  have h1':=h1 _ (List.mem_singleton.2 rfl)
  rw[e] at h1'
  have h1':=List.mem_singleton.1 h1'
  injection h1' with _ _ _ e3
  subst e3 h2
  exact⟨φ',h4,h5⟩
theorem zhf{b x:Nat}(hr:HR P w0 H φ w)(hb:φ b=some x)(hk:(hget H b).kind=5) :
    ∃ rec f rp fn top g T,w.heap[x]?=some (.loop rec)∧LoopAt P φ (hget H b) rec f rp fn top g T:=by
  obtain⟨_,_,o,ho,hB⟩:=hr.blk b x hb
  rcases hB.ext (by omega) with⟨h,_⟩ | ⟨_,rec,f,rp,fn,top,g,T,rfl,h⟩ | ⟨h,_⟩
  · omega
  rotate_left
  · omega
  · exact⟨rec,f,rp,fn,top,g,T,ho,h⟩
theorem LoopAt.brel{B B':AB}{rec rec':Loop}{f:Nat}{rp:List Nat}{fn:Func}{top:Code}{g:Operand}{T:Fr}{x:Nat}(h:LoopAt P φ B rec f rp fn top g T)(h5:B'.kind=5)(hcs:B'.cs=B.cs)
    (h1:rec'.params=rec.params) (h2:rec'.assign=rec.assign) (h3:rec'.body=rec.body) (h4:rec'.tmps=rec.tmps) (hst:rec'.state=stOf B'.t) (hp:rec'.pending=zsD B'.e):BRel P φ x B' (.loop rec') where
  cells hk:=by omega
  map hk:=by omega
  walk hk:=by omega
  ext _:=.inr <| .inl ⟨h5,rec',f,rp,fn,top,g,T,rfl,⟨h.hfn,h.htop,by rw[h1,h2,h3];exact h.code,hcs.trans h.cs,h.mks,by rw[h4];exact h.size,by rw[h4];exact h.val,hst,hp⟩⟩
end blk
def At(P:Program)(N f:Nat)(rp:List Nat)(c:Code):Prop:=∃ fn top,P.funcs[f]?=some fn∧fn.body=some top∧fn.ntmps=N∧zgS top rp=some c
theorem At.kid{N f d:Nat}{rp:List Nat}{c c':Code}(h:At P N f rp c)(hk:kidC d c=some c'):At P N f (d::rp) c':=by
  obtain⟨fn,top,h1,h2,h3,h4⟩:=h
  exact⟨fn,top,h1,h2,h3,by show (zgS top rp).bind (kidC d)=_;rw[h4];exact hk⟩
section loop
variable {ro:Option Nat} {r:Rec} {N:Nat} {H0 H:Hp} {φ0 φ:Ph} {L:RL} {T:Fr} {a:Act} {w:World} {k:BR}
def QK(P:Program)(w0:World)(r:Rec)(N:Nat)(H0:Hp)(φ0:Ph)(L:RL)(k:BR):Exit→Act→World→Prop
  | .normal,a,w=>On P w0 r N H0 φ0 L k a w
  | .exit i,a,w=>∃ x ∈ L,x.tag=1∧x.i=i∧∃ φ,St P w0 N H0 φ0 x.T x.H φ a w
  | .ret,a,w=>∃ x ∈ L,x.tag=2∧∃ φ,St P w0 N H0 φ0 x.T x.H φ a w
  | _,_,_=>False
def InRo(ro:Option Nat)(H0:Hp)(φ0:Ph):Prop:=∀ l,ro=some l→∃ b,φ0 b=some l∧b<H0.n∧b<32768∧(hget H0 b).kind=5
theorem zxx{b l:Nat}(hL:AllOk L)(hs:St P w0 N H0 φ0 T H φ a w)(hb:φ b=some l)(h:∀ x ∈ endL k r T b H,x ∈ L) :
    ∃ jump w₄,(Instr.endLoop l).run P w=.ok jump w₄∧(match jump with | none=>QK P w0 r N H0 φ0 L k .normal a w₄ | some c=>c.wpIn (fen ro) 0 P (QK P w0 r N H0 φ0 L k) a w₄):=by
  have h':∀ x ∈ bi (nbeq (hget H b).kind 5) (bi (nbeq (hget H b).t 1) (zab 61)
    (setC H b ⟨5,3,(hget H b).e,(hget H b).cs⟩ udV fun H' _=>bi (nbeq (hget H b).e 0) (k.run r T H') (bi (nbeq (hget H b).e 1) [⟨2,0,T,H'⟩] [⟨1,Nat.sub (hget H b).e 2,T,H'⟩]))) (zab 61),x ∈ L:=h
  cases h5:nbeq (hget H b).kind 5
  · rw[h5] at h';exact (zaq hL h').elim
  rw[h5,zag] at h'
  have h1:nbeq (hget H b).t 1=false:=by
    cases h1:nbeq (hget H b).t 1
    · rfl
    · rw[h1] at h';exact (zaq hL h').elim
  rw[h1,zai] at h'
  unfold setC at h'
  cases hl:nble H.lim b
  · rw[hl] at h';exact (zaq hL h').elim
  rw[hl,zag] at h'
  have h5:=zaa.1 h5
  have h1:=zam.1 h1
  obtain⟨rec,f,rp,fn,top,g,T',ho,hA⟩:=zhf hs.hr hb h5
  have hbusy:rec.state ≠ .busy:=by
    rw[hA.st]
    generalize (hget H b).t=t at h1
    match t with
    | 0=>intro h;cases h
    | 1=>exact absurd rfl h1
    | 2=>intro h;cases h
    | n+3=>intro h;cases h
  obtain⟨φ',hr',hex⟩:=zfB (B:=⟨5,3,(hget H b).e,(hget H b).cs⟩) (o':=.loop { rec with state:=.exhausted }) hs.hr hb (by omega) (zah.1 hl) ho (hA.brel rfl rfl rfl rfl rfl rfl rfl hA.pend) fun _=>rfl
  have hs':St P w0 N H0 φ0 T (hset H b ⟨5,3,(hget H b).e,(hget H b).cs⟩) φ' a (w.putObj l (.loop { rec with state:=.exhausted })):=⟨hs.tr.mono hex.keep,hr',hs.ex.trans hex⟩
  have hend:=run_endLoop (P:=P) ho hbusy
  generalize w.putObj l (.loop { rec with state:=.exhausted })=w4 at hs' hend
  refine⟨rec.pending,w4,hend,?_⟩
  rw[hA.pend]
  generalize (hget H b).e=e at h' hs'
  match e with
  | 0=>exact⟨T,_,φ',hs',h'⟩
  | 1=>exact wpIn_ret ⟨_,h' _ (List.mem_singleton.2 rfl),rfl,φ',hs'⟩
  | n+2=>exact wpIn_exit ⟨_,h' _ (List.mem_singleton.2 rfl),rfl,rfl,φ',hs'⟩
theorem znw{f fnid dfs:Nat}{rp:List Nat}{g:Operand}{ps:Array Tmp}{assign body:Code}(hat:At P N f rp (.rangeFunc g ps assign body))(hrec:zaU P r)(hL:AllOk L)(hs:St P w0 N H0 φ0 T H φ a w)
    (h:∀ x ∈ ziT P f rp g k r T H,x ∈ L):∃ d f' args,(∀ w',(resolve a.eval (rangeCall g w.heap.size) 0).run P w'=.ok d w') ∧
      (invoke d.target d.args).run P (w.alloc (.loop { state:=.ready,pending:=none,fn:=fnid,tmps:=a.tmps,params:=ps,assign,body,defers:=dfs }))=.ok (.enter f' args) (w.alloc (.loop { state:=.ready,pending:=none,fn:=fnid,tmps:=a.tmps,params:=ps,assign,body,defers:=dfs })) ∧
      CallsIn (fen ro) 0 P f' args (w.alloc (.loop { state:=.ready,pending:=none,fn:=fnid,tmps:=a.tmps,params:=ps,assign,body,defers:=dfs })) (rangePost (fen ro) 0 P w.heap.size (QK P w0 r N H0 φ0 L k) a):=by
  unfold ziT newC at h
  cases hn:nble H.n 32766
  · rw[hn] at h;exact (zaq hL h).elim
  rw[hn,zag] at h
  cases h13:nbeq ((getO P g).run T).tag 13
  · rw[h13] at h;exact (zaq hL h).elim
  rw[h13] at h
  simp only[zag] at h
  obtain⟨fn,top,k1,k2,k3,k4⟩:=hat
  obtain⟨φ2,hr2,hex2,hφ2⟩:=zll (B:=⟨5,0,0,[zeS f rp,encF (noMk T)]⟩) (o:=.loop { state:=.ready,pending:=none,fn:=fnid,tmps:=a.tmps,params:=ps,assign,body,defers:=dfs }) hs.hr (zah.1 hn)
    ⟨(fun h=>by cases h),(fun h=>by cases h),(fun h=>by cases h),fun _=>.inr <| .inl ⟨rfl,_,f,rp,fn,top,g,noMk T,rfl,⟨k1,k2,k4,rfl,zjw T,by rw[k3];exact hs.tr.size,fun t=>by rw[zlR];exact hs.tr.val t,rfl,rfl⟩⟩⟩
  generalize hw2:w.alloc (.loop { state:=.ready,pending:=none,fn:=fnid,tmps:=a.tmps,params:=ps,assign,body,defers:=dfs })=w2 at hr2
  have hmem:∀ c ∈ r ((getO P g).run T) [yldV H.n] (hnew H ⟨5,0,0,[zeS f rp,encF (noMk T)]⟩),∀ x ∈ bi (nbeq c.ok 1) (endL k r T H.n c.H) (zab c.why),x ∈ L:=fun c hc x hx=>h x (zdg.2 ⟨c,hc,hx⟩)
  have hall:AllC (r ((getO P g).run T) [yldV H.n] (hnew H ⟨5,0,0,[zeS f rp,encF (noMk T)]⟩)):=fun c hc=>by
    cases hb:nbeq c.ok 1
    · have:=hmem c hc;rw[hb] at this;exact (zaq hL this).elim
    · exact zaa.1 hb
  have hg:=hs.tr.eval g
  rcases hrec w0 _ φ2 w2 _ _ [yldV H.n] [.func (.yield w.heap.size) #[] #[]] (hg.mono hex2.keep) (.cons (.yld _ _ _ _ _ _ hφ2) .nil) hr2 hall with⟨f',first,cap,fn',e1,e2,e3,e4,hcalls⟩ | ⟨l',f',tmps,as',bd',e1,_⟩ | ⟨_,_,_,_,hno,_⟩
  · refine⟨{ target:=.fn (.func f') cap,args:=first++#[.func (.yield w.heap.size) #[] #[]] },f',first++#[.func (.yield w.heap.size) #[] #[]]++cap,fun w'=>?_,?_,?_⟩
    · have:a.eval (.const (.func (.yield w.heap.size) #[] #[]))=.func (.yield w.heap.size) #[] #[]:=rfl
      simp only[resolve,rangeCall,e1,Deferred.ofValue,Sem.run_pure',List.map_toArray,List.map_cons,List.map_nil,this]
    · simp only[invoke,callFunc,program,Sem.run_bind,Sem.run,e2,e4,Sem.run_pure',Result.andThen_ok,e3]
      rfl
    · have hcalls':Calls P f' (first++#[.func (.yield w.heap.size) #[] #[]]++cap) w2 _:=hcalls
      refine zeX (Calls.mono hcalls' fun e w3 he=>?_)
      cases e with
      | returned v =>
        obtain⟨c,hc,φ3,g1,g2,g3⟩:=he
        have hx:=hmem c hc
        rw[zaa.2 (hall c hc),zag] at hx
        have hs3:St P w0 N H0 φ0 T c.H φ3 a w3:=⟨(hs.tr.mono hex2.keep).mono g3.keep,g2,(hs.ex.trans hex2).trans g3⟩
        exact zxx hL hs3 (g3.keep _ _ hφ2).1 hx
      | panicked ch=>exact he.elim
      | outgrown=>exact he.elim
  · obtain⟨_,_,e2,_⟩:=hg.of_fn (zaa.1 h13)
    rw[e2] at e1
    injection e1 with e1
    cases e1
  · exact (hno _ (List.mem_singleton.2 rfl) _ rfl).elim
theorem znx{f:Nat}{rp:List Nat}{g:Operand}{ps:Array Tmp}{assign body:Code}(hat:At P N f rp (.rangeFunc g ps assign body))(hro:InRo ro H0 φ0)(hrec:zaU P r)(hL:AllOk L)(hs:St P w0 N H0 φ0 T H φ a w)
    (h:∀ x ∈ (comp P N ro.isSome f rp (.rangeFunc g ps assign body) k).run r T H,x ∈ L):(Code.rangeFunc g ps assign body).wpIn (fen ro) 0 P (QK P w0 r N H0 φ0 L k) a w:=by
  refine wpIn_rangeFunc fun fnid _=>?_
  cases ro with
  | none =>
    have h':∀ x ∈ newC H ⟨4,0,0,[]⟩ yldV (fun H' _=>ziT P f rp g k r (zcF T H.n) H'),x ∈ L:=h
    unfold newC at h'
    cases hn:nble H.n 32766
    · rw[hn] at h';exact (zaq hL h').elim
    rw[hn,zag] at h'
    obtain⟨φ1,hr1,hex1,hφ1⟩:=zll (B:=⟨4,0,0,[]⟩) (o:=.deferred (some [])) hs.hr (zah.1 hn) ⟨(fun h=>by cases h),(fun h=>by cases h),(fun h=>by cases h),fun _=>.inl ⟨rfl,rfl⟩⟩
    have htr:=hs.tr.mono hex1.keep
    have hs1:St P w0 N H0 φ0 (zcF T H.n) (hnew H ⟨4,0,0,[]⟩) φ1 { a with defers:=[{ target:=.collected w.heap.size,args:=#[] }]++a.defers } (w.alloc (.deferred (some []))) :=
      ⟨⟨htr.size,fun t=>by rw[zfR];exact htr.val t,⟨w.heap.size,a.defers,rfl,hφ1,htr.defers⟩,htr.gl⟩,hr1,hs.ex.trans hex1⟩
    obtain⟨d,f',args,e1,e2,e3⟩:=znw (ro:=none) (fnid:=fnid) (dfs:=w.heap.size) hat hrec hL hs1 h'
    have hsz:(w.alloc (.deferred (some []))).heap.size=w.heap.size+1:=World.size_alloc _ _
    rw[hsz] at e1 e3
    exact⟨_,_,_,d,_,f',args,_,run_enterLoop_outer _ _ _ _ _,e1 _,fun _ _=>trivial,e2,zdC,e3⟩
  | some l =>
    have h':∀ x ∈ ziT P f rp g k r T H,x ∈ L:=h
    obtain⟨b,hb0,hbn,hb32,hbk⟩:=hro l rfl
    obtain⟨rec,_,_,_,_,_,_,ho,_⟩:=zhf hs.hr (hs.ex.keep _ _ hb0).1 (hs.ex.loop b hbn hb32 hbk)
    obtain⟨d,f',args,e1,e2,e3⟩:=znw (ro:=some l) (fnid:=fnid) (dfs:=rec.defers) hat hrec hL hs h'
    refine⟨w.heap.size,[],_,d,_,f',args,_,?_,e1 _,fun _ _=>trivial,e2,zdC,e3⟩
    unfold Instr.enterLoop
    simp only[fen,Sem.run_bind,run_getLoop ho,Result.andThen_ok,Sem.run_pure',zcT]
end loop
end Go.Eng
namespace Go.Eng
open Go.RowKit
variable {P:Program} {w0:World}
section code
variable {ro:Option Nat} {r:Rec} {N:Nat} {H0 H:Hp} {φ0 φ:Ph} {L:RL} {T:Fr} {a:Act} {w:World} {k:BR}
theorem z02{ops:Array Oper}(hrec:zaU P r)(hL:AllOk L)(n:Nat):∀ (i:Nat) (T:Fr) (H:Hp) (φ:Ph) (a:Act) (w:World),i+n=ops.size→St P w0 N H0 φ0 T H φ a w →
    (∀ x ∈ (opsK P N ops (ops.toList.drop i) k).run r T H,x ∈ L)→wpOpsIn (fen ro) 0 P ops (QK P w0 r N H0 φ0 L k) (List.range' i n) a w:=by
  induction n with
  | zero =>
    intro i T H φ a w hi hs h
    rw[List.drop_of_length_le (by simp;omega)] at h
    exact⟨T,H,φ,hs,h⟩
  | succ n ih =>
    intro i T H φ a w hi hs h
    have hlt:i<ops.size:=by omega
    have hd:ops.toList.drop i=ops[i]::ops.toList.drop (i+1):=by
      rw[List.drop_eq_getElem_cons (by simpa using hlt)];simp
    rw[hd] at h
    have ho:ops[i]?=some ops[i]:=by simp[hlt]
    rw[List.range'_succ]
    simp only[wpOpsIn,ho]
    have key:=z0C (ro:=ro) (P:=P) (all:=ops) (o:=ops[i]) (k:=opsK P N ops (ops.toList.drop (i+1)) k) (Q:=QK P w0 r N H0 φ0 L k) hrec hL hs h
    have hnext:∀ a w,On P w0 r N H0 φ0 L (opsK P N ops (ops.toList.drop (i+1)) k) a w→wpOpsIn (fen ro) 0 P ops (QK P w0 r N H0 φ0 L k) (List.range' (i+1) n) a w:=by
      rintro a w ⟨T,H,φ,h1,h2⟩
      exact ih (i+1) T H φ a w (by omega) h1 h2
    split
    · rename_i hw
      rw[if_pos hw] at key
      exact Oper.wpIn_mono hnext key
    · rename_i hw
      rw[if_neg hw] at key
      exact⟨fun _ _=>trivial,hnext _ _ key⟩
theorem zlM{id:Nat}{ops:Array Oper}(hrec:zaU P r)(hL:AllOk L)(hs:St P w0 N H0 φ0 T H φ a w)(h:∀ x ∈ (opsK P N ops ops.toList k).run r T H,x ∈ L) :
    (Code.region id ops false).wpIn (fen ro) 0 P (QK P w0 r N H0 φ0 L k) a w:=by
  refine wpIn_region ?_
  rw[List.range_eq_range']
  exact z02 hrec hL _ 0 T H φ a w (by omega) hs h
theorem zlm{id:Nat}{ops:Array Oper}(hm:P.follows .mixedOrders=true)(hrec:zaU P r)(hL:AllOk L)(hs:St P w0 N H0 φ0 T H φ a w)(h:∀ x ∈ (ziS P N ops k).run r T H,x ∈ L) :
    (Code.region id ops true).wpIn (fen ro) 0 P (QK P w0 r N H0 φ0 L k) a w:=zvO hm hrec hL hs h fun _ _ h=>h
theorem zdx{F:Fence}{n:Nat}{c:Code}{Q:Exit→Act→World→Prop}(h:c.wpIn F n P (Exit.noGoto Q) a w):(Code.scope c).wpIn F n P Q a w:=by
  intro b k cs hro hb hr
  have h0:(lone (b.atR a (.code (.scope c)::k)) cs w).fenced P F:=fenced_calm hb hr rfl
  have s0:step P (lone (b.atR a (.code (.scope c)::k)) cs w)=.next (lone (b.atR a (.code c::.inScope c::k)) cs w):=step_lone_go (by simp[stepG,stepG.exec,Frame.atR])
  have s1:∀ a w,step P (lone (b.atR a (.inScope c::k)) cs w)=.next (lone (b.atR a k) cs w):=fun a w=>step_lone_go (by simp[stepG,stepG.exec,Frame.atR])
  obtain⟨e,a₁,w₁,hq,harr⟩:=h b (.inScope c::k) cs hro hb hr
  cases e with
  | normal=>exact⟨.normal,a₁,w₁,hq,.head h0 s0 (StepsIn.trans harr (.one (fenced_calm hb hr rfl) (s1 a₁ w₁)))⟩
  | exit id=>exact⟨.exit id,a₁,w₁,hq,fun k' hk=>.head h0 s0 (harr.1 k' (by simp[exitTo,hk])),fun hr' hk=>by
      obtain⟨k₁,e1,e2⟩:=harr.2 hr' (by simp[exitTo,hk])
      exact⟨k₁,e1,.head h0 s0 e2⟩⟩
  | goto l=>exact hq.elim
  | ret=>exact⟨_,a₁,w₁,hq,.of_steps (.one h0 s0) harr⟩
  | panic ch=>exact⟨_,a₁,w₁,hq,.of_steps (.one h0 s0) harr⟩
  | outgrown=>exact⟨_,a₁,w₁,hq,.of_steps (.one h0 s0) harr⟩
theorem least{p:Nat→Prop}(h:∃ n,p n):∃ n,p n∧∀ m,p m→n≤m:=by
  obtain⟨n,hn⟩:=h
  induction n using Nat.strongRecOn with
  | _ n ih =>
    by_cases hm:∃ m,m<n∧p m
    · obtain⟨m,h1,h2⟩:=hm;exact ih m h1 h2
    · exact⟨n,hn,fun m h=>Nat.le_of_not_lt fun hlt=>hm ⟨m,hlt,h⟩⟩
theorem zxy{c:Code}{b:Run}(hL:AllOk L)
    (hb:∀ (L':RL) (T:Fr) (H:Hp) (φ:Ph) (a:Act) (w:World),AllOk L'→St P w0 N H0 φ0 T H φ a w→(∀ x ∈ b r T H,x ∈ L')→c.wpIn (fen ro) 0 P (QK P w0 r N H0 φ0 L' zb0) a w)
    (n:Nat) (hs:St P w0 N H0 φ0 T H φ a w) (h:∀ x ∈ zm3 b r n T H,x ∈ L):(Code.loop c).wpIn (fen ro) 0 P (QK P w0 r N H0 φ0 L k) a w:=by
  let J:Nat→Act→World→Prop:=fun n a w=>∃ T H φ,St P w0 N H0 φ0 T H φ a w∧∀ x ∈ zm3 b r n T H,x ∈ L
  let μ:Act→World→Nat:=fun a w=>(Classical.propDecidable (∃ n,J n a w)).byCases (fun h=>Classical.choose (least h)) (fun _=>0)
  have hμ:∀ a w,(∃ n,J n a w)→J (μ a w) a w∧∀ m,J m a w→μ a w≤m:=by
    intro a w he
    have:μ a w=Classical.choose (least he):=by
      show (Classical.propDecidable (∃ n,J n a w)).byCases _ _=_
      cases Classical.propDecidable (∃ n,J n a w) with
      | isTrue h=>rfl
      | isFalse h=>exact absurd he h
    rw[this]
    exact Classical.choose_spec (least he)
  refine wpIn_loop (fun a w=>∃ n,J n a w) μ ⟨n,T,H,φ,hs,h⟩ ?_
  intro a w he
  obtain⟨hJ,_⟩:=hμ a w he
  generalize hm:μ a w=m at hJ
  obtain⟨T,H,φ,hs,hr⟩:=hJ
  cases m with
  | zero=>exact (zaq hL hr).elim
  | succ m =>
    have hmem:∀ x ∈ b r T H,∀ y ∈ bi (nbeq x.tag 0) (zm3 b r m x.T x.H) [x],y ∈ L:=fun x hx y hy=>hr y (zdg.2 ⟨x,hx,hy⟩)
    have hother:∀ x ∈ b r T H,x.tag ≠ 0→x ∈ L:=fun x hx ht=>by
      have:=hmem x hx
      rw[zam.2 ht] at this
      exact this x (List.mem_singleton.2 rfl)
    have hok:AllOk (b r T H):=fun x hx ht=>hL x (hother x hx (by omega)) ht
    refine wpIn_mono (hb _ T H φ a w hok hs fun _ h=>h) ?_
    intro e a' w' hq
    cases e with
    | normal =>
      obtain⟨T',H',φ',h1,h2⟩:=hq
      have hJ':J m a' w':=⟨T',H',φ',h1,fun y hy=>hmem _ (h2 _ (List.mem_singleton.2 rfl)) y hy⟩
      exact⟨⟨m,hJ'⟩,Nat.lt_of_le_of_lt ((hμ a' w' ⟨m,hJ'⟩).2 m hJ') (by omega)⟩
    | exit i=>obtain⟨x,hx,h1,h2⟩:=hq;exact⟨x,hother x hx (by omega),h1,h2⟩
    | ret=>obtain⟨x,hx,h1,h2⟩:=hq;exact⟨x,hother x hx (by omega),h1,h2⟩
    | goto l=>exact hq.elim
    | panic ch=>exact hq.elim
    | outgrown=>exact hq.elim
theorem zhH{f:Nat}(hm:P.follows .mixedOrders=true)(hrec:zaU P r)(hro:InRo ro H0 φ0)(c:Code):∀ (rp:List Nat) (k:BR) (L:RL) (T:Fr) (H:Hp) (φ:Ph) (a:Act) (w:World),At P N f rp c→AllOk L→St P w0 N H0 φ0 T H φ a w →
    (∀ x ∈ (comp P N ro.isSome f rp c k).run r T H,x ∈ L)→c.wpIn (fen ro) 0 P (QK P w0 r N H0 φ0 L k) a w:=by
  induction c with
  | skip=>exact fun rp k L T H φ a w hat hL hs h=>wpIn_skip ⟨T,H,φ,hs,h⟩
  | label l=>exact fun rp k L T H φ a w hat hL hs h=>wpIn_label ⟨T,H,φ,hs,h⟩
  | ret=>exact fun rp k L T H φ a w hat hL hs h=>wpIn_ret ⟨_,h _ (List.mem_singleton.2 rfl),rfl,φ,hs⟩
  | exit i=>exact fun rp k L T H φ a w hat hL hs h=>wpIn_exit ⟨_,h _ (List.mem_singleton.2 rfl),rfl,rfl,φ,hs⟩
  | region id ops draw =>
    intro rp k L T H φ a w hat hL hs h
    cases draw with
    | false=>exact zlM hrec hL hs h
    | true=>exact zlm hm hrec hL hs h
  | seq x y ihx ihy =>
    intro rp k L T H φ a w hat hL hs h
    refine wpIn_seq (wpIn_mono (ihx (0::rp) (comp P N ro.isSome f (1::rp) y k) L T H φ a w (hat.kid rfl) hL hs h) ?_)
    intro e a' w' hq
    cases e with
    | normal=>obtain⟨T',H',φ',h1,h2⟩:=hq;exact ihy (1::rp) k L T' H' φ' a' w' (hat.kid rfl) hL h1 h2
    | _=>exact hq
  | cond c x y ihx ihy =>
    intro rp k L T H φ a w hat hL hs h
    have h':∀ z ∈ bi (nbeq ((getO P c).run T).tag 8) (bi (nbeq ((getO P c).run T).p 1) ((comp P N ro.isSome f (0::rp) x k).run r T H) ((comp P N ro.isSome f (1::rp) y k).run r T H))
      (bi (bi (nbeq ((getO P c).run T).tag 23) (nbeq ((getO P c).run T).p 1) false) (appL ((comp P N ro.isSome f (0::rp) x k).run r T H) ((comp P N ro.isSome f (1::rp) y k).run r T H)) (zab 50)),z ∈ L:=h
    cases h8:nbeq ((getO P c).run T).tag 8
    · rw[h8,zai] at h'
      cases h23:bi (nbeq ((getO P c).run T).tag 23) (nbeq ((getO P c).run T).p 1) false
      · rw[h23] at h';exact (zaq hL h').elim
      rw[h23,zag,zaV] at h'
      obtain⟨g1,g2⟩:=zaw.1 h23
      obtain⟨⟨hb,_⟩,_⟩:=(hs.tr.eval c).of_opq (zaa.1 g1)
      obtain⟨b,e⟩:=hb (zaa.1 g2)
      cases b with
      | true=>exact wpIn_cond_true e (ihx (0::rp) k L T H φ a w (hat.kid rfl) hL hs fun z hz=>h' z (List.mem_append_left _ hz))
      | false=>exact wpIn_cond_false e (ihy (1::rp) k L T H φ a w (hat.kid rfl) hL hs fun z hz=>h' z (List.mem_append_right _ hz))
    · rw[h8,zag] at h'
      obtain⟨b,e,hp,_⟩:=(hs.tr.eval c).of_bool (zaa.1 h8)
      rw[hp] at h'
      cases b with
      | true=>exact wpIn_cond_true e (ihx (0::rp) k L T H φ a w (hat.kid rfl) hL hs h')
      | false=>exact wpIn_cond_false e (ihy (1::rp) k L T H φ a w (hat.kid rfl) hL hs h')
  | block i c ih =>
    intro rp k L T H φ a w hat hL hs h
    have hmem:∀ x ∈ (comp P N ro.isSome f (0::rp) c zb0).run r T H,∀ y ∈ bi (bi (nbeq x.tag 0) true (bi (nbeq x.tag 1) (nbeq x.i i) false)) (k.run r x.T x.H) [x],y ∈ L:=fun x hx y hy=>h y (zdg.2 ⟨x,hx,hy⟩)
    have hother:∀ x ∈ (comp P N ro.isSome f (0::rp) c zb0).run r T H,x.tag ≠ 0→(x.tag=1→x.i ≠ i)→x ∈ L:=fun x hx ht hi=>by
      have:=hmem x hx
      rw[zam.2 ht,zai] at this
      by_cases h1:x.tag=1
      · rw[zaa.2 h1,zag,zam.2 (hi h1)] at this
        exact this x (List.mem_singleton.2 rfl)
      · rw[zam.2 h1] at this
        exact this x (List.mem_singleton.2 rfl)
    have hok:AllOk ((comp P N ro.isSome f (0::rp) c zb0).run r T H):=fun x hx ht=>hL x (hother x hx (by omega) (by omega)) ht
    refine wpIn_block (wpIn_mono (ih (0::rp) zb0 _ T H φ a w (hat.kid rfl) hok hs fun _ h=>h) ?_)
    intro e a' w' hq
    cases e with
    | normal =>
      obtain⟨T',H',φ',h1,h2⟩:=hq
      exact⟨T',H',φ',h1,fun y hy=>hmem _ (h2 _ (List.mem_singleton.2 rfl)) y hy⟩
    | exit j =>
      obtain⟨x,hx,h1,h2,φ',h3⟩:=hq
      by_cases hji:j=i
      · simp only[Exit.inBlock,hji,if_true]
        refine⟨x.T,x.H,φ',h3,fun y hy=>hmem x hx y ?_⟩
        rw[zam.2 (by omega),zai,zaa.2 h1,zag,zaa.2 (by omega)]
        exact hy
      · simp only[Exit.inBlock,hji,if_false]
        exact⟨x,hother x hx (by omega) (by omega),h1,h2,φ',h3⟩
    | ret=>obtain⟨x,hx,h1,h2⟩:=hq;exact⟨x,hother x hx (by omega) (by omega),h1,h2⟩
    | goto l=>exact hq.elim
    | panic ch=>exact hq.elim
    | outgrown=>exact hq.elim
  | loop c ih =>
    intro rp k L T H φ a w hat hL hs h
    exact zxy hL (fun L' T H φ a w hL' hs' h'=>ih (0::rp) zb0 L' T H φ a w (hat.kid rfl) hL' hs' h') zo3 hs h
  | scope c ih =>
    intro rp k L T H φ a w hat hL hs h
    refine zdx (wpIn_mono (ih (0::rp) k L T H φ a w (hat.kid rfl) hL hs h) ?_)
    intro e a' w' hq
    cases e with
    | goto l=>exact hq.elim
    | _=>exact hq
  | rangeFunc g ps as body=>exact fun rp k L T H φ a w hat hL hs h=>znx hat hro hrec hL hs h
  | _=>intro rp k L T H φ a w hat hL hs h;exact (zaq hL h).elim
end code
end Go.Eng
namespace Go.Eng
open Go.RowKit
variable {P:Program} {w0:World} {H:Hp} {φ:Ph} {w:World} {N:Nat} {T:Fr} {a:Act}
noncomputable def zi0(tmps:Array Value)(x:ResultVar):Sem Value:=match x with
  | .tmp t=>pure (tmps.getD t undef)
  | .cell b t=>do loadVar t (← asAddr (tmps.getD b undef))
theorem zlN{x:ResultVar}{v:AV}(ht:TR P φ N T a)(hr:HR P w0 H φ w)(h:(zf8 P x).run T H=some v):∃ val,(zi0 a.tmps x).run P w=.ok val w∧VR φ v val:=by
  cases x with
  | tmp t=>exact⟨_,rfl,by cases h;exact ht.val t⟩
  | cell t ty =>
    simp only[zf8] at h
    cases hd:(tyB P ty).run with
    | none=>rw[hd] at h;cases h
    | some d =>
      cases hs:(szB P ty).run with
      | none=>rw[hd,hs] at h;cases h
      | some sz =>
        rw[hd,zan,hs,zan] at h
        have hv:=ht.val t
        cases hg:zaC P ty
        · rw[hg,zai] at h
          have h':bi (nbeq ((getB t).run T).tag 10) (bi (nbeq (hget H ((getB t).run T).p).kind 1) ((fun v:AV=>bi (nbeq v.tag 18) none (some v)) (nthL (hget H ((getB t).run T).p).cs ((getB t).run T).q)) none) none=some v:=h
          cases h10:nbeq ((getB t).run T).tag 10
          · rw[h10] at h';cases h'
          rw[h10,zag] at h'
          cases hk:nbeq (hget H ((getB t).run T).p).kind 1
          · rw[hk] at h';cases h'
          rw[hk,zag] at h'
          obtain⟨x,hval,hx⟩:=hv.of_ptr (zaa.1 h10)
          obtain⟨_,_,o,ho,hB⟩:=hr.blk _ _ hx
          obtain⟨l,rest,t',rfl,hl,_,_⟩:=hB.cells (zaa.1 hk)
          cases h18:nbeq (nthL (hget H ((getB t).run T).p).cs ((getB t).run T).q).tag 18
          · simp only[h18,zai] at h'
            cases h'
            rw[zcG] at h18 ⊢
            cases hcs:(hget H ((getB t).run T).p).cs[((getB t).run T).q]? with
            | none=>rw[hcs] at h18;cases h18
            | some e =>
              obtain⟨v,hv,hve⟩:=hl.get hcs
              refine⟨v,?_,hve⟩
              simp only[zi0,hval,asAddr,loadVar,Sem.run_bind,Sem.run_pure',zdP hd,hg,Result.andThen_ok,run_load,Bool.false_eq_true,if_false]
              rw[zlr ho v (zk7 hv)]
          · simp only[h18,zag] at h';cases h'
        · rw[hg,zag] at h
          have h':bi (nbeq ((getB t).run T).tag 10) (bi (nbeq (hget H ((getB t).run T).p).kind 1) (om (zcy (zbJ (hget H ((getB t).run T).p).cs ((getB t).run T).q) sz) none fun cs=>some (aggV cs)) none) none=some v:=h
          cases h10:nbeq ((getB t).run T).tag 10
          · rw[h10] at h';cases h'
          rw[h10,zag] at h'
          cases hk:nbeq (hget H ((getB t).run T).p).kind 1
          · rw[hk] at h';cases h'
          rw[hk,zag] at h'
          obtain⟨x,hval,hx⟩:=hv.of_ptr (zaa.1 h10)
          obtain⟨_,_,o,ho,hB⟩:=hr.blk _ _ hx
          obtain⟨l,rest,t',rfl,hl,h1,_⟩:=hB.cells (zaa.1 hk)
          rw[zbB] at h'
          cases hcs:zcy ((hget H ((getB t).run T).p).cs.drop ((getB t).run T).q) sz with
          | none=>rw[hcs] at h';cases h'
          | some cs =>
            rw[hcs,zan] at h'
            cases h'
            obtain⟨hlen,rfl⟩:=zbL hcs
            have hll:=hl.length
            have e:((l++rest).drop ((getB t).run T).q).take sz=(l.drop ((getB t).run T).q).take sz:=by
              rw[List.drop_append,List.take_append]
              rw[List.length_drop] at hlen
              have:sz - (l.drop ((getB t).run T).q).length=0:=by rw[List.length_drop];omega
              rw[this,List.take_zero,List.append_nil]
            refine⟨_,?_,.agg _ _ _ _ _ _ ((hl.drop ((getB t).run T).q).take sz) ?_⟩
            · simp only[zi0,hval,asAddr,loadVar,Sem.run_bind,Sem.run_pure',zdP hd,hg,Result.andThen_ok,zaS hs,if_true]
              rw[zbO ho (by rw[List.length_drop] at hlen;rw[List.length_append];omega)]
              simp only[Result.andThen_ok,e]
            · intro c hc
              exact h1 c (List.mem_of_mem_drop (List.mem_of_mem_take hc))
theorem zs3(ht:TR P φ N T a)(hr:HR P w0 H φ w)(l:List ResultVar):∀ {vs:List AV},(zeF P l).run T H=some vs→∃ vals,(l.mapM (zi0 a.tmps)).run P w=.ok vals w∧VRs φ vs vals∧vals.length=l.length:=by
  induction l with
  | nil=>intro vs h;cases h;exact⟨[],rfl,.nil,rfl⟩
  | cons x l ih =>
    intro vs h
    have h':om ((zf8 P x).run T H) none (fun v=>om ((zeF P l).run T H) none fun vs=>some (v::vs))=some vs:=h
    cases hx:(zf8 P x).run T H with
    | none=>rw[hx] at h';cases h'
    | some v =>
      cases hl:(zeF P l).run T H with
      | none=>rw[hx,hl] at h';cases h'
      | some vs' =>
        rw[hx,hl] at h'
        cases h'
        obtain⟨val,h1,h2⟩:=zlN ht hr hx
        obtain⟨vals,h3,h4,h5⟩:=ih hl
        refine⟨val::vals,?_,.cons h2 h4,by simp[h5]⟩
        simp only[List.mapM_cons,Sem.run_bind,h1,Result.andThen_ok,h3,Sem.run_pure']
theorem zq9(fn:Func)(tmps:Array Value):results fn tmps=(do let vs ← fn.results.mapM (zi0 tmps);pure (if h:vs.size=1 then vs[0] else .tuple vs)):=rfl
theorem zdN{fn:Func}{v:AV}(ht:TR P φ N T a)(hr:HR P w0 H φ w)(h:(zbM P fn.results.toList).run T H=some v):∃ val,(results fn a.tmps).run P w=.ok val w∧VR φ v val:=by
  rw[zq9,Array.mapM_eq_mapM_toList]
  generalize fn.results.toList=l at h
  by_cases hl:∃ x,l=[x]
  · obtain⟨x,rfl⟩:=hl
    obtain⟨val,h1,h2⟩:=zlN ht hr h
    refine⟨val,?_,h2⟩
    simp[Sem.run_bind,h1,Result.andThen_ok,Sem.run_pure']
  · have h':om ((zeF P l).run T H) none (fun vs=>some (tupV vs))=some v:=by
      cases l with
      | nil=>exact h
      | cons x l=>cases l with
        | nil=>exact absurd ⟨x,rfl⟩ hl
        | cons y l=>exact h
    cases ha:(zeF P l).run T H with
    | none=>rw[ha] at h';cases h'
    | some vs =>
      rw[ha] at h'
      cases h'
      obtain⟨vals,h1,h2,h3⟩:=zs3 ht hr l ha
      have hne:¬ vals.toArray.size=1:=by
        intro h1
        have:l.length=1:=by rw[← h3];simpa using h1
        exact hl (List.length_eq_one_iff.1 this)
      refine⟨.tuple vals.toArray,?_,.tup _ _ _ _ _ _ h2⟩
      simp only[Sem.run_bind,map_eq_pure_bind,h1,Result.andThen_ok,Sem.run_pure',dif_neg hne]
end Go.Eng
