/- A part of the proof that the evaluator in GnC, and the driver in GnZ, answer as the model does; no conditions. -/
import Derived.Test.YtfmoohdaimlggaaGreatDoorGnLa
import Derived.Test.YtfmoohdaimlggaaGreatDoorGnMa
namespace Go.Eng
open Go.RowKit
variable {P:Program} {w0:World} {H:Hp} {φ φ':Ph} {w:World} {r:Rec}
theorem zaI{n:Nat}(h:AllC (zaG n)):False:=absurd (h _ (List.mem_singleton.2 rfl)) (fun h=>by cases h)
theorem zfQ{x:Nat}{o:Obj}:BRel P φ x noB o:=⟨(fun h=>by cases h),(fun h=>by cases h),(fun h=>by cases h),(fun h=>by exact no40 h)⟩
theorem ze2{fn:Func}{tmps:Array Value}{R:Ending→World→Prop}{H':Hp}(ms:List AV):∀ {ds:List Deferred} {H:Hp} {φ:Ph} {w:World},DM φ ms ds→HR P w0 H φ w→zfv ms H=some H' →
    (∀ φ' w',EX H φ H' φ'→HR P w0 H' φ' w'→LeavesInM (fen none) 0 P fn tmps R [] .returning w')→LeavesInM (fen none) 0 P fn tmps R ds .returning w:=by
  induction ms with
  | nil =>
    intro ds H φ w hd hr hk h
    cases hk
    rw[show ds=[] from hd]
    exact h φ w (EX.refl _ _) hr
  | cons m ms ih =>
    intro ds H φ w hd hr hk h
    obtain⟨x,ds',rfl,hx,hd'⟩:=hd
    have hk':bi (nble H.lim m.p) (bi (nbeq (hget H m.p).kind 4) (zfv ms (hset H m.p noB)) none) none=some H':=hk
    cases hl:nble H.lim m.p
    · rw[hl] at hk';cases hk'
    rw[hl,zag] at hk'
    cases h4:nbeq (hget H m.p).kind 4
    · rw[h4] at hk';cases hk'
    rw[h4,zag] at hk'
    have h4:=zaa.1 h4
    obtain⟨_,_,o,ho,hB⟩:=hr.blk _ _ hx
    rcases hB.ext (by omega) with⟨_,rfl⟩ | ⟨h5,_⟩ | ⟨h5,_⟩
    · obtain⟨φ1,hr1,hex1⟩:=zfB (B:=noB) (o':=.deferred none) hr hx (by omega) (zah.1 hl) ho zfQ fun h=>by omega
      refine⟨(fun h=>by cases h),.inl ⟨x,_,rfl,run_takeDeferred ho,?_⟩⟩
      exact ih (hd'.mono hex1.keep) hr1 hk' fun φ2 w2 hex2 hr2=>h φ2 w2 (hex1.trans hex2) hr2
    · omega
    · omega
theorem zxz{b x:Nat}{y:Res}{jump:Option Code}(hr:HR P w0 y.H φ w)(hb:φ b=some x)(hall:AllC (endR b y))(hj:(y.tag=0∧jump=none) ∨ (y.tag=1∧jump=some (.exit y.i)) ∨ (y.tag=2∧jump=some .ret)) :
    ∃ v w',(Instr.endRound x jump).run P w=.ok v w'∧∃ c ∈ endR b y,∃ φ',VR φ' c.v v∧HR P w0 c.H φ' w'∧EX y.H φ c.H φ':=by
  have e:endR b y=bi (nbeq (hget y.H b).kind 5) (bi (nble y.H.lim b)
    (bi (nbeq y.tag 0) [⟨1,0,bV true,hset y.H b ⟨5,0,0,(hget y.H b).cs⟩⟩] (bi (nbeq y.tag 1) [⟨1,0,bV false,hset y.H b ⟨5,2,Nat.add y.i 2,(hget y.H b).cs⟩⟩] (bi (nbeq y.tag 2) [⟨1,0,bV false,hset y.H b ⟨5,2,1,(hget y.H b).cs⟩⟩] (zaG y.i)))) (zaG 63)) (zaG 63):=rfl
  rw[e] at hall ⊢
  cases h5:nbeq (hget y.H b).kind 5
  · rw[h5] at hall;exact (zaI hall).elim
  rw[h5,zag] at hall
  rw[zag]
  cases hl:nble y.H.lim b
  · rw[hl] at hall;exact (zaI hall).elim
  rw[zag]
  have h5:=zaa.1 h5
  have hl:=zah.1 hl
  obtain⟨rec,f,rp,fn,top,g,T,ho,hA⟩:=zhf hr hb h5
  rcases hj with⟨ht,rfl⟩ | ⟨ht,rfl⟩ | ⟨ht,rfl⟩
  · obtain⟨φ',hr',hex⟩:=zfB (B:=⟨5,0,0,(hget y.H b).cs⟩) (o':=.loop { rec with state:=.ready,pending:=none }) hr hb (by omega) hl ho (hA.brel rfl rfl rfl rfl rfl rfl rfl rfl) fun _=>rfl
    rw[zaa.2 ht,zag]
    exact⟨_,_,run_endRound none ho,_,List.mem_singleton.2 rfl,φ',.bool true 0 0 [],hr',hex⟩
  · obtain⟨φ',hr',hex⟩:=zfB (B:=⟨5,2,Nat.add y.i 2,(hget y.H b).cs⟩) (o':=.loop { rec with state:=.done,pending:=some (.exit y.i) }) hr hb (by omega) hl ho (hA.brel rfl rfl rfl rfl rfl rfl rfl rfl) fun _=>rfl
    rw[zam.2 (show y.tag ≠ 0 by omega),zai,zaa.2 ht,zag]
    exact⟨_,_,run_endRound (some (.exit y.i)) ho,_,List.mem_singleton.2 rfl,φ',.bool false 0 0 [],hr',hex⟩
  · obtain⟨φ',hr',hex⟩:=zfB (B:=⟨5,2,1,(hget y.H b).cs⟩) (o':=.loop { rec with state:=.done,pending:=some .ret }) hr hb (by omega) hl ho (hA.brel rfl rfl rfl rfl rfl rfl rfl rfl) fun _=>rfl
    rw[zam.2 (show y.tag ≠ 0 by omega),zai,zam.2 (show y.tag ≠ 1 by omega),zai,zaa.2 ht,zag]
    exact⟨_,_,run_endRound (some .ret) ho,_,List.mem_singleton.2 rfl,φ',.bool false 0 0 [],hr',hex⟩
theorem zun{b:Nat}{y:Res}(hall:AllC (endR b y)):y.tag=0 ∨ y.tag=1 ∨ y.tag=2:=by
  have hall':AllC (bi (nbeq (hget y.H b).kind 5) (bi (nble y.H.lim b)
    (bi (nbeq y.tag 0) [⟨1,0,bV true,hset y.H b ⟨5,0,0,(hget y.H b).cs⟩⟩] (bi (nbeq y.tag 1) [⟨1,0,bV false,hset y.H b ⟨5,2,Nat.add y.i 2,(hget y.H b).cs⟩⟩] (bi (nbeq y.tag 2) [⟨1,0,bV false,hset y.H b ⟨5,2,1,(hget y.H b).cs⟩⟩] (zaG y.i)))) (zaG 63)) (zaG 63)):=hall
  cases h5:nbeq (hget y.H b).kind 5
  · rw[h5] at hall';exact (zaI hall').elim
  rw[h5,zag] at hall'
  cases hl:nble y.H.lim b
  · rw[hl] at hall';exact (zaI hall').elim
  rw[hl,zag] at hall'
  cases h0:nbeq y.tag 0
  · rw[h0,zai] at hall'
    cases h1:nbeq y.tag 1
    · rw[h1,zai] at hall'
      cases h2:nbeq y.tag 2
      · rw[h2] at hall';exact (zaI hall').elim
      · exact .inr (.inr (zaa.1 h2))
    · exact .inr (.inl (zaa.1 h1))
  · exact .inl (zaa.1 h0)
theorem zny{N:Nat}(ps:List Nat):∀ {args:List AV} {vals:List Value} {T:Fr} {tmps:Array Value},VRs φ args vals→(∀ p ∈ ps,p<N)→TR P φ N T { tmps:=tmps,defers:=[] } →
    TR P φ N (zgk ps args T) { tmps:=(ps.zip vals).foldl (fun tmps ta=>tmps.setIfInBounds ta.1 ta.2) tmps,defers:=[] }:=by
  induction ps with
  | nil=>intro args vals T tmps _ _ h;exact h
  | cons p ps ih =>
    intro args vals T tmps hv hp h
    cases hv with
    | nil=>exact h
    | cons h1 h2=>exact ih h2 (fun q hq=>hp q (by simp[hq])) (h.put (hp p (by simp)) h1)
theorem zs4(l:List Nat):mapP (mapI l)=l:=by
  induction l with
  | nil=>rfl
  | cons a l ih=>exact congrArg (a::·) ih
theorem zqA{f:Nat}{rp:List Nat}{lc:LC}{fn:Func}{top:Code}{g:Operand}{ps:Array Tmp}{as body:Code}(h1:P.funcs[f]?=some fn)(h2:fn.body=some top)(h3:zgS top rp=some (.rangeFunc g ps as body))(h:(zjT P f rp).run=some lc) :
    lc=⟨ps.toList,comp P fn.ntmps true f (0::rp) as zb0,comp P fn.ntmps true f (1::rp) body zb0⟩∧∀ p ∈ ps.toList,p<fn.ntmps:=by
  simp only[zjT,h1,h2,h3] at h
  cases hb:allL (fun p=>nble (Nat.succ p) fn.ntmps) ps.toList
  · rw[hb] at h;cases h
  · rw[hb,zag] at h
    cases h
    refine⟨rfl,fun p hp=>?_⟩
    rw[zcH,List.all_eq_true] at hb
    exact zah.1 (hb p hp)
theorem zx0(hm:P.follows .mixedOrders=true)(hrec:zaU P r){N f b x:Nat}{rp:List Nat}{body:Code}{H0:Hp}{φ0:Ph}{y:Res}{a:Act}(hat:At P N f rp body)(hro:InRo (some x) H0 φ0)(hb:φ0 b=some x)
    (hs:St P w0 N H0 φ0 y.T y.H φ a w) (hall:AllC (begR r (comp P N true f rp body zb0) b y)) :
    ∃ w₂,(Instr.beginRound x).run P w=.ok () w₂∧body.wpIn (fen (some x)) 0 P (roundPost P x (zbY P w0 (begR r (comp P N true f rp body zb0) b y) H0 φ0)) a w₂:=by
  have e:begR r (comp P N true f rp body zb0) b y=bi (nbeq y.tag 0) (bi (nbeq (hget y.H b).kind 5) (bi (nbeq (hget y.H b).t 0) (bi (nble y.H.lim b)
    (fmL ((comp P N true f rp body zb0).run r y.T (hset y.H b ⟨5,1,(hget y.H b).e,(hget y.H b).cs⟩)) fun y=>endR b y) (zaG 64)) (zaG 64)) (zaG 64)) (zaG y.i):=rfl
  rw[e] at hall ⊢
  cases h0:nbeq y.tag 0
  · rw[h0] at hall;exact (zaI hall).elim
  rw[h0,zag] at hall
  rw[zag]
  cases h5:nbeq (hget y.H b).kind 5
  · rw[h5] at hall;exact (zaI hall).elim
  rw[h5,zag] at hall
  rw[zag]
  cases ht:nbeq (hget y.H b).t 0
  · rw[ht] at hall;exact (zaI hall).elim
  rw[ht,zag] at hall
  rw[zag]
  cases hl:nble y.H.lim b
  · rw[hl] at hall;exact (zaI hall).elim
  rw[hl,zag] at hall
  rw[zag]
  have hb':=(hs.ex.keep _ _ hb).1
  obtain⟨rec,f',rp',fn,top,g,T,ho,hA⟩:=zhf hs.hr hb' (zaa.1 h5)
  have hready:rec.state=.ready:=by rw[hA.st,zaa.1 ht];rfl
  obtain⟨φ2,hr2,hex2⟩:=zfB (B:=⟨5,1,(hget y.H b).e,(hget y.H b).cs⟩) (o':=.loop { rec with state:=.busy }) hs.hr hb' (by have:=zaa.1 h5;omega) (zah.1 hl) ho (hA.brel rfl rfl rfl rfl rfl rfl rfl hA.pend) (fun _=>rfl) (by have:=zaa.1 h5;omega)
  refine⟨_,run_beginRound ho hready,?_⟩
  generalize hH2:hset y.H b ⟨5,1,(hget y.H b).e,(hget y.H b).cs⟩=H2 at hr2 hex2 hall
  have hs2:St P w0 N H0 φ0 y.T H2 φ2 a (w.putObj x (.loop { rec with state:=.busy })):=⟨hs.tr.mono hex2.keep,hr2,hs.ex.trans hex2⟩
  have hend:∀ z ∈ (comp P N true f rp body zb0).run r y.T H2,AllC (endR b z):=fun z hz c hc=>hall c (zdg.2 ⟨z,hz,hc⟩)
  have hok:AllOk ((comp P N true f rp body zb0).run r y.T H2):=fun z hz h3=>by rcases zun (hend z hz) with h | h | h<;>omega
  have hfin:∀ (z:Res) (jump:Option Code) (a':Act) (w':World) (φ':Ph),z ∈ (comp P N true f rp body zb0).run r y.T H2→St P w0 N H0 φ0 z.T z.H φ' a' w'→((z.tag=0∧jump=none) ∨ (z.tag=1∧jump=some (.exit z.i)) ∨ (z.tag=2∧jump=some .ret)) →
      ∃ v w'',(Instr.endRound x jump).run P w'=.ok v w''∧zbY P w0 (fmL ((comp P N true f rp body zb0).run r y.T H2) fun y=>endR b y) H0 φ0 (.returned v) w'':=by
    intro z jump a' w' φ' hz hs' hj
    obtain⟨v,w'',g1,c,hc,φ'',g2,g3,g4⟩:=zxz hs'.hr (hs'.ex.keep _ _ hb).1 (hend z hz) hj
    exact⟨v,w'',g1,c,zdg.2 ⟨z,hz,hc⟩,φ'',g2,g3,hs'.ex.trans g4⟩
  refine wpIn_mono (zhH (ro:=some x) hm hrec hro body rp zb0 _ _ _ _ _ _ hat hok hs2 fun _ h=>h) ?_
  intro ex a' w' hq
  cases ex with
  | normal=>obtain⟨T',H',φ',g1,g2⟩:=hq;exact hfin ⟨0,0,T',H'⟩ none a' w' φ' (g2 _ (List.mem_singleton.2 rfl)) g1 (.inl ⟨rfl,rfl⟩)
  | ret=>obtain⟨z,hz,h1,φ',hs'⟩:=hq;exact hfin z (some .ret) a' w' φ' hz hs' (.inr (.inr ⟨h1,rfl⟩))
  | exit i=>obtain⟨z,hz,h1,rfl,φ',hs'⟩:=hq;exact hfin z (some (.exit z.i)) a' w' φ' hz hs' (.inr (.inl ⟨h1,rfl⟩))
  | goto l=>exact hq.elim
  | panic ch=>exact hq.elim
  | outgrown=>exact hq.elim
theorem zj4{body:BR}{b:Nat}{y:Res}(hall:AllC (begR r body b y)):y.tag=0:=by
  have e:begR r body b y=bi (nbeq y.tag 0) (bi (nbeq (hget y.H b).kind 5) (bi (nbeq (hget y.H b).t 0) (bi (nble y.H.lim b)
    (fmL (body.run r y.T (hset y.H b ⟨5,1,(hget y.H b).e,(hget y.H b).cs⟩)) fun y=>endR b y) (zaG 64)) (zaG 64)) (zaG 64)) (zaG y.i):=rfl
  rw[e] at hall
  cases h0:nbeq y.tag 0
  · rw[h0] at hall;exact (zaI hall).elim
  · exact zaa.1 h0
theorem zs5(hm:P.follows .mixedOrders=true)(hrec:zaU P r){b x:Nat}{args:List AV}{vals:List Value}(hb:φ b=some x)(ha:VRs φ args vals)(hr:HR P w0 H φ w)(hall:AllC (zjU P r b args H)) :
    ∃ f tmps assign body,(Instr.yield x vals.toArray).run P w=.ok (.round x f tmps assign body) w∧∀ ro,RoundIn (fen ro) 0 P x f tmps assign body w (zbY P w0 (zjU P r b args H) H φ):=by
  have e:zjU P r b args H=bi (nbeq (hget H b).kind 5) (om (zjT P (nthL (hget H b).cs 0).p (mapP (nthL (hget H b).cs 0).cs)).run (zaG 65) fun lc=>bi (nbeq (lenL args) (lenL lc.ps))
    (fmL (lc.as.run r (zgk lc.ps args (decF (nthL (hget H b).cs 1))) H) fun x=>begR r lc.body b x) (zaG 65)) (zaG 65):=rfl
  rw[e] at hall ⊢
  cases h5:nbeq (hget H b).kind 5
  · rw[h5] at hall;exact (zaI hall).elim
  rw[h5,zag] at hall
  rw[zag]
  have h5:=zaa.1 h5
  obtain⟨rec,f,rp,fn,top,g,T,ho,hA⟩:=zhf hr hb h5
  rw[hA.cs] at hall ⊢
  have e0:nthL [zeS f rp,encF T] 0=zeS f rp:=rfl
  have e1:nthL [zeS f rp,encF T] 1=encF T:=rfl
  have e2:(zeS f rp).p=f:=rfl
  have e3:(zeS f rp).cs=mapI rp:=rfl
  rw[e0,e1,e2,e3,zs4,zi6] at hall ⊢
  cases hlc:(zjT P f rp).run with
  | none=>rw[hlc] at hall;exact (zaI hall).elim
  | some lc =>
    rw[hlc,zan] at hall
    rw[zan]
    obtain⟨rfl,hps⟩:=zqA hA.hfn hA.htop hA.code hlc
    cases hlen:nbeq (lenL args) (lenL rec.params.toList)
    · rw[hlen] at hall;exact (zaI hall).elim
    rw[hlen,zag] at hall
    rw[zag]
    have hlen:=zaa.1 hlen
    rw[zaz,zaz,ha.length] at hlen
    have hsize:vals.toArray.size=rec.params.size:=by simpa using hlen
    refine⟨rec.fn,_,rec.assign,rec.body,run_yield ho hsize,fun ro=>roundIn_of_wpIn (F:=fen ro) trivial ?_⟩
    have hfold:(rec.params.zip vals.toArray).foldl (fun tmps (ta:Tmp × Value)=>tmps.setIfInBounds ta.1 ta.2) rec.tmps=(rec.params.toList.zip vals).foldl (fun tmps ta=>tmps.setIfInBounds ta.1 ta.2) rec.tmps:=by
      rw[← Array.foldl_toList,Array.toList_zip]
    have htr:=zny (N:=fn.ntmps) rec.params.toList ha hps ⟨hA.size,hA.val,by rw[hA.mks];rfl,hr.gl⟩
    rw[← hfold] at htr
    have hro:InRo (some x) H φ:=fun l hl=>by
      cases hl
      have h1:=(hr.blk b x hb).1
      have h2:=hr.n
      exact⟨b,hb,h1,by omega,h5⟩
    have hat:At P fn.ntmps f rp (.rangeFunc g rec.params rec.assign rec.body):=⟨fn,top,hA.hfn,hA.htop,rfl,hA.code⟩
    have hbeg:∀ y ∈ (comp P fn.ntmps true f (0::rp) rec.assign zb0).run r (zgk rec.params.toList args T) H,AllC (begR r (comp P fn.ntmps true f (1::rp) rec.body zb0) b y):=fun y hy c hc=>hall c (zdg.2 ⟨y,hy,hc⟩)
    have hok:AllOk ((comp P fn.ntmps true f (0::rp) rec.assign zb0).run r (zgk rec.params.toList args T) H):=fun y hy h3=>by have:=zj4 (hbeg y hy);omega
    refine wpIn_mono (zhH (ro:=some x) (w0:=w0) (H0:=H) (φ0:=φ) hm hrec hro rec.assign (0::rp) zb0 _ _ H φ _ w (hat.kid rfl) hok ⟨htr,hr,EX.refl H φ⟩ fun _ h=>h) ?_
    intro ex a' w' hq
    cases ex with
    | normal =>
      obtain⟨T',H',φ',g1,g2⟩:=hq
      have hy:=g2 _ (List.mem_singleton.2 rfl)
      obtain⟨w₂,k1,k2⟩:=zx0 (y:=⟨0,0,T',H'⟩) hm hrec (hat.kid rfl) hro hb g1 (hbeg _ hy)
      refine⟨w₂,k1,wpIn_mono k2 ?_⟩
      have hcp:∀ e w,zbY P w0 (begR r (comp P fn.ntmps true f (1::rp) rec.body zb0) b ⟨0,0,T',H'⟩) H φ e w →
          zbY P w0 (fmL ((comp P fn.ntmps true f (0::rp) rec.assign zb0).run r (zgk rec.params.toList args T) H) fun x=>begR r (comp P fn.ntmps true f (1::rp) rec.body zb0) b x) H φ e w:=by
        intro e w he
        cases e with
        | returned v=>obtain⟨c,hc,h⟩:=he;exact⟨c,zdg.2 ⟨_,hy,hc⟩,h⟩
        | panicked ch=>exact he.elim
        | outgrown=>exact he.elim
      intro ex2 a2 w2 hq2
      cases ex2 with
      | normal=>obtain⟨v,w',h1,h2⟩:=hq2;exact⟨v,w',h1,hcp _ _ h2⟩
      | ret=>obtain⟨v,w',h1,h2⟩:=hq2;exact⟨v,w',h1,hcp _ _ h2⟩
      | exit i=>obtain⟨v,w',h1,h2⟩:=hq2;exact⟨v,w',h1,hcp _ _ h2⟩
      | goto l=>obtain⟨v,w',h1,h2⟩:=hq2;exact⟨v,w',h1,hcp _ _ h2⟩
      | panic ch=>exact hq2.elim
      | outgrown=>exact hq2.elim
    | ret=>obtain⟨y,hy,h1,_⟩:=hq;have:=zj4 (hbeg y hy);omega
    | exit i=>obtain⟨y,hy,h1,_⟩:=hq;have:=zj4 (hbeg y hy);omega
    | goto l=>exact hq.elim
    | panic ch=>exact hq.elim
    | outgrown=>exact hq.elim
end Go.Eng
namespace Go.Eng
open Go.RowKit
variable {P:Program} {w0:World} {H:Hp} {φ:Ph} {w:World}
def zdZ(P:Program)(f:Nat)(g:List AV→Hp→List CRes):Prop:=∀ (w0:World) (H:Hp) (φ:Ph) (w:World) (args:List AV) (vals:List Value),
  VRs φ args vals→HR P w0 H φ w→AllC (g args H)→Calls P f vals.toArray w (zbY P w0 (g args H) H φ)
theorem znz{t:Nat}(ht:t<511)(l:List AV):∀ (i:Nat) (T:Fr),(getB t).run (zar i l T)=if i≤t∧t<i+l.length then l.getD (t - i) unkV else (getB t).run T:=by
  induction l with
  | nil=>intro i T;rw[if_neg (fun h=>by have:=h.2;simp at this;omega)];rfl
  | cons v l ih =>
    intro i T
    show (getB t).run (zar (i+1) l ((setB i).run T v))=_
    rw[ih,zbr]
    simp only[List.length_cons]
    by_cases h1:i=t
    · subst h1
      rw[if_neg (by omega),if_pos ⟨rfl,ht⟩,if_pos (by omega)]
      simp
    · rw[if_neg (c:=i=t∧i<511) (fun h=>h1 h.1)]
      by_cases h2:i+1≤t∧t<i+1+l.length
      · rw[if_pos h2,if_pos (by omega)]
        have:t - i=(t - (i+1))+1:=by omega
        rw[this];simp
      · rw[if_neg h2,if_neg (by omega)]
theorem zln(l:List AV):∀ (i:Nat) (T:Fr),zaK (zar i l T)=zaK T:=by
  induction l with
  | nil=>exact fun _ _=>rfl
  | cons v l ih =>
    intro i T
    show zaK (zar (i+1) l ((setB i).run T v))=_
    rw[ih,zb1]
theorem zfC{args:List AV}{vals:List Value}(h:VRs φ args vals)(N:Nat)(hgl:GL P φ):TR P φ N (zar 0 args noFr) { tmps:=vals.toArray++Array.replicate (N - vals.toArray.size) undef,defers:=[] }:=by
  refine⟨by simp;omega,?_,by rw[zln];rfl,hgl⟩
  intro t
  by_cases ht:t<511
  · rw[znz ht]
    have hlen:=h.length
    by_cases hl:t<args.length
    · rw[if_pos (by omega)]
      have ha:args[t]?=some args[t]:=List.getElem?_eq_getElem hl
      obtain⟨v,hv,hvr⟩:=h.get ha
      have e1:args.getD (t - 0) unkV=args[t]:=by simp[hl]
      have hl':t<vals.length:=by omega
      have e2:(vals.toArray++Array.replicate (N - vals.toArray.size) undef).getD t undef=v:=by
        have:vals[t]=v:=by rw[List.getElem?_eq_getElem hl'] at hv;exact Option.some.inj hv
        rw[← this]
        simp[Array.getElem?_append,hl']
      show VR φ _ ((vals.toArray++Array.replicate (N - vals.toArray.size) undef).getD t undef)
      rw[e1,e2];exact hvr
    · rw[if_neg (by omega),zsC _ ht]
      have e2:(vals.toArray++Array.replicate (N - vals.toArray.size) undef).getD t undef=undef:=by
        have hl':¬ t<vals.length:=by omega
        simp only[Array.getD_eq_getD_getElem?,Array.getElem?_append,List.size_toArray,if_neg hl',Array.getElem?_replicate]
        split<;>rfl
      show VR φ _ ((vals.toArray++Array.replicate (N - vals.toArray.size) undef).getD t undef)
      rw[e2];exact .ud _ _ _ _ _
  · rw[zdl (by omega)];exact .unk _ _ _ _ _ _
section fns
variable {Nt:Nat→Option Native} {Mg:Nat→Bool} {r:Rec}
theorem zx1(hm:P.follows .mixedOrders=true){f:Nat}{fn:Func}{c:Code}{fc:FC}(hf:P.funcs[f]?=some fn)(hb:fn.body=some c)(h1:fc.body=comp P fn.ntmps false f [] c zb0)(h2:fc.res=zbM P fn.results.toList)(hrec:zaU P r):zdZ P f (ziV fc r):=by
  intro w0 H φ w args vals hargs hr hall
  have hmem:∀ x ∈ fc.body.run r (zar 0 args noFr) H,∀ y ∈ bi (bi (nbeq x.tag 0) true (nbeq x.tag 2)) (om (zfv (zaK x.T) x.H) (zaG 59) fun H=>om (fc.res.run x.T H) (zaG 54) fun v=>[⟨1,0,v,H⟩]) (zaG x.i),y ∈ ziV fc r args H:=fun x hx y hy=>zdg.2 ⟨x,hx,hy⟩
  have hgood:∀ x ∈ fc.body.run r (zar 0 args noFr) H,(x.tag=0 ∨ x.tag=2)∧∃ H' v,zfv (zaK x.T) x.H=some H'∧fc.res.run x.T H'=some v∧(⟨1,0,v,H'⟩:CRes) ∈ ziV fc r args H:=by
    intro x hx
    have hy:=hmem x hx
    cases hb:bi (nbeq x.tag 0) true (nbeq x.tag 2)
    · rw[hb] at hy;exact (zaI fun c hc=>hall c (hy c hc)).elim
    · rw[hb,zag] at hy
      refine⟨?_,?_⟩
      · cases h0:nbeq x.tag 0
        · rw[h0] at hb;exact .inr (zaa.1 hb)
        · exact .inl (zaa.1 h0)
      · cases hk:zfv (zaK x.T) x.H with
        | none=>rw[hk] at hy;exact (zaI fun c hc=>hall c (hy c hc)).elim
        | some H' =>
          rw[hk,zan] at hy
          cases hv:fc.res.run x.T H' with
          | none=>rw[hv] at hy;exact (zaI fun c hc=>hall c (hy c hc)).elim
          | some v=>rw[hv] at hy;exact⟨H',v,rfl,hv,hy _ (List.mem_singleton.2 rfl)⟩
  have hL:AllOk (fc.body.run r (zar 0 args noFr) H):=fun x hx ht=>by rcases (hgood x hx).1 with h | h<;>omega
  refine zeq (ro:=none) (n:=0) (callsIn_of_wp_marks hf hb trivial ?_)
  have hst:St P w0 fn.ntmps H φ (zar 0 args noFr) H φ { tmps:=vals.toArray++Array.replicate (fn.ntmps - vals.toArray.size) undef,defers:=[] } w:=⟨zfC hargs _ hr.gl,hr,EX.refl H φ⟩
  refine wpIn_mono (zhH (ro:=none) (P:=P) (N:=fn.ntmps) hm hrec (fun l hl=>by cases hl) c [] zb0 _ _ H φ _ w ⟨fn,c,hf,hb,rfl,rfl⟩ hL hst (by rw[h1];exact fun _ h=>h)) ?_
  have hend:∀ (x:Res) (φ':Ph) (a':Act) (w':World),x ∈ fc.body.run r (zar 0 args noFr) H→St P w0 fn.ntmps H φ x.T x.H φ' a' w'→LeavesInM (fen none) 0 P fn a'.tmps (zbY P w0 (ziV fc r args H) H φ) a'.defers .returning w':=by
    intro x φ' a' w' hx hs
    obtain⟨_,H',v,hk,hv,hm⟩:=hgood x hx
    rw[h2] at hv
    refine ze2 _ hs.tr.defers hs.hr hk fun φ2 w2 hex2 hr2=>?_
    obtain⟨val,h3,h4⟩:=zdN (hs.tr.mono hex2.keep) hr2 hv
    exact⟨val,h3,_,hm,φ2,h4,hr2,hs.ex.trans hex2⟩
  intro e a' w' hq
  cases e with
  | normal=>obtain⟨T',H',φ',g1,g2⟩:=hq;exact hend ⟨0,0,T',H'⟩ φ' a' w' (g2 _ (List.mem_singleton.2 rfl)) g1
  | ret=>obtain⟨x,hx,_,φ',hs⟩:=hq;exact hend x φ' a' w' hx hs
  | exit i=>obtain⟨x,hx,h1,_⟩:=hq;rcases (hgood x hx).1 with h | h<;>omega
  | _=>exact hq.elim
def zji(P:Program)(f:Nat)(g:List AV→Hp→List CRes):Prop:=∀ (w0:World) (H:Hp) (φ:Ph) (w:World) (args:List AV) (vals:List Value),
  VRs φ args vals→HR P w0 H φ w→AllC (g args H)→∃ v w',(callFunc f vals.toArray).run P w=.ok (.value v) w'∧zbY P w0 (g args H) H φ (.returned v) w'
def zdO(P:Program)(Nt:Nat→Option Native):Prop:=(∀ f g,f<512→Nt f=some g→zdZ P f g)∧∀ f g,Nt (f+1000)=some g→zji P f g
def zhI(P:Program):Prop:=∀ (f:Nat) (fn:Func),P.funcs[f]?=some fn→(fn.name == "runtime.NumGoroutine")=false
theorem zlo{α:Type}(t:Nd α)(f:Nat→α)(h:t=zmy f)(j:Nat):dsel t j=f (j % 8):=by
  subst h
  have h8:j % 8<8:=Nat.mod_lt _ (by decide)
  have e1:Nat.land j 1=Nat.land (j % 8) 1:=by
    show j &&& 1=(j % 8) &&& 1
    rw[show (8:Nat)=2 ^ 3 from rfl,← Nat.and_two_pow_sub_one_eq_mod,Nat.and_assoc];rfl
  have e2:Nat.land j 2=Nat.land (j % 8) 2:=by
    show j &&& 2=(j % 8) &&& 2
    rw[show (8:Nat)=2 ^ 3 from rfl,← Nat.and_two_pow_sub_one_eq_mod,Nat.and_assoc];rfl
  have e4:Nat.land j 4=Nat.land (j % 8) 4:=by
    show j &&& 4=(j % 8) &&& 4
    rw[show (8:Nat)=2 ^ 3 from rfl,← Nat.and_two_pow_sub_one_eq_mod,Nat.and_assoc];rfl
  unfold dsel
  rw[e1,e2,e4]
  generalize j % 8=m at h8
  match m,h8 with
  | 0,_=>rfl
  | 1,_=>rfl
  | 2,_=>rfl
  | 3,_=>rfl
  | 4,_=>rfl
  | 5,_=>rfl
  | 6,_=>rfl
  | 7,_=>rfl
theorem zx2{f:Nat}(hf:f<512):fcOf P Nt Mg f=(funB P Nt Mg f).run:=by
  unfold fcOf
  rw[zaW.2 hf,zai]
  unfold tabF
  rw[zlo _ _ rfl,zlo _ _ rfl,zlo _ _ rfl]
  have e:Nat.add (Nat.mul 64 (sh f 6 % 8)) (Nat.add (Nat.mul 8 (sh f 3 % 8)) (f % 8))=f:=by
    have h6:sh f 6=f / 64:=Nat.shiftRight_eq_div_pow f 6
    have h3:sh f 3=f / 8:=Nat.shiftRight_eq_div_pow f 3
    rw[h6,h3]
    show 64 * _+(8 * _+_)=f
    omega
  rw[e]
theorem zlO{f:Nat}{fc:FC}(h:(funB P Nt Mg f).run=some fc):∃ fn c,P.funcs[f]?=some fn∧fn.body=some c∧fc.body=comp P fn.ntmps false f [] c zb0∧fc.res=zbM P fn.results.toList∧fc.nat=Nt f∧fc.mrg=Mg f:=by
  simp only[funB] at h
  split at h
  · rename_i fn hf
    split at h
    · rename_i c hc;cases h;exact⟨fn,c,hf,hc,rfl,rfl,rfl,rfl⟩
    · cases h
  · cases h
theorem zn0{H:Hp}{c:CRes}{m:AV × List (Nat × AB)}(h:matR H c=some m):c.ok=1:=by
  have h1:bi (nbeq c.ok 1) (om (matV c.H H.n 20 c.v []) none fun y=>bi (zfK y.2) (some y) none) none=some m:=h
  cases hb:nbeq c.ok 1
  · rw[hb] at h1;cases h1
  · exact zaa.1 hb
theorem zoq{H:Hp}{l:List CRes}(h:AllC (zgT H l)):∃ m:AV × List (Nat × AB),zgT H l=[⟨1,0,m.1,zbU m.2 H⟩]∧H.n+m.2.length≤32766 ∧
    ∀ c ∈ l,c.ok=1∧∃ m':AV × List (Nat × AB),matR H c=some m'∧m'.1=m.1∧m'.2.length=m.2.length∧zbU m'.2 H=zbU m.2 H:=by
  cases l with
  | nil=>exact (zaI h).elim
  | cons x t =>
    have e:zgT H (x::t)=om (matR H x) (zaG 81) fun m=>bi (allL (fun y=>om (matR H y) false fun m'=>zm5 m m') t) (bi (nble (Nat.add H.n (lenL m.2)) 32766) [⟨1,0,m.1,zbU m.2 H⟩] (zaG 83)) (zaG 82):=rfl
    rw[e] at h ⊢
    cases hx:matR H x with
    | none=>rw[hx] at h;exact (zaI h).elim
    | some m =>
      rw[hx,zan] at h
      rw[zan]
      cases ha:allL (fun y=>om (matR H y) false fun m'=>zm5 m m') t
      · rw[ha] at h;exact (zaI h).elim
      · rw[ha,zag] at h
        rw[zag]
        cases hn:nble (Nat.add H.n (lenL m.2)) 32766
        · rw[hn] at h;exact (zaI h).elim
        · refine⟨m,rfl,by have:=zah.1 hn;rw[zaz] at this;exact this,fun c hc=>?_⟩
          rw[zcH,List.all_eq_true] at ha
          cases hc with
          | head=>exact⟨zn0 hx,m,hx,rfl,rfl,rfl⟩
          | tail _ hc =>
            have h1:=ha c hc
            cases hm:matR H c with
            | none=>rw[hm] at h1;cases h1
            | some m' =>
              rw[hm,zan] at h1
              obtain⟨h2,h3⟩:=zup h1
              exact⟨zn0 hm,m',rfl,h2.symm,by rw[← List.length_map (·.2),← h3,List.length_map],zs9 h3.symm H⟩
theorem zs6{f:Nat}{g:List AV→Hp→List CRes}(h:zdZ P f g):zdZ P f fun l H=>zgT H (g l (ziU H)):=by
  intro w0 H φ w args vals ha hr hall
  obtain⟨m,e,hn,hm⟩:=zoq hall
  have hcalls:=h w0 (ziU H) φ w args vals ha hr.lock fun c hc=>(hm c hc).1
  refine Calls.mono hcalls fun e' w' he=>?_
  cases e' with
  | returned v =>
    obtain⟨c,hc,φ',g1,g2,g3⟩:=he
    obtain⟨_,m',h1,h2,h3,h4⟩:=hm c hc
    obtain⟨φ'',k1,k2,k3⟩:=zx6 hr g1 g2 g3 h1 (by omega)
    rw[h2] at k1
    rw[h4] at k2 k3
    exact⟨⟨1,0,m.1,zbU m.2 H⟩,by show _ ∈ zgT H (g args (ziU H));rw[e];exact List.mem_singleton.2 rfl,φ'',k1,k2,k3⟩
  | panicked ch=>exact he.elim
  | outgrown=>exact he.elim
theorem zuo(hm:P.follows .mixedOrders=true){f:Nat}{fc:FC}(hlt:f<512)(hf:(funB P Nt Mg f).run=some fc)(hn:zdO P Nt)(hrec:zaU P r):zdZ P f (zpr fc r):=by
  obtain⟨fn,c,h1,h2,h3,h4,h5,_⟩:=zlO hf
  have hb:=zx1 hm h1 h2 h3 h4 hrec
  intro w0 H φ w args vals ha hr hall
  unfold zpr at hall ⊢
  cases hnat:fc.nat with
  | some g =>
    rw[hnat,zan] at hall
    exact hn.1 f g hlt (h5 ▸ hnat) w0 H φ w args vals ha hr hall
  | none =>
    rw[hnat,zfD] at hall
    cases hm:fc.mrg
    · rw[hm] at hall;exact hb w0 H φ w args vals ha hr hall
    · rw[hm] at hall;exact zs6 hb w0 H φ w args vals ha hr hall
theorem zs7(hm:P.follows .mixedOrders=true)(hn:zdO P Nt)(hg:zhI P)(hrec:zaU P r):zaU P (zmW P Nt Mg r):=by
  intro w0 H φ w av val args vals hv ha hr hall
  unfold zmW at hall ⊢
  cases h14:nbeq av.tag 14
  case true =>
    rw[h14,zag] at hall
    rw[zag]
    obtain⟨x,rfl,hx⟩:=hv.of_yld (zaa.1 h14)
    obtain⟨f,tmps,as,body,h1,h2⟩:=zs5 hm hrec hx ha hr hall
    exact .inr (.inl ⟨x,f,tmps,as,body,rfl,h1,h2⟩)
  rw[h14,zai] at hall
  rw[zai]
  cases h13:nbeq av.tag 13
  · rw[h13] at hall;exact (zaI hall).elim
  rw[h13,zag] at hall
  rw[zag]
  obtain⟨first,cap,rfl,hcs,hlen⟩:=hv.of_fn (zaa.1 h13)
  cases ht:zcy av.cs av.q with
  | none=>rw[ht] at hall;exact (zaI hall).elim
  | some fs =>
    rw[ht,zan] at hall
    rw[zan]
    obtain⟨hl,rfl⟩:=zbL ht
    cases hfc:fcOf P Nt Mg av.p with
    | none =>
      rw[hfc,zfD] at hall
      rw[zfD]
      unfold extR at hall ⊢
      cases h0:nbeq (lenL av.cs) 0
      · rw[h0] at hall;exact (zaI hall).elim
      rw[h0,zag] at hall
      rw[zag]
      cases hlow:allL (fun a=>nble a.tag 9) args
      · rw[hlow] at hall;exact (zaI hall).elim
      rw[hlow,zag] at hall
      rw[zag]
      cases hnt:Nt (Nat.add av.p 1000) with
      | none=>rw[hnt] at hall;exact (zaI hall).elim
      | some g =>
        rw[hnt,zan] at hall
        rw[zan]
        have hcs0:av.cs=[]:=by
          have:=zaa.1 h0
          rw[zaz] at this
          exact List.length_eq_zero_iff.1 this
        rw[hcs0] at hcs
        have hfc0:first=[]∧cap=[]:=by
          have:=hcs.length
          simp only[List.length_nil,List.length_append] at this
          exact⟨List.length_eq_zero_iff.1 (by omega),List.length_eq_zero_iff.1 (by omega)⟩
        obtain⟨rfl,rfl⟩:=hfc0
        obtain⟨v,w',k1,k2⟩:=hn.2 av.p g hnt w0 H φ w args vals ha hr hall
        refine .inr (.inr ⟨av.p,v,w',rfl,?_,k1,k2⟩)
        rw[zcH,List.all_eq_true] at hlow
        intro u hu l e
        subst e
        have:∀ (as:List AV) (vs:List Value),VRs φ as vs→(∀ a ∈ as,nble a.tag 9=true)→Value.func (.yield l) #[] #[] ∈ vs→False:=by
          intro as
          induction as with
          | nil=>intro vs h _ hm;cases h;cases hm
          | cons a as ih =>
            intro vs h hl hm
            cases h with
            | cons g1 g2 =>
              rcases List.mem_cons.1 hm with e | hm
              · subst e
                have:=zah.1 (hl a (by simp))
                cases g1<;>first | (simp only at this;omega) | (simp at this)
              · exact ih _ g2 (fun a ha=>hl a (by simp[ha])) hm
        exact this args vals ha (fun a ha=>hlow a ha) hu
    | some fc =>
      rw[hfc,zan] at hall
      rw[zan]
      have hlt:av.p<512:=by
        cases hb:nble 512 av.p
        · exact zaW.1 hb
        · unfold fcOf at hfc;rw[hb] at hfc;cases hfc
      rw[zx2 hlt] at hfc
      obtain⟨fn,c,h1,h2,_⟩:=zlO hfc
      have hargs:VRs φ (appL (av.cs.take av.q) (appL args (zbJ av.cs av.q))) (first++(vals++cap)):=by
        rw[zaV,zaV,zbB]
        have g1:=hcs.take av.q
        have g2:=hcs.drop av.q
        rw[List.take_left' hlen] at g1
        rw[List.drop_left' hlen] at g2
        exact g1.append (ha.append g2)
      refine .inl ⟨av.p,first.toArray,cap.toArray,fn,rfl,h1,by rw[h2];rfl,hg _ _ h1,?_⟩
      have:=zuo hm hlt hfc hn hrec w0 H φ w _ _ hargs hr hall
      rw[show first.toArray++vals.toArray++cap.toArray=(first++(vals++cap)).toArray by simp]
      exact this
theorem zdt(hm:P.follows .mixedOrders=true)(hn:zdO P Nt)(hg:zhI P)(n:Nat):zaU P (evN P Nt Mg n):=by
  induction n with
  | zero=>intro w0 H φ w av val args vals _ _ _ hall;exact (zaI hall).elim
  | succ n ih=>exact zs7 hm hn hg ih
end fns
end Go.Eng
