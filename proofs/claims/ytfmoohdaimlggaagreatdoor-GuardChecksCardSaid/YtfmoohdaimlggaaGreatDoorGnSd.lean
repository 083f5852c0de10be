/- A part of the proof that the evaluator in GnC, and the driver in GnZ, answer as the model does; no conditions. -/
import Derived.Test.YtfmoohdaimlggaaGreatDoorGnSc
import Derived.ChangeKeysEq
namespace Go.Eng
open Go.RowKit
variable {P:Program} {w0:World} {H:Hp} {φ:Ph} {c:Kont} {w:World}
def KeyS(P:Program)(kt:TypeId)(n:Nat):Prop:=(∃ k,(tyB P kt).run=some (.int k)∧n=zap k) ∨ ((tyB P kt).run=some .string∧n=9)
def z0G(P:Program)(kt:TypeId)(n:Nat):Prop:=∃ m e k,(tyB P kt).run=some (.array m e)∧(tyB P e).run=some (.int k)∧(szB P e).run=some 1∧n=32+8 * m+zap k
def KeyT(P:Program)(kt:TypeId)(n:Nat):Prop:=KeyS P kt n ∨ z0G P kt n
theorem zfn{kt:TypeId}{n:Nat}(h:zfI P kt=some n):KeyT P kt n:=by
  unfold zfI at h
  split at h
  · rename_i k hk;cases h;exact .inl (.inl ⟨k,hk,rfl⟩)
  · rename_i hk;cases h;exact .inl (.inr ⟨hk,rfl⟩)
  · rename_i m e hk
    split at h
    · rename_i k he hs
      cases h
      refine .inr ⟨m,e,k,hk,he,hs,?_⟩
      show 32+(8 * m+zap k)=_
      omega
    · cases h
  · cases h
theorem KeyS.lt{kt:TypeId}{n:Nat}(h:KeyS P kt n):n<32:=by
  rcases h with⟨k,_,rfl⟩ | ⟨_,rfl⟩
  · have:=zaT k;omega
  · omega
theorem zsZ{n:Nat}{k:AV}(hn:n<32):keyA n k=nbeq k.tag n:=by
  unfold keyA;rw[zaW.2 hn];rfl
theorem zxY{n:Nat}{a b:AV}(hn:n<32):zcD n a b=bi (nbeq a.p b.p) (nbeq a.q b.q) false:=by
  unfold zcD;rw[zaW.2 hn];rfl
theorem KeyT.kt{kt:TypeId}{n:Nat}(h:KeyT P kt n):n<8 ∨ n=9 ∨ 32≤n:=by
  rcases h with (⟨k,_,rfl⟩ | ⟨_,rfl⟩) | ⟨m,e,k,_,_,_,rfl⟩
  · exact .inl (zaT k)
  · exact .inr (.inl rfl)
  · omega
theorem zjB{e:TypeId}{k:IntKind}{cs:List Value}{i:Nat}{v:Value}(he:(tyB P e).run=some (.int k))(hv:cs[i]?=some v):(part e cs.toArray i).run P w=.ok v w :=
  zg3 he (by simp only[zaC,he]) hv
theorem zuA{m n:Nat}{e:TypeId}{k:IntKind}{b:Bool}{cs:List Value}(he:(tyB P e).run=some (.int k))(hs:(szB P e).run=some 1)(hl:cs.length=m){kt:TypeId}(ht:(tyB P kt).run=some (.array m e)) :
    (Instr.checkKey b (n+2) kt (.agg cs.toArray)).run P w=.ok () w:=by
  have key:∀ (is:List Nat),(∀ i ∈ is,i<m)→(forIn is PUnit.unit (fun i _=>do
      let a ← (do let c ← sizeOf e;part e cs.toArray (i * c))
      Instr.checkKey b (n+1) e a
      pure (ForInStep.yield PUnit.unit)):Sem PUnit).run P w=.ok PUnit.unit w:=by
    intro is
    induction is with
    | nil=>intro _;simp
    | cons i is ih =>
      intro hi
      have hlt:i<cs.length:=by rw[hl];exact hi i (by simp)
      have hp:=zjB (P:=P) (w:=w) he (List.getElem?_eq_getElem hlt)
      have hck:(Instr.checkKey b (n+1) e cs[i]).run P w=.ok () w:=by
        simp only[Instr.checkKey,Sem.run_bind,zav he,Result.andThen_ok];rfl
      simp only[List.forIn_cons,Sem.run_bind,zaS hs,Result.andThen_ok,Nat.mul_one,hp,hck,Sem.run_pure']
      exact ih fun j hj=>hi j (by simp[hj])
  rw[show n+2=(n+1)+1 from rfl,Instr.checkKey]
  simp only[Sem.run_bind,zav ht,Result.andThen_ok]
  simp only[Std.Legacy.Range.forIn_eq_forIn_range',Std.Legacy.Range.size,Nat.sub_zero,Nat.add_one_sub_one,Nat.div_one]
  have:=key (List.range' 0 m) (fun i hi=>by simp[List.mem_range'] at hi;omega)
  simp at this
  simp
  rw[this]
  rfl
theorem zqM{kt:TypeId}{n m:Nat}{b:Bool}(h:KeyS P kt n)(v:Value):(Instr.checkKey b (m+1) kt v).run P w=.ok () w:=by
  rcases h with⟨k,hk,_⟩ | ⟨hk,_⟩<;>simp only[Instr.checkKey,Sem.run_bind,zav hk,Result.andThen_ok]<;>rfl
theorem znJ{m c:Nat}{k:AV}{v:Value}(hc:c<8)(hv:VR φ k v)(hk:keyA (32+8 * m+c) k=true):∃ l:List Value,v=.agg l.toArray∧VRs φ k.cs l∧k.cs.length=m∧∀ x ∈ k.cs,x.tag=c:=by
  unfold keyA at hk
  rw[zah.2 (by omega),zag] at hk
  have e1:Nat.div (Nat.sub (32+8 * m+c) 32) 8=m:=by show (32+8 * m+c - 32) / 8=m;omega
  have e2:Nat.mod (32+8 * m+c) 8=c:=by show (32+8 * m+c) % 8=c;omega
  rw[e1,e2] at hk
  cases h15:nbeq k.tag 15
  · rw[h15] at hk;cases hk
  rw[h15,zag] at hk
  cases hl:nbeq (lenL k.cs) m
  · rw[hl] at hk;cases hk
  rw[hl,zag,zcH,List.all_eq_true] at hk
  obtain⟨l,rfl,h1,_⟩:=hv.of_agg (zaa.1 h15)
  have hl:=zaa.1 hl
  rw[zaz] at hl
  exact⟨l,rfl,h1,hl,fun x hx=>zaa.1 (hk x hx)⟩
theorem zeY{kt:TypeId}{n m:Nat}{b:Bool}(h:KeyT P kt n){k:AV}{v:Value}(hv:VR φ k v)(hk:keyA n k=true):(Instr.checkKey b (m+2) kt v).run P w=.ok () w:=by
  rcases h with h | ⟨q,e,kk,ht,he,hs,rfl⟩
  · exact zqM h v
  · obtain⟨l,rfl,h1,h2,_⟩:=znJ (zaT kk) hv hk
    exact zuA he hs (by rw[← h1.length];exact h2) ht
theorem zxZ{kt:TypeId}{n:Nat}{d:TypeDesc}(h:KeyS P kt n)(hd:(tyB P kt).run=some d){a b:AV}{va vb:Value}(ha:VR φ a va)(hb:VR φ b vb)(ta:a.tag=n)(tb:b.tag=n):Instr.sameNow d va vb=some (zcD n b a):=by
  rw[zxY h.lt]
  rcases h with⟨k,hk,rfl⟩ | ⟨hk,rfl⟩<;>rw[hk] at hd<;>cases hd
  · obtain⟨rfl,l1,q1⟩:=ha.of_int (zaT k) ta
    obtain⟨rfl,l2,q2⟩:=hb.of_int (zaT k) tb
    have e:(valI (zap k) a.p == valI (zap k) b.p)=nbeq b.p a.p:=by
      rw[Bool.eq_iff_iff,beq_iff_eq,zaa,zhj (zaT k) l1 l2];exact eq_comm
    simp only[Instr.sameNow,if_true,e,q1,q2]
    cases nbeq b.p a.p<;>rfl
  · obtain⟨p,rfl,e1,q1⟩:=ha.of_str ta
    obtain⟨q,rfl,e2,q2⟩:=hb.of_str tb
    have:((⟨p.toArray⟩:ByteArray) == ⟨q.toArray⟩)=decide (q=p):=by
      show (p.toArray == q.toArray)=_
      rw[Bool.eq_iff_iff,beq_iff_eq,decide_eq_true_eq];simp[eq_comm]
    simp only[Instr.sameNow,this,← zj9,e1,e2,q1,q2]
    cases nbeq q.length p.length<;>cases nbeq (zaJ q) (zaJ p)<;>rfl
theorem zkD(n:Nat)(k e:AV)(as:List AV):zcp n k (e::as)=bi (zcD n (nthL e.cs 0) k) (some (nthL e.cs 1)) (zcp n k as):=rfl
theorem zmd(n:Nat)(k v e:AV)(as:List AV):updE n k v (e::as)=bi (zcD n (nthL e.cs 0) k) (entV e.p k v::as) (e::updE n k v as):=rfl
theorem ziD(n:Nat)(k e:AV)(as:List AV):delE n k (e::as)=bi (zcD n (nthL e.cs 0) k) as (e::delE n k as):=rfl
def Finds(P:Program)(w:World)(n:Nat)(φ:Ph)(k:AV)(ek:Value)(F:List MapEntry→Nat→Option (Nat × Value)→Prop):Prop :=
  (∀ i,F [] i none)∧∀ (k':AV) (ek' ev':Value) (b:Nat) (es:List MapEntry) (i:Nat),VR φ k' ek'→keyA n k'=true →
    (zcD n k' k=true→F (⟨ek',ev',b⟩::es) i (some (i,ev'))∧Instr.sameBits 10000 ek' ek=true)∧(zcD n k' k=false→∀ r,F es (i+1) r→F (⟨ek',ev',b⟩::es) i r)
theorem znK{n ck:Nat}{k:AV}{ek:Value}{F:List MapEntry→Nat→Option (Nat × Value)→Prop}(hF:Finds P w n φ k ek F)(hk:VR φ k ek)(tk:keyA n k=true){as:List AV}{es:List MapEntry}(he:Ents φ n ck as es):∀ i,
    (zcp n k as=none∧F es i none) ∨
    ∃ v j ev ee,zcp n k as=some v∧F es i (some (i+j,ev))∧es[j]?=some ee∧ee.val=ev∧VR φ v ev∧Instr.sameBits 10000 ee.key ek=true ∧
      (∀ x ex,VR φ x ex→Ents φ n ck (updE n k x as) (es.modify j fun e=>{ e with key:=ek,val:=ex }))∧Ents φ n ck (delE n k as) (es.eraseIdx j)∧zjP n k as=ee.born:=by
  induction he with
  | nil=>intro i;exact .inl ⟨rfl,hF.1 i⟩
  | @cons b q r s k' v' ek' ev' as es h1 h2 h3 h4 h5 ih =>
    intro i
    obtain⟨hs1,hs2⟩:=hF.2 k' ek' ev' b es i h1 h2
    rw[zkD]
    have n0:nthL [k',v'] 0=k':=rfl
    have n1:nthL [k',v'] 1=v':=rfl
    rw[n0,n1]
    cases hb:zcD n k' k
    · rcases ih (i+1) with⟨f1,f2⟩ | ⟨v,j,ev,ee,f1,f2,f3,f4,f5,f6,f7,f8,f9⟩
      · exact .inl ⟨f1,hs2 hb _ f2⟩
      · right
        refine⟨v,j+1,ev,ee,f1,?_,by simpa using f3,f4,f5,f6,?_,?_,?_⟩
        · have:=hs2 hb _ f2
          rw[show i+(j+1)=i+1+j by omega];exact this
        · intro x ex hx
          rw[zmd,n0,hb]
          exact .cons h1 h2 h3 h4 (f7 x ex hx)
        · rw[ziD,n0,hb]
          exact .cons h1 h2 h3 h4 f8
        · show bi (zcD n k' k) b (zjP n k as)=_
          rw[hb];exact f9
    · right
      obtain⟨g1,g2⟩:=hs1 hb
      refine⟨v',0,ev',⟨ek',ev',b⟩,rfl,g1,rfl,rfl,h3,g2,?_,?_,?_⟩
      · intro x ex hx
        rw[zmd,n0,hb]
        exact .cons hk tk hx h4 h5
      · rw[ziD,n0,hb]
        exact h5
      · show bi (zcD n k' k) b (zjP n k as)=_
        rw[hb];rfl
theorem zow{d:TypeDesc}{a b:Value}(h:Instr.sameNow d a b=some true):Instr.sameBits 10000 b a=true:=by
  cases d<;>cases a<;>cases b<;>simp only[Instr.sameNow,reduceCtorEq,Option.some.injEq] at h
  case int.int.int k x y z u =>
    split at h
    · rename_i hk;subst hk
      have:=Option.some.inj h
      rw[beq_iff_eq] at this;subst this
      simp[Instr.sameBits]
    · cases h
  case bool.bool.bool=>rw[beq_iff_eq] at h;subst h;simp[Instr.sameBits]
  case string.string.string x y =>
    have:(x.data == y.data)=true:=h
    rw[beq_iff_eq] at this
    have e:x=y:=ByteArray.ext this
    subst e
    show (x.data == x.data)=true
    simp
theorem zya{kt:TypeId}{n:Nat}{d:TypeDesc}(h:KeyS P kt n)(hd:(tyB P kt).run=some d){k:AV}{ek:Value}(hk:VR φ k ek)(tk:keyA n k=true):Finds P w n φ k ek fun es i r=>Instr.findNow d ek es i=some r:=by
  rw[zsZ h.lt] at tk
  refine⟨fun _=>rfl,fun k' ek' ev' b es i h1 h2=>?_⟩
  rw[zsZ h.lt] at h2
  have hs:=zxZ h hd hk h1 (zaa.1 tk) (zaa.1 h2)
  refine⟨fun hb=>?_,fun hb r hr=>?_⟩
  · rw[hb] at hs
    exact⟨by simp only[Instr.findNow,hs],zow hs⟩
  · rw[hb] at hs
    simp only[Instr.findNow,hs];exact hr
theorem zqN{d c:Nat}{e:TypeId}{kk:IntKind}(hc:c=zap kk)(he:(tyB P e).run=some (.int kk)){X Y:List AV}{xs ys:List Value}(hX:VRs φ X xs)(hY:VRs φ Y ys)(tX:∀ a ∈ X,a.tag=c)(tY:∀ a ∈ Y,a.tag=c)(hlen:X.length=Y.length)(m:Nat):∀ i,i+m=X.length →
    (Op.eqItems (d+1) e 1 xs.toArray ys.toArray (List.range' i m)).run P w=.ok (zgi (Y.drop i) (X.drop i)) w:=by
  induction m with
  | zero =>
    intro i hi
    rw[List.drop_of_length_le (by omega),List.drop_of_length_le (by omega)]
    rfl
  | succ m ih =>
    intro i hi
    have h1:i<X.length:=by omega
    have h2:i<Y.length:=by omega
    obtain⟨v,hv,hvr⟩:=hX.get (List.getElem?_eq_getElem h1)
    obtain⟨u,hu,hur⟩:=hY.get (List.getElem?_eq_getElem h2)
    have hc8:c<8:=by rw[hc];exact zaT kk
    obtain⟨ev,l1,_⟩:=hvr.of_int hc8 (tX _ (List.getElem_mem h1))
    obtain⟨eu,l2,_⟩:=hur.of_int hc8 (tY _ (List.getElem_mem h2))
    rw[List.range'_succ]
    have p1:=zjB (P:=P) (w:=w) he hv
    have p2:=zjB (P:=P) (w:=w) he hu
    have eq1:(Op.equalIn (d+1) e v u).run P w=.ok (nbeq Y[i].p X[i].p) w:=by
      have e0:(valI c X[i].p == valI c Y[i].p)=nbeq Y[i].p X[i].p:=by
        rw[Bool.eq_iff_iff,beq_iff_eq,zaa,zhj hc8 l1 l2];exact eq_comm
      rw[ev,eu]
      simp only[Op.equalIn,Sem.run_bind,zav he,Result.andThen_ok,if_true,Sem.run_pure',e0]
    have hd1:X.drop i=X[i]::X.drop (i+1):=List.drop_eq_getElem_cons h1
    have hd2:Y.drop i=Y[i]::Y.drop (i+1):=List.drop_eq_getElem_cons h2
    rw[hd1,hd2]
    have e3:zgi (Y[i]::Y.drop (i+1)) (X[i]::X.drop (i+1))=bi (nbeq Y[i].p X[i].p) (zgi (Y.drop (i+1)) (X.drop (i+1))) false:=rfl
    rw[e3]
    simp only[Op.eqItems,Sem.run_bind,Nat.mul_one,p1,p2,Result.andThen_ok,eq1]
    cases hb:nbeq Y[i].p X[i].p
    · simp[bi]
    · simp only[Bool.not_true,Bool.false_eq_true,if_false,zag]
      exact ih (i+1) (by omega)
theorem zuB{c:Nat}(hc:c<8):∀ {X Y:List AV} {xs ys:List Value},VRs φ X xs→VRs φ Y ys→(∀ a ∈ X,a.tag=c)→(∀ a ∈ Y,a.tag=c)→zgi X Y=true→xs=ys∧∀ n,(xs.zip ys).all (fun (p:Value × Value)=>Instr.sameBits n p.1 p.2)=true:=by
  intro X
  induction X with
  | nil=>intro Y xs ys hX hY _ _ h;cases hX;cases Y with
    | nil=>cases hY;exact⟨rfl,fun _=>rfl⟩
    | cons _ _=>cases h
  | cons a X ih=>intro Y xs ys hX hY tX tY h;cases Y with
    | nil=>cases h
    | cons b Y=>cases hX with
      | cons h1 h2=>cases hY with
        | cons h3 h4 =>
          have h':bi (nbeq a.p b.p) (zgi X Y) false=true:=h
          cases hb:nbeq a.p b.p
          · rw[hb] at h';cases h'
          · rw[hb,zag] at h'
            obtain⟨e1,e2⟩:=ih h2 h4 (fun x hx=>tX x (by simp[hx])) (fun x hx=>tY x (by simp[hx])) h'
            obtain⟨e3,_,_⟩:=h1.of_int hc (tX a (by simp))
            obtain⟨e4,_,_⟩:=h3.of_int hc (tY b (by simp))
            rw[zaa.1 hb] at e3
            refine⟨by rw[e1,e3,e4],fun n=>?_⟩
            rw[List.zip_cons_cons,List.all_cons,e2 n,e3,e4]
            cases n<;>simp[Instr.sameBits]
theorem zyb{kt e:TypeId}{m:Nat}{kk:IntKind}(ht:(tyB P kt).run=some (.array m e))(he:(tyB P e).run=some (.int kk))(hs:(szB P e).run=some 1){k:AV}{ek:Value}(hk:VR φ k ek)(tk:keyA (32+8 * m+zap kk) k=true) :
    Finds P w (32+8 * m+zap kk) φ k ek fun es i r=>(Instr.findAsking kt ek es i).run P w=.ok r w:=by
  obtain⟨xs,rfl,hX,lX,tX⟩:=znJ (zaT kk) hk tk
  refine⟨fun _=>rfl,fun k' ek' ev' b es i h1 h2=>?_⟩
  obtain⟨ys,rfl,hY,lY,tY⟩:=znJ (zaT kk) h1 h2
  obtain⟨ie,hie,hsz⟩:=Option.map_eq_some_iff.1 (show (P.info? e).map (·.size)=some 1 from hs)
  have hcells:P.cellsOf e=1:=by simp[Program.cellsOf,hie,hsz]
  have hsame:zcD (32+8 * m+zap kk) k' k=zgi k'.cs k.cs:=by
    unfold zcD;rw[zah.2 (by omega)];rfl
  have heq:(Op.equal kt (.agg xs.toArray) (.agg ys.toArray)).run P w=.ok (zgi k'.cs k.cs) w:=by
    unfold Op.equal Op.maxDepth
    rw[show (10000:Nat)=9999+1 from rfl,run_equalIn_array (w:=w) 9999 xs.toArray ys.toArray ht hie,hcells,List.range_eq_range']
    have:=zqN (P:=P) (w:=w) (d:=9998) rfl he hX hY tX tY (by rw[lX,lY]) m 0 (by omega)
    simpa using this
  rw[hsame]
  refine⟨fun hb=>?_,fun hb r hr=>?_⟩
  · rw[hb] at heq
    refine⟨by simp only[Instr.findAsking,Sem.run_bind,heq,Result.andThen_ok,if_true,Sem.run_pure'],?_⟩
    obtain⟨e1,e2⟩:=zuB (zaT kk) hY hX tY tX hb
    rw[show (10000:Nat)=9999+1 from rfl]
    simp only[Instr.sameBits]
    rw[Bool.and_eq_true]
    refine⟨by simp[e1],?_⟩
    exact e2 9999
  · rw[hb] at heq
    simp only[Instr.findAsking,Sem.run_bind,heq,Result.andThen_ok,Bool.false_eq_true,if_false]
    exact hr
theorem zeZ{kt:TypeId}{d:TypeDesc}(hd:(tyB P kt).run=some d){k:Value}{es:List MapEntry}{r:Option (Nat × Value)}(h:Instr.findNow d k es 0=some r):(Instr.findKey kt k es).run P w=.ok r w:=by
  simp only[Instr.findKey,Sem.run_bind,zav hd,Result.andThen_ok,h];rfl
theorem KeyT.desc{kt:TypeId}{n:Nat}(h:KeyT P kt n):∃ d,(tyB P kt).run=some d:=by
  rcases h with (⟨k,hk,_⟩ | ⟨hk,_⟩) | ⟨_,_,_,hk,_⟩<;>exact⟨_,hk⟩
theorem zjn{kt:TypeId}{n ck:Nat}(h:KeyT P kt n){k:AV}{ek:Value}(hk:VR φ k ek)(tk:keyA n k=true){as:List AV}{es:List MapEntry}(he:Ents φ n ck as es) :
    (zcp n k as=none∧(Instr.findKey kt ek es).run P w=.ok none w) ∨
    ∃ v j ev ee,zcp n k as=some v∧(Instr.findKey kt ek es).run P w=.ok (some (j,ev)) w∧es[j]?=some ee∧ee.val=ev∧VR φ v ev∧Instr.sameBits 10000 ee.key ek=true ∧
      (∀ x ex,VR φ x ex→Ents φ n ck (updE n k x as) (es.modify j fun e=>{ e with key:=ek,val:=ex }))∧Ents φ n ck (delE n k as) (es.eraseIdx j)∧zjP n k as=ee.born:=by
  obtain⟨d,hd⟩:=h.desc
  rcases h with h | ⟨m,e,kk,ht,het,hs,rfl⟩
  · rcases znK (zya (w:=w) h hd hk tk) hk tk he 0 with⟨f1,f2⟩ | ⟨v,j,ev,ee,f1,f2,f3⟩
    · exact .inl ⟨f1,zeZ hd f2⟩
    · rw[Nat.zero_add] at f2
      exact .inr ⟨v,j,ev,ee,f1,zeZ hd f2,f3⟩
  · have hask:∀ r,(Instr.findAsking kt ek es 0).run P w=.ok r w→(Instr.findKey kt ek es).run P w=.ok r w:=by
      intro r hr
      rw[ht] at hd;cases hd
      cases es with
      | nil =>
        simp only[Instr.findAsking,Sem.run_pure'] at hr
        cases hr
        exact zeZ ht rfl
      | cons x es =>
        have hn:Instr.findNow (.array m e) ek (x::es) 0=none:=by
          have:Instr.sameNow (.array m e) ek x.key=none:=rfl
          simp only[Instr.findNow,this]
        simp only[Instr.findKey,Sem.run_bind,zav ht,Result.andThen_ok,hn]
        exact hr
    rcases znK (zyb (w:=w) ht het hs hk tk) hk tk he 0 with⟨f1,f2⟩ | ⟨v,j,ev,ee,f1,f2,f3⟩
    · exact .inl ⟨f1,hask _ f2⟩
    · rw[Nat.zero_add] at f2
      exact .inr ⟨v,j,ev,ee,f1,hask _ f2,f3⟩
theorem zc0{x:Nat}{es:List MapEntry}{ck:Nat}(h:w.heap[x]?=some (.map es.toArray ck)):(getObj x).run P w=.ok (.map es.toArray ck) w:=by
  simp only[getObj,Sem.run,h]
theorem zhl{a b:AV}{va vb:Value}(ha:VR φ a va)(hb:VR φ b vb):VR φ (tupV [a,b]) (.tuple #[va,vb]):=.tup 0 0 0 0 [a,b] [va,vb] (.cons ha (.cons hb .nil))
theorem zjC{t kt e:TypeId}{n:Nat}{z:AV}{ok:Bool}{m k:AV}{vm vk:Value}(ht:(tyB P t).run=some (.map kt e))(hk:KeyT P kt n)(hz:(zeB P e).run=some z)(hm:VR φ m vm)(hvk:VR φ k vk)(hr:HR P w0 H φ w)
    (hok:AllOk ((zfs n z ok).run m k H c)):Out P w0 (fun v w'=>(Instr.lookup t vm vk ok).run P w=.ok v w') H φ ((zfs n z ok).run m k H c) c:=by
  obtain⟨i,zv,hi,hzv,hzr,_⟩:=zeg hz
  obtain⟨d,hd⟩:=hk.desc
  have fin:∀ (o:Option AV) (r:Option (Nat × Value)),((o=none∧r=none) ∨ ∃ v j ev,o=some v∧r=some (j,ev)∧VR φ v ev) →
      (∀ (val:Value) (b:Bool),((r=none∧val=zv∧b=false) ∨ ∃ j,r=some (j,val)∧b=true) →
        (Instr.lookup t vm vk ok).run P w=.ok (if ok then .tuple #[val,.bool b] else val) w) →
      Out P w0 (fun v w'=>(Instr.lookup t vm vk ok).run P w=.ok v w') H φ (c H (zeR ok o z)) c:=by
    intro o r ho hrun
    rcases ho with⟨rfl,rfl⟩ | ⟨v,j,ev,rfl,rfl,hv⟩
    · have:=hrun zv false (.inl ⟨rfl,rfl,rfl⟩)
      cases ok
      · exact Out.same hr (hzr φ) this
      · exact Out.same hr (zhl (hzr φ) (zb7 false)) this
    · have:=hrun ev true (.inr ⟨j,rfl,rfl⟩)
      cases ok
      · exact Out.same hr hv this
      · exact Out.same hr (zhl hv (zb7 true)) this
  have hck:=fun (b:Bool) (h:keyA n k=true)=>zeY (P:=P) (w:=w) (m:=9998) (b:=b) hk hvk h
  refine Out.bi2 hok (fun g0 hok=>Out.bi hok fun g1 hok=>Out.bi hok fun g2 hok=>Out.bi hok fun g3 _=>?_) fun _ hok=>Out.bi hok fun g0 hok=>Out.bi hok fun g3 _=>?_
  · obtain⟨x,rfl,hx⟩:=hm.of_map (zaa.1 g0)
    obtain⟨_,_,o,ho,hB⟩:=hr.blk _ _ hx
    obtain⟨es,rfl,hes,_⟩:=hB.map (zaa.1 g1)
    rw[zaa.1 g2] at hes
    have hrun:∀ (r:Option (Nat × Value)),(Instr.findKey kt vk es).run P w=.ok r w→∀ (val:Value) (b:Bool),((r=none∧val=zv∧b=false) ∨ ∃ j,r=some (j,val)∧b=true) →
        (Instr.lookup t (.map (some x)) vk ok).run P w=.ok (if ok then .tuple #[val,.bool b] else val) w:=by
      intro r hf val b hmid
      unfold Instr.lookup
      simp only[Sem.run_bind,zav ht,Result.andThen_ok,zc0 ho,Sem.run_pure']
      rw[show (10000:Nat)=9998+2 from rfl,hck _ g3]
      simp only[Result.andThen_ok,hf]
      rcases hmid with⟨rfl,rfl,rfl⟩ | ⟨j,rfl,rfl⟩
      · simp only[Sem.run_bind,zeM hi hzv,Result.andThen_ok,Sem.run_pure']
      · simp only[Sem.run_bind,Result.andThen_ok,Sem.run_pure']
    rcases zjn (w:=w) hk hvk g3 hes with⟨f1,f2⟩ | ⟨v,j,ev,ee,f1,f2,_,_,f5,_⟩
    · exact fin _ none (.inl ⟨f1,rfl⟩) (hrun _ f2)
    · exact fin _ _ (.inr ⟨v,_,ev,f1,rfl,f5⟩) (hrun _ f2)
  · have:=hm.isNil g0;simp only at this;subst this
    refine fin none none (.inl ⟨rfl,rfl⟩) fun val b hmid=>?_
    have hf:=zeZ (P:=P) (w:=w) hd (k:=vk) (es:=[]) (r:=none) rfl
    unfold Instr.lookup
    simp only[Sem.run_bind,zav ht,Result.andThen_ok,Sem.run_pure']
    rw[show (10000:Nat)=9998+2 from rfl,hck _ g3]
    simp only[Result.andThen_ok,hf]
    rcases hmid with⟨_,rfl,rfl⟩ | ⟨j,h,_⟩
    · simp only[Sem.run_bind,zeM hi hzv,Result.andThen_ok,Sem.run_pure']
    · cases h
theorem Ents.snoc{n ck b:Nat}{as:List AV}{es:List MapEntry}(he:Ents φ n ck as es){k v:AV}{ek ev:Value}(hk:VR φ k ek)(tk:keyA n k=true)(hv:VR φ v ev)(hb:ck≤b):Ents φ n (b+1) (as++[entV b k v]) (es++[⟨ek,ev,b⟩]):=by
  induction he with
  | nil=>exact .cons hk tk hv (by omega) .nil
  | cons h1 h2 h3 h4 _ ih=>exact .cons h1 h2 h3 (by omega) ih
theorem zbZ{x:Nat}{o:Obj}(o':Obj)(h:w.heap[x]?=some o):({ w with heap:=w.heap.setIfInBounds x o' }:World).heap[x]?=some o'∧(∀ k,k ≠ x→({ w with heap:=w.heap.setIfInBounds x o' }:World).heap[k]?=w.heap[k]?)∧({ w with heap:=w.heap.setIfInBounds x o' }:World).heap.size=w.heap.size:=by
  have hlt:=(Array.getElem?_eq_some_iff.1 h).1
  refine⟨by simp[hlt],fun k hk=>?_,by simp⟩
  simp[Array.getElem?_setIfInBounds,Ne.symm hk]
theorem zcW{x:Nat}{o:Obj}(o':Obj)(h:w.heap[x]?=some o)(hc:∀ a b f,o ≠ .cells a b f):(setObj x o').run P w=.ok () { w with heap:=w.heap.setIfInBounds x o' }:=by
  cases o<;>first | exact absurd rfl (hc _ _ _) | simp[setObj,Sem.run,h]
theorem zqO{t kt e:TypeId}{n:Nat}{m k x:AV}{vm vk vx:Value}(ht:(tyB P t).run=some (.map kt e))(hk:KeyT P kt n)(hm:VR φ m vm)(hvk:VR φ k vk)(hx:VR φ x vx)(hr:HR P w0 H φ w)
    (hok:AllOk ((zkV n).run m k x H c)):Out P w0 (fun v w'=>(Instr.mapUpdate t vm vk vx).run P w=.ok () w'∧v=undef) H φ ((zkV n).run m k x H c) c:=by
  obtain⟨d,hd⟩:=hk.desc
  refine Out.bi hok fun g0 hok=>Out.bi hok fun g1 hok=>Out.bi hok fun g2 hok=>Out.bi hok fun g3 hok=>?_
  obtain⟨y,rfl,hy⟩:=hm.of_map (zaa.1 g0)
  obtain⟨_,_,o,ho,hB⟩:=hr.blk _ _ hy
  obtain⟨es,rfl,hes,hkt⟩:=hB.map (zaa.1 g1)
  have g2':=zaa.1 g2
  rw[g2'] at hes hkt
  have hck:=zeY (P:=P) (w:=w) (m:=9998) (b:=false) hk hvk g3
  have hk2:(hget H m.p).kind ≠ 0:=by rw[zaa.1 g1];decide
  have hk5:(hget H m.p).kind ≠ 5:=by rw[zaa.1 g1];decide
  have hk7:(hget H m.p).kind ≠ 7:=by rw[zaa.1 g1];decide
  have base:∀ (rest:Sem Unit) (r:Option (Nat × Value)),(Instr.findKey kt vk es).run P w=.ok r w →
      (match r with | some (i,_)=>(do let key ← Instr.keyThatStays (((es.toArray[i]?).map (·.key)).getD vk) vk;setObj y (.map (es.toArray.modify i fun e=>{ e with key,val:=vx }) (hget H m.p).e):Sem Unit) | none=>setObj y (.map (es.toArray.push { key:=vk,val:=vx,born:=(hget H m.p).e }) ((hget H m.p).e+1)))=rest →
      (Instr.mapUpdate t (.map (some y)) vk vx).run P w=rest.run P w:=by
    intro rest r hf hrest
    unfold Instr.mapUpdate
    simp only[Sem.run_bind,zav ht,Result.andThen_ok,zc0 ho]
    rw[show (10000:Nat)=9998+2 from rfl,hck]
    simp only[Result.andThen_ok,hf]
    rw[← hrest]
    cases r<;>rfl
  rcases zjn (w:=w) hk hvk g3 hes with⟨f1,f2⟩ | ⟨v,j,ev,ee,f1,f2,f3,f4,f5,f6,f7,_⟩
  · have hset:zd5 (hget H m.p) k x=⟨2,(hget H m.p).t,Nat.succ (hget H m.p).e,appL (hget H m.p).cs [entV (hget H m.p).e k x]⟩:=by unfold zd5 clkE putE;rw[g2',f1];rfl
    rw[hset] at hok ⊢
    obtain⟨s1,s2,s3⟩:=zbZ (w:=w) (.map (es++[(⟨vk,vx,(hget H m.p).e⟩:MapEntry)]).toArray ((hget H m.p).e+1)) ho
    refine Out.set (x:=y) (w':={ w with heap:=w.heap.setIfInBounds y (.map (es++[(⟨vk,vx,(hget H m.p).e⟩:MapEntry)]).toArray ((hget H m.p).e+1)) }) hr hy hk2 ?_ (.ud _ _ _ _ _) ⟨?_,rfl⟩ s1 s2 s3 rfl rfl rfl hok (fun h=>absurd h hk5)
    · refine⟨(fun h=>by cases h),fun _=>⟨_,rfl,?_,by rw[g2'];exact hkt⟩,(fun h=>by cases h),(fun h=>by exact no42 h)⟩
      show Ents φ (hget H m.p).t (Nat.succ (hget H m.p).e) (appL _ _) _
      rw[zaV,g2']
      exact hes.snoc hvk g3 hx (Nat.le_refl _)
    · rw[base _ none f2 rfl,zcW _ ho (fun _ _ _ h=>by cases h)]
      simp
  · have hset:zd5 (hget H m.p) k x=⟨2,(hget H m.p).t,(hget H m.p).e,updE n k x (hget H m.p).cs⟩:=by unfold zd5 clkE putE;rw[g2',f1];rfl
    rw[hset] at hok ⊢
    obtain⟨s1,s2,s3⟩:=zbZ (w:=w) (.map (es.modify j fun e=>{ e with key:=vk,val:=vx }).toArray (hget H m.p).e) ho
    refine Out.set (x:=y) (w':={ w with heap:=w.heap.setIfInBounds y (.map (es.modify j fun e=>{ e with key:=vk,val:=vx }).toArray (hget H m.p).e) }) hr hy hk2 ?_ (.ud _ _ _ _ _) ⟨?_,rfl⟩ s1 s2 s3 rfl rfl rfl hok (fun h=>absurd h hk5)
    · refine⟨(fun h=>by cases h),fun _=>⟨_,rfl,?_,by rw[g2'];exact hkt⟩,(fun h=>by cases h),(fun h=>by exact no42 h)⟩
      show Ents φ (hget H m.p).t (hget H m.p).e (updE n k x _) _
      rw[g2']
      exact f7 x vx hx
    · rw[base _ _ f2 rfl]
      have hkey:(Instr.keyThatStays (((es.toArray[j]?).map (·.key)).getD vk) vk).run P w=.ok vk w:=by
        have:((es.toArray[j]?).map (·.key)).getD vk=ee.key:=by simp[f3]
        rw[this]
        unfold Instr.keyThatStays
        rw[if_pos f6];rfl
      simp only[Sem.run_bind,hkey,Result.andThen_ok]
      rw[zcW _ ho (fun _ _ _ h=>by cases h)]
      simp
theorem zyc{t kt e:TypeId}{n:Nat}{ty:TypeId}{tys:Array TypeId}{m k:AV}{vm vk:Value}(ht0:tys[0]?=some t)(ht:(tyB P t).run=some (.map kt e))(hk:KeyT P kt n)(hm:VR φ m vm)(hvk:VR φ k vk)(hr:HR P w0 H φ w)
    (hok:AllOk ((delC n).run m k H c)):Out P w0 (fun v w'=>(Builtin.delete_ tys ty #[vm,vk]).run P w=.ok v w') H φ ((delC n).run m k H c) c:=by
  obtain⟨d,hd⟩:=hk.desc
  refine Out.bi hok fun g0 hok=>Out.bi hok fun g1 hok=>Out.bi hok fun g2 hok=>Out.bi hok fun g3 hok=>?_
  obtain⟨y,rfl,hy⟩:=hm.of_map (zaa.1 g0)
  obtain⟨_,_,o,ho,hB⟩:=hr.blk _ _ hy
  obtain⟨es,rfl,hes,hkt⟩:=hB.map (zaa.1 g1)
  have g2':=zaa.1 g2
  rw[g2'] at hes hkt
  have hck:=zeY (P:=P) (w:=w) (m:=9998) (b:=es.toArray.isEmpty) hk hvk g3
  have hk2:(hget H m.p).kind ≠ 0:=by rw[zaa.1 g1];decide
  have hk5:(hget H m.p).kind ≠ 5:=by rw[zaa.1 g1];decide
  have hk7:(hget H m.p).kind ≠ 7:=by rw[zaa.1 g1];decide
  have h1:(#[Value.map (some y),vk]:Array Value)[0]?=some (.map (some y)):=rfl
  have h2:(#[Value.map (some y),vk]:Array Value)[1]?=some vk:=rfl
  have base:∀ (r:Option (Nat × Value)),(Instr.findKey kt vk es).run P w=.ok r w →
      (Builtin.delete_ tys ty #[.map (some y),vk]).run P w=((match r with | some (i,_)=>setObj y (.map (es.toArray.eraseIdxIfInBounds i) (hget H m.p).e) | none=>setObj y (.map es.toArray (hget H m.p).e):Sem Unit).run P w).andThen fun _ w'=>.ok (.tuple #[]) w':=by
    intro r hf
    unfold Builtin.delete_
    simp only[ht0,h1,h2,Sem.run_bind,zav ht,Result.andThen_ok,zc0 ho]
    rw[show (10000:Nat)=9998+2 from rfl,hck]
    simp only[Result.andThen_ok,hf]
    cases r<;>simp only[Sem.run_bind,Sem.run_pure']
  have hv0:VR φ (tupV []) (.tuple #[]):=.tup 0 0 0 0 [] [] .nil
  rcases zjn (w:=w) hk hvk g3 hes with⟨f1,f2⟩ | ⟨v,j,ev,ee,f1,f2,f3,f4,f5,f6,_,f8,_⟩
  · have hdel:delE n k (hget H m.p).cs=(hget H m.p).cs:=by
      clear hok f2 hes
      revert f1
      generalize (hget H m.p).cs=as
      induction as with
      | nil=>intro _;rfl
      | cons a as ih =>
        intro f1
        rw[zkD] at f1
        rw[ziD]
        cases hs:zcD n (nthL a.cs 0) k
        · rw[hs,zai] at f1
          rw[zai,ih f1]
        · rw[hs] at f1;cases f1
    obtain⟨s1,s2,s3⟩:=zbZ (w:=w) (.map es.toArray (hget H m.p).e) ho
    refine Out.set (x:=y) (w':={ w with heap:=w.heap.setIfInBounds y (.map es.toArray (hget H m.p).e) }) hr hy hk2 ?_ hv0 ?_ s1 s2 s3 rfl rfl rfl hok (fun h=>absurd h hk5)
    · refine⟨(fun h=>by cases h),fun _=>⟨es,rfl,?_,by rw[g2'];exact hkt⟩,(fun h=>by cases h),(fun h=>by exact no42 h)⟩
      show Ents φ (hget H m.p).t (hget H m.p).e (delE n k _) _
      rw[g2',hdel];exact hes
    · rw[base none f2,zcW _ ho (fun _ _ _ h=>by cases h)];rfl
  · obtain⟨s1,s2,s3⟩:=zbZ (w:=w) (.map (es.eraseIdx j).toArray (hget H m.p).e) ho
    refine Out.set (x:=y) (w':={ w with heap:=w.heap.setIfInBounds y (.map (es.eraseIdx j).toArray (hget H m.p).e) }) hr hy hk2 ?_ hv0 ?_ s1 s2 s3 rfl rfl rfl hok (fun h=>absurd h hk5)
    · refine⟨(fun h=>by cases h),fun _=>⟨_,rfl,?_,by rw[g2'];exact hkt⟩,(fun h=>by cases h),(fun h=>by exact no42 h)⟩
      show Ents φ (hget H m.p).t (hget H m.p).e (delE n k _) _
      rw[g2'];exact f8
    · rw[base _ f2]
      simp only[]
      rw[zcW _ ho (fun _ _ _ h=>by cases h)]
      have:es.toArray.eraseIdxIfInBounds j=(es.eraseIdx j).toArray:=by simp
      rw[this];rfl
theorem zta{n:Nat}(h:n≤1000000):VR φ (mk1 3 n) (goInt n):=by
  have hv:=zck (φ:=φ) (k:=3) (p:=n) (by omega) (by rw[zi7];omega)
  rw[zbs (by rw[zc5];omega)] at hv
  exact hv
theorem Ents.born_lt{kt ck:Nat}{as:List AV}{es:List MapEntry}(he:Ents φ kt ck as es):∀ e ∈ es,e.born<ck:=by
  induction he with
  | nil=>intro e h;cases h
  | cons _ _ _ h4 _ ih =>
    intro e h
    cases h with
    | head=>exact h4
    | tail _ h=>exact ih e h
theorem zqP{t kt e:TypeId}{n:Nat}{z:AV}{m k:AV}{vm vk:Value}(ht:(tyB P t).run=some (.map kt e))(hk:KeyT P kt n)(hz:(zeB P e).run=some z)(hm:VR φ m vm)(hvk:VR φ k vk)(hr:HR P w0 H φ w)
    (hok:AllOk ((zkW n z).run m k H c)):Out P w0 (fun v w'=>(Instr.mapEntry t vm vk).run P w=.ok v w') H φ ((zkW n z).run m k H c) c:=by
  obtain⟨i,zv,hi,hzv,hzr,_⟩:=zeg hz
  obtain⟨d,hd⟩:=hk.desc
  refine Out.bi hok fun g0 hok=>Out.bi hok fun g1 hok=>Out.bi hok fun g2 hok=>Out.bi hok fun g3 hok=>Out.bi hok fun g4 hok=>?_
  have g4:=zah.1 g4
  obtain⟨y,rfl,hy⟩:=hm.of_map (zaa.1 g0)
  obtain⟨_,_,o,ho,hB⟩:=hr.blk _ _ hy
  obtain⟨es,rfl,hes,hkt⟩:=hB.map (zaa.1 g1)
  have g2':=zaa.1 g2
  rw[g2'] at hes hkt
  have hck:=zeY (P:=P) (w:=w) (m:=9998) (b:=false) hk hvk g3
  have hk2:(hget H m.p).kind ≠ 0:=by rw[zaa.1 g1];decide
  have hk5:(hget H m.p).kind ≠ 5:=by rw[zaa.1 g1];decide
  have hk7:(hget H m.p).kind ≠ 7:=by rw[zaa.1 g1];decide
  have base:∀ (r:Option (Nat × Value)),(Instr.findKey kt vk es).run P w=.ok r w →
      (Instr.mapEntry t (.map (some y)) vk).run P w=(match r with
        | some (i,v)=>(do let key ← Instr.keyThatStays (((es.toArray[i]?).map fun (e:MapEntry)=>e.key).getD vk) vk;setObj y (.map (es.toArray.modify i fun e=>{ e with key }) (hget H m.p).e);pure (.tuple #[v,goInt (((es.toArray[i]?).map fun (e:MapEntry)=>(e.born:Int)).getD 0)]):Sem Value)
        | none=>(do let zero ← zeroValue e;setObj y (.map (es.toArray.push { key:=vk,val:=zero,born:=(hget H m.p).e }) ((hget H m.p).e+1));pure (.tuple #[zero,goInt (hget H m.p).e]):Sem Value)).run P w:=by
    intro r hf
    unfold Instr.mapEntry
    simp only[Sem.run_bind,zav ht,Result.andThen_ok,zc0 ho]
    rw[show (10000:Nat)=9998+2 from rfl,hck]
    simp only[Result.andThen_ok,hf]
    cases r<;>rfl
  rcases zjn (w:=w) hk hvk g3 hes with⟨f1,f2⟩ | ⟨v,j,ev,ee,f1,f2,f3,f4,f5,f6,f7,_,f9⟩
  · have hset:zd5 (hget H m.p) k z=⟨2,(hget H m.p).t,Nat.succ (hget H m.p).e,appL (hget H m.p).cs [entV (hget H m.p).e k z]⟩:=by unfold zd5 clkE putE;rw[g2',f1];rfl
    rw[f1,zfD,hset] at hok ⊢
    obtain⟨s1,s2,s3⟩:=zbZ (w:=w) (.map (es++[(⟨vk,zv,(hget H m.p).e⟩:MapEntry)]).toArray ((hget H m.p).e+1)) ho
    refine Out.set (x:=y) (val:=.tuple #[zv,goInt (hget H m.p).e]) (w':={ w with heap:=w.heap.setIfInBounds y (.map (es++[(⟨vk,zv,(hget H m.p).e⟩:MapEntry)]).toArray ((hget H m.p).e+1)) }) hr hy hk2 ?_ (zhl (hzr φ) (zta g4)) ?_ s1 s2 s3 rfl rfl rfl hok (fun h=>absurd h hk5)
    · refine⟨(fun h=>by cases h),fun _=>⟨_,rfl,?_,by rw[g2'];exact hkt⟩,(fun h=>by cases h),(fun h=>by exact no42 h)⟩
      show Ents φ (hget H m.p).t (Nat.succ (hget H m.p).e) (appL _ _) _
      rw[zaV,g2']
      exact hes.snoc hvk g3 (hzr φ) (Nat.le_refl _)
    · rw[base none f2]
      simp only[Sem.run_bind,zeM hi hzv,Result.andThen_ok]
      rw[zcW _ ho (fun _ _ _ h=>by cases h)]
      simp[Sem.run_pure']
  · have hset:zd5 (hget H m.p) k v=⟨2,(hget H m.p).t,(hget H m.p).e,updE n k v (hget H m.p).cs⟩:=by unfold zd5 clkE putE;rw[g2',f1];rfl
    rw[f1,zan,hset,f9] at hok ⊢
    have hmod:(es.modify j fun e=>{ e with key:=vk,val:=ev })=es.modify j fun e=>{ e with key:=vk }:=by
      apply List.ext_getElem?
      intro q
      rw[List.getElem?_modify,List.getElem?_modify]
      by_cases hq:j=q
      · subst hq
        rw[f3];simp[← f4]
      · simp[hq]
    have f7':=f7 v ev f5
    rw[hmod] at f7'
    obtain⟨s1,s2,s3⟩:=zbZ (w:=w) (.map (es.modify j fun e=>{ e with key:=vk }).toArray (hget H m.p).e) ho
    have hborn:=hes.born_lt ee (List.mem_of_getElem? f3)
    refine Out.set (x:=y) (val:=.tuple #[ev,goInt ee.born]) (w':={ w with heap:=w.heap.setIfInBounds y (.map (es.modify j fun e=>{ e with key:=vk }).toArray (hget H m.p).e) }) hr hy hk2 ?_ (zhl f5 (zta (by omega))) ?_ s1 s2 s3 rfl rfl rfl hok (fun h=>absurd h hk5)
    · refine⟨(fun h=>by cases h),fun _=>⟨_,rfl,?_,by rw[g2'];exact hkt⟩,(fun h=>by cases h),(fun h=>by exact no42 h)⟩
      show Ents φ (hget H m.p).t (hget H m.p).e (updE n k v _) _
      rw[g2']
      exact f7'
    · rw[base _ f2]
      have hkey:(Instr.keyThatStays (((es.toArray[j]?).map (·.key)).getD vk) vk).run P w=.ok vk w:=by
        have:((es.toArray[j]?).map (·.key)).getD vk=ee.key:=by simp[f3]
        rw[this]
        unfold Instr.keyThatStays
        rw[if_pos f6];rfl
      have hb:((es.toArray[j]?).map fun (e:MapEntry)=>(e.born:Int)).getD 0=(ee.born:Int):=by simp[f3]
      simp only[Sem.run_bind,hkey,Result.andThen_ok,hb]
      rw[zcW _ ho (fun _ _ _ h=>by cases h)]
      simp[Sem.run_pure']
theorem zyd{n kt ck:Nat}{v:AV}{ev:Value}{as:List AV}{es:List MapEntry}(he:Ents φ kt ck as es)(hv:VR φ v ev):∀ {as':List AV},setN n v as=some as' →
    ∃ i,es.findIdx? (fun e=>(e.born:Int) == (n:Int))=some i∧Ents φ kt ck as' (es.modify i fun e=>{ e with val:=ev }):=by
  induction he with
  | nil=>intro as' h;cases h
  | @cons b q r s k' v' ek' ev' as es h1 h2 h3 h4 h5 ih =>
    intro as' h
    have h':bi (nbeq b n) (some (entV b k' v::as)) (om (setN n v as) none fun l=>some (⟨16,b,q,r,s,[k',v']⟩::l))=some as':=h
    cases hb:nbeq b n
    · rw[hb,zai] at h'
      cases hs:setN n v as with
      | none=>rw[hs] at h';cases h'
      | some l =>
        rw[hs,zan] at h'
        cases h'
        obtain⟨i,e1,e2⟩:=ih hs
        have hne:=zam.1 hb
        refine⟨i+1,?_,.cons h1 h2 h3 h4 e2⟩
        rw[List.findIdx?_cons]
        have:(((b:Nat):Int) == (n:Int))=false:=by simp;omega
        simp[this,e1]
    · rw[hb,zag] at h'
      cases h'
      have hbn:=zaa.1 hb
      refine⟨0,?_,.cons h1 h2 hv h4 h5⟩
      rw[List.findIdx?_cons]
      simp[hbn]
theorem ztb{t:TypeId}{m s x:AV}{vm vs vx:Value}(hm:VR φ m vm)(hs:VR φ s vs)(hx:VR φ x vx)(hr:HR P w0 H φ w)
    (hok:AllOk (entStC.run m s x H c)):Out P w0 (fun v w'=>(Instr.entryStore t vm vs vx).run P w=.ok () w'∧v=undef) H φ (entStC.run m s x H c) c:=by
  refine Out.bi hok fun g0 hok=>Out.bi hok fun g1 hok=>Out.bi hok fun g2 hok=>Out.bi hok fun g3 hok=>Out.om hok fun es' he hok=>?_
  have g3:=zah.1 g3
  obtain⟨y,rfl,hy⟩:=hm.of_map (zaa.1 g0)
  obtain⟨_,_,o,ho,hB⟩:=hr.blk _ _ hy
  obtain⟨es,rfl,hes,hkt⟩:=hB.map (zaa.1 g1)
  have hk2:(hget H m.p).kind ≠ 0:=by rw[zaa.1 g1];decide
  have hk5:(hget H m.p).kind ≠ 5:=by rw[zaa.1 g1];decide
  have hk7:(hget H m.p).kind ≠ 7:=by rw[zaa.1 g1];decide
  obtain⟨rfl,l1,_⟩:=hs.of_int (c:=3) (by omega) (zaa.1 g2)
  have v1:valI 3 s.p=(s.p:Int):=zbs (by rw[zc5];omega)
  rw[v1]
  obtain⟨j,e1,e2⟩:=zyd hes hx he
  obtain⟨s1,s2,s3⟩:=zbZ (w:=w) (.map (es.modify j fun e=>{ e with val:=vx }).toArray (hget H m.p).e) ho
  refine Out.set (x:=y) (w':={ w with heap:=w.heap.setIfInBounds y (.map (es.modify j fun e=>{ e with val:=vx }).toArray (hget H m.p).e) }) hr hy hk2 ?_ (.ud _ _ _ _ _) ⟨?_,rfl⟩ s1 s2 s3 rfl rfl rfl hok (fun h=>absurd h hk5)
  · exact⟨(fun h=>by cases h),fun _=>⟨_,rfl,e2,hkt⟩,(fun h=>by cases h),(fun h=>by exact no42 h)⟩
  · unfold Instr.entryStore
    have hfi:es.toArray.findIdx? (fun e=>(e.born:Int) == (s.p:Int))=some j:=by simpa using e1
    have hint:(asInt (.int (kOf 3) (s.p:Int))).run P w=.ok (s.p:Int) w:=rfl
    simp only[Sem.run_bind,zc0 ho,Result.andThen_ok,hint,Sem.run_pure',hfi]
    rw[zcW _ ho (fun _ _ _ h=>by cases h)]
    simp
end Go.Eng
namespace Go.Eng
open Go.RowKit
variable {P:Program} {w0:World} {H:Hp} {φ:Ph} {c:Kont} {w:World}
theorem Out.trans{Y:Value→World→Prop}{H1:Hp}{φ1:Ph}{L:RL}(h:Out P w0 Y H1 φ1 L c)(e:EX H φ H1 φ1):Out P w0 Y H φ L c:=by
  obtain⟨H',v,φ',val,w',h1,h2,h3,h4,h5⟩:=h
  exact⟨H',v,φ',val,w',h1,h2,h3,h4,e.trans h5⟩
theorem HR.drew(h:HR P w0 H φ w):HR P w0 H φ w.drew:=⟨h.blk,h.inj,h.n,h.lim,h.below.drew,h.gl,h.op,h.fz,h.tl,h.fo⟩
theorem HR.kill{b:Nat}(h:HR P w0 H φ w)(hb:b<H.n):HR P w0 (hset H b noB) φ w:=by
  have hn:=h.n
  refine⟨?_,?_,h.n,h.lim,h.below,h.gl,h.op,?_,?_,h.fo⟩
  · intro b' x hb'
    obtain⟨h1,h2,o,h3,h4⟩:=h.blk b' x hb'
    refine⟨h1,h2,o,h3,?_⟩
    rw[zaM (by omega) (by omega)]
    by_cases he:b=b'
    · rw[if_pos he];exact⟨(fun h=>by cases h),(fun h=>by cases h),(fun h=>by cases h),(fun h=>by exact no40 h)⟩
    · rw[if_neg he];exact h4
  · intro b1 b2 x e1 e2 k1 k2
    have l1:=(h.blk _ _ e1).1;have l2:=(h.blk _ _ e2).1
    rw[zaM (by omega) (by omega)] at k1 k2
    by_cases he1:b=b1
    · rw[if_pos he1] at k1;exact absurd rfl k1
    · by_cases he2:b=b2
      · rw[if_pos he2] at k2;exact absurd rfl k2
      · rw[if_neg he1] at k1;rw[if_neg he2] at k2
        exact h.inj b1 b2 x e1 e2 k1 k2
  · intro x C hx
    refine⟨(h.fz x C hx).1,fun b' hb' hl=>?_⟩
    have l1:=(h.blk _ _ hb').1
    rw[zaM (by omega) (by omega)]
    by_cases he:b=b'
    · rw[if_pos he];exact .inl rfl
    · rw[if_neg he];exact (h.fz x C hx).2 b' hb' hl
  · intro b' x hb' hk
    have l1:=(h.blk _ _ hb').1
    rw[zaM (by omega) (by omega)] at hk ⊢
    by_cases he:b=b'
    · rw[if_pos he] at hk;rcases hk with hk | hk<;>cases hk
    · rw[if_neg he] at hk ⊢;exact h.tl b' x hb' hk
theorem HR.live{b x:Nat}(h:HR P w0 H φ w)(hb:φ b=some x)(hl:H.lim≤b)(h0:(hget H b).kind ≠ 0)(h7:(hget H b).kind ≠ 7):φ.fz x=none:=by
  cases e:φ.fz x with
  | none=>rfl
  | some C=>rcases (h.fz x C e).2 b hb hl with k | k<;>contradiction
theorem EX.kill{b x:Nat}(h:HR P w0 H φ w)(hb:φ b=some x)(hl:H.lim≤b)(h5:(hget H b).kind ≠ 5):EX H φ (hset H b noB) φ:=by
  have hn:=h.n
  have hbn:=(h.blk b x hb).1
  refine⟨Le.refl φ,fun b x h h'=>(by rw[h] at h';cases h'),Nat.le_refl _,rfl,?_,?_,?_,fun _ _ h=>.inl h⟩
  · intro k h1 h2;rw[zaM (by omega) h2,if_neg (by omega)]
  · intro k h1 h2 _;rw[zaM (by omega) (by omega),if_neg (fun e=>by rw[← e,hb] at h2;cases h2)]
  · intro k h1 h2 h3;rw[zaM (by omega) h2,if_neg (fun e=>by rw[← e] at h3;exact h5 h3)];exact h3
theorem zpa(need:Nat)(hneed:need≤100000):∀ (r c:Nat),c≤150000→Builtin.growBy need r c≤150000
  | 0,c,h=>by simpa [Builtin.growBy] using h
  | r+1,c,h=>by
    unfold Builtin.growBy
    split
    · exact h
    · exact zpa need hneed r _ (by omega)
theorem zqQ{need old:Nat}(h1:need≤100000)(h2:old<need):Builtin.nextslicecap need old≤200000:=by
  unfold Builtin.nextslicecap
  split
  · omega
  · split
    · omega
    · have:=zpa need h1 4 old (by omega);omega
structure AppT(P:Program)(tys:Array TypeId)(e sz bt:Nat)(z:Value):Prop where
  t0:∃ t,tys[0]?=some t∧(tyB P t).run=some (.slice e)
  t1:∃ t d,tys[1]?=some t∧(tyB P t).run=some d∧∀ k,d ≠ .int k
  hsz:(szB P e).run=some sz
  info:∃ i,P.info? e=some i∧i.zero=some z∧i.bytes=bt
  zs:z.cells.size=sz
  bt1:1≤bt
  bt6:bt≤1000000
section runs
variable {tys:Array TypeId} {e sz bt ty:Nat} {z:Value}
theorem zkE{d:TypeDesc}(h:∀ k,d ≠ .int k):(match d with | .int _=>true | _=>false)=false:=by
  cases d<;>first | rfl | exact absurd rfl (h _)
theorem zgc(h:AppT P tys e sz bt z){blk q r cap k:Nat}{vy:Value}{nvs:List Value}{w':World}(hlen:(Builtin.lenOf vy).run P w=.ok k w)(hfirst:(Builtin.firstCells sz k vy).run P w=.ok nvs.toArray w)(hfit:r+k≤cap)
    (hst:(storeCells ⟨blk,q+r * sz,none⟩ nvs).run P w=.ok () w') :
    (Builtin.append_ tys ty #[.slice (some ⟨blk,q,none⟩) r cap,vy]).run P w=.ok (.slice (some ⟨blk,q,none⟩) (r+k) cap) w':=by
  obtain⟨t,h0,hu⟩:=h.t0
  obtain⟨t',d',h0',hu',hd'⟩:=h.t1
  have hnot:=zkE hd'
  have h1:(#[Value.slice (some ⟨blk,q,none⟩) r cap,vy]:Array Value)[0]?=some (.slice (some ⟨blk,q,none⟩) r cap):=rfl
  have h2:(#[Value.slice (some ⟨blk,q,none⟩) r cap,vy]:Array Value)[1]?=some vy:=rfl
  unfold Builtin.append_
  simp only[h0,h0',h1,h2,Sem.run_bind,zav hu,zav hu',hnot,Result.andThen_ok,zaS h.hsz,hlen,Bool.false_eq_true,if_false,hfit,if_true,hfirst,Bool.not_false,Addr.add_mid,hst,Sem.run_pure',Bool.not_true]
theorem zjy(h:AppT P tys e sz bt z){vy:Value}{nvs:List Value}(hlen:(Builtin.lenOf vy).run P w=.ok 0 w)(hfirst:(Builtin.firstCells sz 0 vy).run P w=.ok nvs.toArray w) :
    (Builtin.append_ tys ty #[.slice none 0 0,vy]).run P w=.ok (.slice none 0 0) w:=by
  obtain⟨t,h0,hu⟩:=h.t0
  obtain⟨t',d',h0',hu',hd'⟩:=h.t1
  have hnot:=zkE hd'
  have h1:(#[Value.slice none 0 0,vy]:Array Value)[0]?=some (.slice none 0 0):=rfl
  have h2:(#[Value.slice none 0 0,vy]:Array Value)[1]?=some vy:=rfl
  unfold Builtin.append_
  simp only[h0,h0',h1,h2,Sem.run_bind,zav hu,zav hu',hnot,Result.andThen_ok,zaS h.hsz,hlen,Bool.false_eq_true,if_false,Nat.add_zero,Nat.le_refl,if_true,hfirst,Bool.not_false,Sem.run_pure',Bool.not_true]
theorem zie(h:AppT P tys e sz bt z){base:Option Addr}{r cap k:Nat}{vy:Value}{olds nvs:List Value}(hlen:(Builtin.lenOf vy).run P w=.ok k w)(hfirst:∀ w':World,w'.heap=w.heap→(Builtin.firstCells sz k vy).run P w'=.ok nvs.toArray w')
    (hold:∀ w':World,w'.heap=w.heap→(Builtin.firstCells sz r (.slice base r cap)).run P w'=.ok olds.toArray w') (hgrow:cap<r+k) (hsm:r+k≤100000) :
    ∃ newCap,r+k≤newCap∧(Builtin.append_ tys ty #[.slice base r cap,vy]).run P w=.ok (.slice (some ⟨w.heap.size,0,none⟩) (r+k) newCap) (w.drew.alloc (.cells (olds++nvs++(Builtin.zeroCells z.cells (newCap - (r+k))).toList).toArray e)):=by
  obtain⟨t,h0,hu⟩:=h.t0
  obtain⟨t',d',h0',hu',hd'⟩:=h.t1
  have hnot:=zkE hd'
  obtain⟨i,hi,hz,hb⟩:=h.info
  have h1:(#[Value.slice base r cap,vy]:Array Value)[0]?=some (.slice base r cap):=rfl
  have h2:(#[Value.slice base r cap,vy]:Array Value)[1]?=some vy:=rfl
  have hle:¬ (r+k≤cap):=by omega
  have hti:∀ w,(typeInfo e).run P w=.ok i w:=zfS hi
  have hmx:IntKind.i64.max=9223372036854775807:=by decide
  have hbt1:=h.bt1
  have c1:¬ (((r+k:Nat):Int) > IntKind.i64.max∧(False ∨ i.bytes=0)):=by rw[hmx];omega
  have c2:¬ (Builtin.nextslicecap (r+k) cap * i.bytes > 2 ^ 48):=by
    have:=zqQ hsm hgrow
    have h6:=h.bt6
    have:Builtin.nextslicecap (r+k) cap * i.bytes≤200000 * 1000000:=Nat.mul_le_mul this (by omega)
    have:(2:Nat) ^ 48=281474976710656:=by decide
    omega
  have hch:(choose (.appendCap (r+k) cap e)).run P w=.ok (Question.cut (.appendCap (r+k) cap e) (w.tape w.drawn (.appendCap (r+k) cap e))) w.drew:=by
    rfl
  have hroom:∀ n w,(askRoom n).run P w=.ok () w:=by
    intro n w;unfold askRoom;split<;>rfl
  refine⟨Question.cut (.appendCap (r+k) cap e) (w.tape w.drawn (.appendCap (r+k) cap e)),Nat.le_add_right _ _,?_⟩
  generalize Question.cut (.appendCap (r+k) cap e) (w.tape w.drawn (.appendCap (r+k) cap e))=newCap at *
  have hdh:w.drew.heap=w.heap:=rfl
  unfold Builtin.append_
  simp only[h0,h0',h1,h2,Sem.run_bind,zav hu,zav hu',hnot,Result.andThen_ok,zaS h.hsz,hlen,Bool.false_eq_true,if_false,hle,hti,c1,c2,hch,hroom,hold _ hdh,hfirst _ hdh,Bool.not_false,if_true,zeM hi hz,newRow,zcT,Sem.run_pure']
  simp
  congr 2
  apply Array.ext'
  simp
end runs
theorem zye(l:List UInt8):VRs φ (strL (zaJ l) l.length) (l.map fun b=>Value.int .u8 (b.toNat:Int))∧∀ c ∈ strL (zaJ l) l.length,za6 c=true:=by
  have key:∀ (n:Nat) (pre l:List UInt8),l.length=n→VRs φ (strL (zaJ (pre++l)) n) (l.map fun b=>Value.int .u8 (b.toNat:Int))∧∀ c ∈ strL (zaJ (pre++l)) n,za6 c=true:=by
    intro n
    induction n with
    | zero=>intro pre l hl;cases l with
      | nil=>exact⟨.nil,fun c hc=>by cases hc⟩
      | cons a l=>simp at hl
    | succ n ih=>intro pre l hl;cases l with
      | nil=>simp at hl
      | cons a l =>
        have hl':l.length=n:=by simpa using hl
        have e:pre++a::l=(pre++[a])++l:=by simp
        obtain⟨i1,i2⟩:=ih (pre++[a]) l hl'
        rw[← e] at i1 i2
        have hat:=znG (pre++a::l) pre.length (by simp)
        have hidx:(pre++a::l).length - 1 - pre.length=n:=by simp;omega
        rw[hidx] at hat
        have hga:(pre++a::l)[pre.length]'(by simp)=a:=by simp
        rw[hga] at hat
        have hd:Nat.mod (Nat.div (zaJ (pre++a::l)) (Nat.pow 256 n)) 256=a.toNat:=hat
        have hau:=a.toNat_lt
        have hv:VR φ (mk1 4 (Nat.mod (Nat.div (zaJ (pre++a::l)) (Nat.pow 256 n)) 256)) (.int .u8 (a.toNat:Int)):=by
          rw[hd]
          have:=zck (φ:=φ) (k:=4) (p:=a.toNat) (by omega) (by rw[zhh];omega)
          rwa [zbs (by rw[zfE];omega)] at this
        refine⟨.cons hv i1,?_⟩
        intro c hc
        have hc:c ∈ mk1 4 (Nat.mod (Nat.div (zaJ (pre++a::l)) (Nat.pow 256 n)) 256)::strL (zaJ (pre++a::l)) n:=hc
        rcases List.mem_cons.1 hc with rfl | hc
        · rfl
        · exact i2 c hc
  simpa using key l.length [] l rfl
theorem zyf{sz k:Nat}{u8:Bool}{new:List AV}{y:AV}{vy:Value}(hy:VR φ y vy)(hr:HR P w0 H φ w)(hu:u8=true→sz=1)(h:zmV sz u8 H y=some (k,new)) :
    ∃ nvs:List Value,VRs φ new nvs∧(∀ c ∈ new,za6 c=true)∧(Builtin.lenOf vy).run P w=.ok k w∧(∀ w':World,w'.heap=w.heap→(Builtin.firstCells sz k vy).run P w'=.ok nvs.toArray w')∧nvs.length=k * sz∧(∀ a,vy=.slice none 0 a→k=0):=by
  unfold zmV at h
  cases h11:nbeq y.tag 11
  · rw[h11,zai] at h
    cases h17:nbeq y.tag 17
    · rw[h17,zai] at h
      obtain⟨h9,h⟩:=zas h
      obtain⟨hu8,h⟩:=zas h
      cases h
      obtain⟨l,rfl,e1,e2⟩:=hy.of_str (zaa.1 h9)
      obtain⟨s1,s2⟩:=zye (φ:=φ) l
      have hs1:=hu hu8
      subst hs1
      rw[e1,e2]
      have hsz:(⟨l.toArray⟩:ByteArray).size=l.length:=by simp[ByteArray.size]
      refine⟨_,s1,s2,?_,?_,by simp,fun a h=>by cases h⟩
      · simp only[Builtin.lenOf,hsz];rfl
      · intro w' _
        simp only[Builtin.firstCells,Sem.run_pure']
        congr 1
        apply Array.ext'
        simp[ByteArray.data_extract,List.extract_eq_take_drop]
    · rw[h17,zag] at h
      obtain⟨hp,h⟩:=zas h
      cases h
      have hn:isNil y 1=true:=by unfold isNil;rw[h17];exact hp
      have:=hy.isNil hn;simp only at this;subst this
      exact⟨[],.nil,(fun c hc=>by cases hc),rfl,(fun _ _=>rfl),by simp,fun _ _=>rfl⟩
  · rw[h11,zag] at h
    obtain⟨hk,h⟩:=zas h
    obtain⟨l,hl,h⟩:=za1 h
    cases h
    obtain⟨x,cap,rfl,hx,_⟩:=hy.of_sl (zaa.1 h11)
    obtain⟨_,_,o,ho,hB⟩:=hr.blk _ _ hx
    obtain⟨vs,rest,t',rfl,hvs,h1,_⟩:=hB.cells (zaa.1 hk)
    rw[zbB] at hl
    obtain⟨hlen,rfl⟩:=zbL hl
    have em:Nat.mul y.r sz=y.r * sz:=rfl
    rw[em] at hlen ⊢
    have hll:=hvs.length
    have e:((vs++rest).drop y.q).take (y.r * sz)=(vs.drop y.q).take (y.r * sz):=by
      rw[List.drop_append,List.take_append]
      rw[List.length_drop] at hlen
      have:y.r * sz - (vs.drop y.q).length=0:=by rw[List.length_drop];omega
      rw[this];simp
    refine⟨_,(hvs.drop y.q).take _,fun c hc=>h1 c (List.mem_of_mem_drop (List.mem_of_mem_take hc)),rfl,?_,?_,fun a h=>by cases h⟩
    · intro w' hw'
      simp only[Builtin.firstCells]
      rw[zbO (P:=P) (w:=w') (by rw[hw'];exact ho) (by rw[List.length_drop] at hlen;rw[List.length_append];omega),e]
    · rw[List.length_take,List.length_drop]
      rw[List.length_drop] at hlen
      omega
theorem znL{z:Array Value}{sz n:Nat}(h:z.size=sz):(Builtin.zeroCells z n).toList.length=n * sz:=by
  simp[Builtin.zeroCells,h]
theorem zhQ{tys:Array TypeId}{e sz bt ty r cap k:Nat}{z:Value}{base:Option Addr}{vy:Value}{olds nvs:List Value}{cs:List AV}{n:Nat}(hA:AppT P tys e sz bt z)(hr:HR P w0 H φ w)
    (hlen:(Builtin.lenOf vy).run P w=.ok k w) (hfirst:∀ w':World,w'.heap=w.heap→(Builtin.firstCells sz k vy).run P w'=.ok nvs.toArray w')
    (hold:∀ w':World,w'.heap=w.heap→(Builtin.firstCells sz r (.slice base r cap)).run P w'=.ok olds.toArray w') (hgrow:cap<r+k) (hsm:r+k≤100000) (hn:n=r+k)
    (hcs:VRs φ cs (olds++nvs)) (h1:∀ c ∈ cs,za6 c=true) (hl:(olds++nvs).length=(r+k) * sz) (hok:AllOk (zij sz H cs n c)) :
    Out P w0 (fun v w'=>(Builtin.append_ tys ty #[.slice base r cap,vy]).run P w=.ok v w') H φ (zij sz H cs n c) c:=by
  subst hn
  obtain⟨newCap,hcap,hrun⟩:=zie (ty:=ty) hA hlen hfirst hold hgrow hsm
  refine Out.newK (w:=w.drew) (o:=.cells (olds++nvs++(Builtin.zeroCells z.cells (newCap - (r+k))).toList).toArray e) (val:=.slice (some ⟨w.heap.size,0,none⟩) (r+k) newCap) newCap hr.drew ?_ ?_ hrun hok
  · intro φ' hle hk
    refine⟨fun _=>⟨olds++nvs,_,e,rfl,hcs.mono hle,h1,fun _=>?_,fun h=>by exact no20 h⟩,(fun h=>by cases h),(fun h=>by cases h),(fun h=>by exact no41 h)⟩
    rw[List.length_append,hl,znL hA.zs]
    have:φ'.k w.drew.heap.size=newCap:=hk
    show _=φ'.k _ * sz
    rw[this,← Nat.add_mul];congr 1;omega
  · intro φ' hle hf hk
    have hc:=zl1 (r+k)
    exact .sl _ _ _ _ _ _ _ hf (by rw[hc.1];exact Nat.le_refl _) (by rw[hc.1];exact hcap) (fun h=>by rw[hc.2] at h;cases h) (fun _ _=>hk.symm)
theorem zme{x:AV}{blk r sz:Nat}{cap:Nat}{l rest:List Value}{t:TypeId}(ho:w.heap[blk]?=some (.cells (l++rest).toArray t))(hle:r * sz≤l.length - x.q) :
    ∀ w':World,w'.heap=w.heap→(Builtin.firstCells sz r (.slice (some ⟨blk,x.q,none⟩) r cap)).run P w'=.ok ((l.drop x.q).take (r * sz)).toArray w':=by
  intro w' hw'
  have e:((l++rest).drop x.q).take (r * sz)=(l.drop x.q).take (r * sz):=by
    rw[List.drop_append,List.take_append]
    have:r * sz - (l.drop x.q).length=0:=by rw[List.length_drop];omega
    rw[this];simp
  simp only[Builtin.firstCells]
  rw[zbO (P:=P) (w:=w') (by rw[hw'];exact ho) (by rw[List.length_append];omega),e]
theorem zkF{vs:List AV}{vals:List Value}(h:VRs φ vs vals)(h1:∀ c ∈ vs,za6 c=true):∀ v ∈ vals,v.oneCell'=true:=by
  intro v hv
  obtain⟨i,hi⟩:=List.mem_iff_getElem?.1 hv
  have hi':i<vs.length:=by rw[h.length];exact (List.getElem?_eq_some_iff.1 hi).1
  obtain⟨v',hv',hvr⟩:=h.get (List.getElem?_eq_getElem hi')
  rw[hi] at hv';cases hv'
  exact (hvr.one (h1 _ (List.getElem_mem hi'))).1
theorem HR.store{blk:Nat}{w':World}(h:HR P w0 H φ w)(hdead:∀ b,φ b=some blk→(hget H b).kind=0)(hfz:φ.fz blk=none)(hbase:OwnB w0 φ blk)(hrest:∀ k,k ≠ blk→w'.heap[k]?=w.heap[k]?)(hthere:∃ o,w'.heap[blk]?=some o)(hsz:w'.heap.size=w.heap.size)
    (hos:w'.os=w.os) (htape:w'.tape=w.tape) (hout:w'.output=w.output):HR P w0 H φ w':=by
  refine⟨?_,h.inj,h.n,h.lim,h.below.step hos htape hout (by omega) (fun k _ hk=>hrest k fun e=>hk (e ▸ hbase)),h.gl,h.op,?_,h.tl,h.fo⟩
  · intro b x hb
    obtain⟨h1,h2,o,h3,h4⟩:=h.blk b x hb
    by_cases hx:x=blk
    · subst hx
      obtain⟨o',ho'⟩:=hthere
      have hz:=hdead b hb
      exact⟨h1,h2,o',ho',(fun h=>by omega),(fun h=>by omega),(fun h=>by omega),(fun h=>by omega)⟩
    · exact⟨h1,h2,o,by rw[hrest x hx];exact h3,h4⟩
  · intro x C hx
    have hne:x ≠ blk:=fun e=>by rw[e,hfz] at hx;cases hx
    rw[hrest x hne]
    exact h.fz x C hx
theorem Out.alias{Y:Value→World→Prop}{B:AB}{mk:Nat→AV}{blk:Nat}{o:Obj}{val:Value}(hr:HR P w0 H φ w)(hdead:∀ b,φ b=some blk→(hget H b).kind=0)(hfz:φ.fz blk=none ∨ B.kind=7)(hbase:OwnB w0 φ blk)(ho:w.heap[blk]?=some o)
    (hB:BRel P φ blk B o) (hv:∀ φ':Ph,Le φ φ'→φ' H.n=some blk→φ'.k blk=φ.k blk→φ'.tl H.n=B.cs.length→VR φ' (mk H.n) val) (hy:Y val w) (hok:AllOk (newC H B mk c)):Out P w0 Y H φ (newC H B mk c) c:=by
  unfold newC at hok ⊢
  refine Out.bi hok fun hn _=>?_
  have hn':=zah.1 hn
  have hlim:=hr.lim
  have hfree:φ H.n=none:=by
    cases h:φ H.n with
    | none=>rfl
    | some x=>exact absurd (hr.blk _ _ h).1 (by omega)
  let φ':Ph:=⟨fun b=>if b=H.n then some blk else φ b,φ.k,φ.op,φ.fz,fun b=>if b=H.n then B.cs.length else φ.tl b⟩
  have hkeep:Le φ φ':=by
    refine⟨?_,rfl,fun _ _ h=>h,fun b x hb=>if_neg fun e=>by rw[e,hfree] at hb;cases hb⟩
    intro b x hb
    have:b ≠ H.n:=fun e=>by rw[e,hfree] at hb;cases hb
    exact⟨by simp only[φ',if_neg this];exact hb,rfl⟩
  have hφn:φ' H.n=some blk:=by simp[φ']
  have hold:∀ b x,φ' b=some x→b ≠ H.n→φ b=some x:=by
    intro b x hb hne;simpa only[φ',if_neg hne] using hb
  have hs:(hnew H B).n=H.n+1:=zcA _ _
  refine⟨hnew H B,mk H.n,φ',val,w,fun _ h=>h,hy,hv φ' hkeep hφn rfl (if_pos rfl),?_,?_⟩
  · refine⟨?_,?_,by omega,by show H.lim≤_;omega,hr.below.op hkeep.op,hr.gl.mono hkeep,hr.op,?_,?_,hr.fo⟩
    · intro b x hb
      by_cases hbn:b=H.n
      · subst hbn
        rw[hφn] at hb;cases hb
        exact⟨by omega,fun _=>hbase,o,ho,by rw[zaD (by omega) (by omega),if_pos rfl];exact hB.mono hkeep rfl⟩
      · obtain⟨h1,h2,o',h3,h4⟩:=hr.blk b x (hold b x hb hbn)
        exact⟨by omega,h2,o',h3,by rw[zaD (by omega) (by omega),if_neg (by omega)];exact h4.mono hkeep rfl⟩
    · intro b b' x hb hb' hk hk'
      by_cases hbn:b=H.n
      · by_cases hbn':b'=H.n
        · rw[hbn,hbn']
        · rw[hbn,hφn] at hb;cases hb
          have e:=hold b' _ hb' hbn'
          have l2:=(hr.blk _ _ e).1
          rw[zaD (by omega) (by omega),if_neg (by omega)] at hk'
          exact absurd (hdead b' e) hk'
      · have e1:=hold b x hb hbn
        have l1:=(hr.blk _ _ e1).1
        by_cases hbn':b'=H.n
        · rw[hbn',hφn] at hb';cases hb'
          rw[zaD (by omega) (by omega),if_neg (by omega)] at hk
          exact absurd (hdead b e1) hk
        · have e2:=hold b' x hb' hbn'
          have l2:=(hr.blk _ _ e2).1
          rw[zaD (by omega) (by omega),if_neg (by omega)] at hk hk'
          exact hr.inj b b' x e1 e2 hk hk'
    · intro x C hx
      refine⟨(hr.fz x C hx).1,fun b hb hl=>?_⟩
      by_cases hbn:b=H.n
      · subst hbn
        rw[hφn] at hb;cases hb
        rw[zaD (by omega) (by omega),if_pos rfl]
        rcases hfz with e | e
        · rw[show φ.fz blk=some C from hx] at e;cases e
        · exact .inr e
      · have e1:=hold b x hb hbn
        have l1:=(hr.blk _ _ e1).1
        rw[zaD (by omega) (by omega),if_neg (by omega)]
        exact (hr.fz x C hx).2 b e1 hl
    · intro b x hb hk
      by_cases hbn:b=H.n
      · subst hbn
        rw[zaD (by omega) (by omega),if_pos rfl]
        exact (if_pos rfl).symm
      · have e1:=hold b x hb hbn
        have l1:=(hr.blk _ _ e1).1
        rw[zaD (by omega) (by omega),if_neg (by omega)] at hk ⊢
        exact (hr.tl b x e1 hk).trans (if_neg hbn).symm
  · refine⟨hkeep,?_,by omega,rfl,?_,?_,?_,fun _ _ h=>.inl h⟩
    · intro b x hb hnone
      by_cases hbn:b=H.n
      · omega
      · rw[hold b x hb hbn] at hnone;cases hnone
    · intro b hb hb'
      rw[zaD (by omega) hb',if_neg (by omega)]
    · intro b hb _ _
      rw[zaD (by omega) (by omega),if_neg (by omega)]
    · intro b hb hb' hk
      rw[zaD (by omega) hb',if_neg (by omega)];exact hk
theorem ztc{tys:Array TypeId}{e sz bt ty k:Nat}{z:Value}{x:AV}{vx vy:Value}{nvs:List Value}{new:List AV}(hA:AppT P tys e sz bt z)(hx:VR φ x vx)(ht:x.tag=11)(hr:HR P w0 H φ w)
    (hlen:(Builtin.lenOf vy).run P w=.ok k w) (hfirst:∀ w':World,w'.heap=w.heap→(Builtin.firstCells sz k vy).run P w'=.ok nvs.toArray w')
    (hnew:VRs φ new nvs) (h1:∀ c ∈ new,za6 c=true) (hnl:nvs.length=k * sz) (hsm:x.r+k≤100000) (hok:AllOk (zpp sz x (x.r+k) new H c)) :
    Out P w0 (fun v w'=>(Builtin.append_ tys ty #[vx,vy]).run P w=.ok v w') H φ (zpp sz x (x.r+k) new H c) c:=by
  obtain⟨blk,cap,rfl,hb,r1,r2,r3,r4⟩:=hx.of_sl ht
  obtain⟨hbn,_,o,ho,hB⟩:=hr.blk _ _ hb
  refine Out.bi hok fun hk hok=>?_
  have hk':=zaa.1 hk
  obtain⟨l,rest,t',rfl,hl,g1,g2⟩:=hB.cells hk'
  have hll:=hl.length
  have em:∀ a b,Nat.mul a b=a * b:=fun _ _=>rfl
  have ea:∀ a b,Nat.add a b=a+b:=fun _ _=>rfl
  refine Out.bi2 hok (fun hfit hok=>Out.om hok fun cs hcs hok=>?_) fun hnofit hok=>Out.om hok fun old hold hok=>?_
  · have hfit':=zah.1 hfit
    obtain⟨hin,rfl⟩:=zi3 hcs
    rw[ea,em] at hin
    have hnn:=hnew.length
    have hst:=run_storeCells_at (P:=P) blk (x.q+x.r * sz) t' nvs 0 (l++rest).toArray w ho (by rw[List.size_toArray,List.length_append];omega) (zkF hnew h1)
    have hval:VR φ (slV x.p x.q (x.r+k) x.s) (.slice (some ⟨blk,x.q,none⟩) (x.r+k) cap):=.sl _ _ _ _ _ _ _ hb hfit' r2 r3 r4
    refine Out.set (x:=blk) (o':=.cells (l.take (x.q+x.r * sz)++nvs++l.drop (x.q+x.r * sz+nvs.length)++rest).toArray t')
      (w':=w.setRow blk (((l++rest).toArray).toList.take (x.q+x.r * sz+0)++nvs++((l++rest).toArray).toList.drop (x.q+x.r * sz+0+nvs.length)).toArray) hr hb (by omega) ?_ hval ?_ ?_ ?_ (by simp[World.setRow]) rfl rfl rfl hok
    · refine⟨fun _=>⟨l.take (x.q+x.r * sz)++nvs++l.drop (x.q+x.r * sz+nvs.length),rest,t',rfl,?_,?_,?_,g2.2⟩,(fun h=>by cases h),(fun h=>by cases h),(fun h=>by exact no41 h)⟩
      · show VRs φ (_++_++_) _
        rw[hnn]
        exact ((hl.take _).append hnew).append (hl.drop _)
      · intro c hc
        have hc:c ∈ (hget H x.p).cs.take (x.q+x.r * sz)++new++(hget H x.p).cs.drop (x.q+x.r * sz+new.length):=hc
        rw[List.mem_append,List.mem_append] at hc
        rcases hc with (hc | hc) | hc
        · exact g1 c (List.mem_of_mem_take hc)
        · exact h1 c hc
        · exact g1 c (List.mem_of_mem_drop hc)
      · intro he
        have:=g2.1 he
        rw[List.length_append] at this
        simp only[List.length_append,List.length_take,List.length_drop]
        show _=φ.k blk * (hget H x.p).t
        omega
    · exact zgc (ty:=ty) hA hlen (hfirst w rfl) (by omega) hst
    · rw[setRow_heap w blk _ _ t' (0,0) ho]
      congr 3
      simp only[Nat.add_zero]
      rw[List.take_append_of_le_length (by omega),List.drop_append_of_le_length (by omega)]
      simp only[List.append_assoc]
    · intro j hj
      simp[World.setRow,Array.getElem?_modify,Ne.symm hj]
  · have hnofit':=zaW.1 hnofit
    rw[zbB,em] at hold
    obtain⟨ho1,rfl⟩:=zbL hold
    rw[List.length_drop] at ho1
    have holds:=zme (P:=P) (x:=x) (r:=x.r) (sz:=sz) (cap:=cap) ho (by omega)
    have hcs:VRs φ (appL (((hget H x.p).cs.drop x.q).take (x.r * sz)) new) ((l.drop x.q).take (x.r * sz)++nvs):=by
      rw[zaV];exact ((hl.drop _).take _).append hnew
    have hc1:∀ c ∈ appL (((hget H x.p).cs.drop x.q).take (x.r * sz)) new,za6 c=true:=by
      intro c hc
      rw[zaV,List.mem_append] at hc
      rcases hc with hc | hc
      · exact g1 c (List.mem_of_mem_drop (List.mem_of_mem_take hc))
      · exact h1 c hc
    have hll2:((l.drop x.q).take (x.r * sz)++nvs).length=(x.r+k) * sz:=by
      rw[List.length_append,List.length_take,List.length_drop,hnl,Nat.add_mul];omega
    refine Out.bi2 hok (fun hex hok=>?_) fun hlb hok=>?_
    · have:=r3 hex
      exact zhQ hA hr hlen hfirst holds (by omega) hsm rfl hcs hc1 hll2 hok
    · unfold zrh at hok ⊢
      refine Out.bi hok fun t1 hok=>Out.bi hok fun t2 hok=>Out.bi hok fun t3 hok=>Out.bi hok fun t4 hok=>?_
      have t1':=zaa.1 t1
      have t2':=zaa.1 t2
      have t3':=zaa.1 t3
      have t4':=zaa.1 t4
      rw[em,zaz] at t2'
      have hroom:=g2.1 t3'
      rw[t4',← r4 hlb t1'] at hroom
      unfold setC at hok ⊢
      refine Out.bi hok fun hlim hok=>?_
      have hlim':=zah.1 hlim
      have hn:=hr.n
      have hr1:=hr.kill hbn
      have ex1:=EX.kill hr hb hlim' (by omega)
      refine Out.trans ?_ ex1
      by_cases hfit:x.r+k≤cap
      · have hin:(x.r+k) * sz≤(l++rest).length:=by rw[hroom];exact Nat.mul_le_mul_right _ hfit
        rw[Nat.add_mul] at hin
        have hst:=run_storeCells_at (P:=P) blk (x.q+x.r * sz) t' nvs 0 (l++rest).toArray w ho (by rw[List.size_toArray,hnl];omega) (zkF hnew h1)
        have hrun:=zgc (ty:=ty) hA hlen (hfirst w rfl) hfit hst
        have hw':((l++rest).toArray).toList.take (x.q+x.r * sz+0)++nvs++((l++rest).toArray).toList.drop (x.q+x.r * sz+0+nvs.length)=(l.drop x.q).take (x.r * sz)++nvs++rest.drop (k * sz):=by
          have hl1:l.length=x.r * sz:=by omega
          simp only[t1',Nat.zero_add,Nat.add_zero,List.drop_zero]
          rw[← hl1,List.take_left' rfl,List.take_length,hnl,List.drop_append,List.drop_eq_nil_of_le (by omega),List.nil_append]
          congr 2;omega
        rw[hw'] at hrun
        obtain⟨s1,s2⟩:(w.setRow blk ((l.drop x.q).take (x.r * sz)++nvs++rest.drop (k * sz)).toArray).heap[blk]?=some (.cells ((l.drop x.q).take (x.r * sz)++nvs++rest.drop (k * sz)).toArray t')∧∀ j,j ≠ blk→(w.setRow blk ((l.drop x.q).take (x.r * sz)++nvs++rest.drop (k * sz)).toArray).heap[j]?=w.heap[j]?:=by
          refine⟨setRow_heap w blk _ _ t' (0,0) ho,fun j hj=>?_⟩
          simp[World.setRow,Array.getElem?_modify,Ne.symm hj]
        have hdead:∀ b,φ b=some blk→(hget (hset H x.p noB) b).kind=0:=by
          intro b hb'
          have hbl:=(hr.blk _ _ hb').1
          rw[zaM (by omega) (by omega)]
          by_cases he:x.p=b
          · rw[if_pos he];rfl
          · rw[if_neg he]
            cases hz:decide ((hget H b).kind=0) with
            | true=>exact of_decide_eq_true hz
            | false=>exact absurd (hr.inj _ _ _ hb hb' (by omega) (of_decide_eq_false hz)) he
        have hbase:=(hr.blk _ _ hb).2.1 hlim'
        have hfz:=hr.live hb hlim' (by omega) (by omega)
        have hr2:=hr1.store hdead hfz hbase s2 ⟨_,s1⟩ (by simp[World.setRow]) rfl rfl rfl
        refine Out.alias (val:=.slice (some ⟨blk,x.q,none⟩) (x.r+k) cap) hr2 hdead (.inl hfz) hbase s1 ?_ ?_ hrun hok
        · refine⟨fun _=>⟨(l.drop x.q).take (x.r * sz)++nvs,rest.drop (k * sz),t',rfl,hcs,hc1,fun _=>?_,fun h=>by exact no20 h⟩,(fun h=>by cases h),(fun h=>by cases h),(fun h=>by exact no41 h)⟩
          show _=φ.k blk * sz
          rw[← r4 hlb t1',← hroom,List.length_append,hll2,List.length_drop,List.length_append,Nat.add_mul]
          rw[List.length_append] at hin
          omega
        · intro φ' hle hf hkk _
          have hc:=zl1 (x.r+k)
          rw[t1']
          exact .sl _ _ _ _ _ _ _ hf (by rw[hc.1];exact Nat.le_refl _) (by rw[hc.1];exact hfit) (fun h=>by rw[hc.2] at h;cases h) (fun _ _=>(r4 hlb t1').trans hkk.symm)
      · exact zhQ hA hr1 hlen hfirst holds (by omega) hsm rfl hcs hc1 hll2 hok
theorem zqR{tys:Array TypeId}{e sz bt ty:Nat}{z:Value}{u8:Bool}{x y:AV}{vx vy:Value}(hA:AppT P tys e sz bt z)(hu:u8=true→sz=1)(hx:VR φ x vx)(hy:VR φ y vy)(hr:HR P w0 H φ w)(hok:AllOk ((zgR sz u8).run x y H c)) :
    Out P w0 (fun v w'=>(Builtin.append_ tys ty #[vx,vy]).run P w=.ok v w') H φ ((zgR sz u8).run x y H c) c:=by
  refine Out.om hok fun nw hnw hok=>?_
  obtain⟨k,new⟩:=nw
  obtain⟨nvs,n1,n2,n3,n4,n5,n6⟩:=zyf (P:=P) hy hr hu hnw
  have ea:∀ a b,Nat.add a b=a+b:=fun _ _=>rfl
  refine Out.bi2 hok (fun h11 hok=>Out.bi hok fun hsm hok=>?_) fun _ hok=>Out.bi hok fun hn hok=>Out.bi2 hok (fun h0 _=>?_) fun h0 hok=>Out.bi hok fun hsm hok=>?_
  · exact ztc hA hx (zaa.1 h11) hr n3 n4 n1 n2 n5 (zah.1 hsm) hok
  · have:=hx.isNil hn;simp only at this;subst this
    have h0':k=0:=zaa.1 h0
    subst h0'
    exact Out.same hr hx (zjy (ty:=ty) hA n3 (n4 w rfl))
  · have:=hx.isNil hn;simp only at this;subst this
    have h0':k ≠ 0:=zam.1 h0
    refine zhQ (r:=0) (cap:=0) (base:=none) (olds:=[]) hA hr n3 n4 (fun _ _=>rfl) (by omega) (by have:=zah.1 hsm;omega) (by simp) (by simpa using n1) n2 (by simpa using n5) hok
end Go.Eng
namespace Go.Eng
open Go.RowKit
variable {P:Program} {w0:World} {H:Hp} {φ:Ph} {c:Kont} {w:World}
theorem ztd{t kt e:TypeId}{m:AV}{vm:Value}(ht:(tyB P t).run=some (.map kt e))(hm:VR φ m vm)(hr:HR P w0 H φ w)(hok:AllOk (rangeC.run m H c)) :
    Out P w0 (fun v w'=>(Instr.range t vm).run P w=.ok v w') H φ (rangeC.run m H c) c:=by
  refine Out.bi2 hok (fun h12 hok=>Out.bi hok fun hk hok=>?_) fun _ hok=>Out.bi hok fun hn hok=>?_
  · obtain⟨x,rfl,hx⟩:=hm.of_map (zaa.1 h12)
    obtain⟨_,_,o,ho,hB⟩:=hr.blk _ _ hx
    obtain⟨es,rfl,hes,_⟩:=hB.map (zaa.1 hk)
    refine Out.new (o:=.mapIter (some x) (hget H m.p).e #[] (hget H m.p).e) (val:=.pointer (some ⟨w.heap.size,0,none⟩)) hr ?_ ?_ ?_ hok
    · exact⟨(fun h=>by cases h),(fun h=>by cases h),fun _=>⟨m,[],some x,rfl,hm,rfl⟩,(fun h=>by exact no43 h)⟩
    · intro φ' _ h;exact .ptr _ _ _ _ _ _ h
    · simp only[Instr.range,Sem.run_bind,zav ht,Result.andThen_ok,zc0 ho,zcT,Sem.run_pure']
  · have:=hm.isNil hn;simp only at this;subst this
    refine Out.new (o:=.mapIter none 0 #[] 0) (val:=.pointer (some ⟨w.heap.size,0,none⟩)) hr ?_ ?_ ?_ hok
    · exact⟨(fun h=>by cases h),(fun h=>by cases h),fun _=>⟨m,[],none,rfl,hm,rfl⟩,(fun h=>by exact no43 h)⟩
    · intro φ' _ h;exact .ptr _ _ _ _ _ _ h
    · simp only[Instr.range,Sem.run_bind,zav ht,Result.andThen_ok,zcT,Sem.run_pure']
theorem zyg(n:Nat)(l:List AV):memN n l=(zb5 l).contains n:=by
  induction l with
  | nil=>rfl
  | cons a l ih =>
    show bi (nbeq a.p n) true (memN n l)=_
    rw[ih]
    simp only[zb5,List.map_cons,List.contains_cons]
    cases h:nbeq a.p n
    · have:=zam.1 h
      have h':(n == a.p)=false:=by rw[beq_eq_false_iff_ne];exact fun e=>this e.symm
      rw[h',zai,Bool.false_or]
    · have:=zaa.1 h
      subst this;simp
theorem zqS(seen:List AV)(e:AV)(es:List AV):ziR seen (e::es)=bi (memN e.p seen) (ziR seen es) (e::ziR seen es):=rfl
theorem zyh{kt ck:Nat}{as:List AV}{es:List MapEntry}(seen:List AV)(h:Ents φ kt ck as es):Ents φ kt ck (ziR seen as) (es.filter fun e=>!(zb5 seen).contains e.born):=by
  induction h with
  | nil=>exact .nil
  | @cons b q r s k v ek ev as es h1 h2 h3 h4 h5 ih =>
    rw[zqS,zyg,List.filter_cons]
    show Ents φ kt ck (bi ((zb5 seen).contains b) _ _) (if (!(zb5 seen).contains b)=true then _ else _)
    cases (zb5 seen).contains b
    · exact .cons h1 h2 h3 h4 ih
    · exact ih
theorem Ents.born{kt ck:Nat}{as:List AV}{es:List MapEntry}(h:Ents φ kt ck as es):∀ e ∈ es,e.born<ck:=by
  induction h with
  | nil=>intro e he;cases he
  | cons h1 h2 h3 h4 h5 ih =>
    intro e he
    rcases List.mem_cons.1 he with rfl | he
    · exact h4
    · exact ih e he
theorem Ents.at{kt ck:Nat}{as:List AV}{es:List MapEntry}(h:Ents φ kt ck as es):∀ {j:Nat} {e:MapEntry},es[j]?=some e→∃ a ∈ as,∃ k v,a.cs=[k,v]∧a.p=e.born∧VR φ k e.key∧VR φ v e.val:=by
  induction h with
  | nil=>intro j e he;simp at he
  | @cons b q r s k v ek ev as es h1 h2 h3 h4 h5 ih =>
    intro j e he
    cases j with
    | zero=>simp at he;subst he;exact⟨_,List.mem_cons_self ..,k,v,rfl,rfl,h1,h3⟩
    | succ j =>
      obtain⟨a,ha,rest⟩:=ih (by simpa using he)
      exact⟨a,List.mem_cons_of_mem _ ha,rest⟩
theorem Out.sub{Y:Value→World→Prop}{L L':RL}(h:Out P w0 Y H φ L c)(hs:∀ x ∈ L,x ∈ L'):Out P w0 Y H φ L' c:=by
  obtain⟨H',v,φ',val,w',h1,h2⟩:=h
  exact⟨H',v,φ',val,w',fun x hx=>hs x (h1 x hx),h2⟩
theorem zfa{x:Nat}{mr:Option Nat}{s st:Nat}{seen:Array Nat}(h:w.heap[x]?=some (.mapIter mr s seen st)):(getObj x).run P w=.ok (.mapIter mr s seen st) w:=by
  simp only[getObj,Sem.run,h]
theorem zpb{a:AV}{va:Value}(ha:VR φ a va):VR φ (tupV [a]) (.tuple #[va]):=.tup 0 0 0 0 [a] [va] (.cons ha .nil)
theorem zyi{a b d:AV}{va vb vd:Value}(ha:VR φ a va)(hb:VR φ b vb)(hd:VR φ d vd):VR φ (tupV [a,b,d]) (.tuple #[va,vb,vd]):=.tup 0 0 0 0 [a,b,d] [va,vb,vd] (.cons ha (.cons hb (.cons hd .nil)))
theorem zte{it:AV}{vi:Value}(hi:VR φ it vi)(hr:HR P w0 H φ w)(hok:AllOk (entryC.run it H c)) :
    Out P w0 (fun v w'=>(Instr.entry vi).run P w=.ok v w') H φ (entryC.run it H c) c:=by
  refine Out.bi hok fun h10 hok=>Out.bi hok fun hq hok=>?_
  obtain⟨x,rfl,hx⟩:=hi.of_ptr (zaa.1 h10)
  obtain⟨_,_,o,ho,hB⟩:=hr.blk _ _ hx
  have hq':=zaa.1 hq
  rw[hq']
  generalize hget H it.p=B at *
  refine Out.bi hok fun hk hok=>?_
  obtain⟨m,seen,mr,hcs,hm,rfl⟩:=hB.walk (zaa.1 hk)
  rw[hcs] at hok ⊢
  have n0:nthL [m,tupV seen] 0=m:=rfl
  have n1:(nthL [m,tupV seen] 1).cs=seen:=rfl
  rw[n0,n1] at hok ⊢
  refine Out.bi hok fun h12 hok=>?_
  obtain⟨y,hy1,hy⟩:=hm.of_map (zaa.1 h12)
  cases hy1
  obtain⟨_,_,o',ho',hB'⟩:=hr.blk _ _ hy
  generalize hget H m.p=M at *
  refine Out.bi hok fun hk2 hok=>Out.bi hok fun he hok=>?_
  obtain⟨es,rfl,hes,_⟩:=hB'.map (zaa.1 hk2)
  have he':=zaa.1 he
  cases seen with
  | nil=>exact (zaY hok).elim
  | cons s0 ss =>
    refine Out.om hok fun l hl _=>?_
    have hlast:(zb5 (s0::ss)).toArray.back?=some (zev (s0::ss)):=by
      have key:∀ (l:List AV) (n:Nat),(List.rec (motive:=fun _=>Nat→Nat) (fun n=>n) (fun a _ ih _=>ih a.p) l n)=((zb5 l).getLast?).getD n:=by
        intro l
        induction l with
        | nil=>intro n;rfl
        | cons a l ih =>
          intro n
          show (List.rec (motive:=fun _=>Nat→Nat) (fun n=>n) (fun a _ ih _=>ih a.p) l a.p)=_
          rw[ih]
          cases l with
          | nil=>rfl
          | cons b l =>
            have e:(zb5 (a::b::l)).getLast?=(zb5 (b::l)).getLast?:=by simp[zb5,List.getLast?_cons_cons]
            rw[e]
            cases h:(zb5 (b::l)).getLast? with
            | none=>simp[zb5] at h
            | some x=>rfl
      have h0:=key (s0::ss) 0
      have h1:zev (s0::ss)=((zb5 (s0::ss)).getLast?).getD 0:=h0
      rw[h1,List.back?_toArray]
      cases h:(zb5 (s0::ss)).getLast? with
      | none=>simp[zb5] at h
      | some x=>rfl
    have hfind:∀ {as:List AV} {es:List MapEntry},Ents φ M.t M.e as es→∀ l,zpo (zev (s0::ss)) as=some l→∃ e,es.find? (·.born == zev (s0::ss))=some e∧∃ k v,l=[k,v]∧VR φ k e.key∧VR φ v e.val:=by
      intro as es h
      induction h with
      | nil=>intro l h;cases h
      | @cons b q r s k v ek ev as es h1 h2 h3 h4 h5 ih =>
        intro l h
        change bi (nbeq b (zev (s0::ss))) (some [k,v]) (zpo (zev (s0::ss)) as)=some l at h
        cases hb:nbeq b (zev (s0::ss))
        · rw[hb,zai] at h
          obtain⟨e,he,rest⟩:=ih l h
          refine⟨e,?_,rest⟩
          have:(b == zev (s0::ss))=false:=by rw[beq_eq_false_iff_ne];exact zam.1 hb
          simp[List.find?_cons,this,he]
        · rw[hb,zag] at h
          cases h
          have:(b == zev (s0::ss))=true:=by rw[beq_iff_eq];exact zaa.1 hb
          exact⟨⟨ek,ev,b⟩,by simp[List.find?_cons,this],k,v,rfl,h1,h3⟩
    obtain⟨ee,hee,k,v,rfl,hk1,hv1⟩:=hfind hes l hl
    refine Out.same hr (zhl hk1 hv1) ?_
    have hne:(M.e != B.e)=false:=by rw[he'];simp
    simp only[Instr.entry,Sem.run_bind,zfa ho,Result.andThen_ok,hlast,zc0 ho',hne,Bool.false_eq_true,if_false]
    have:es.toArray.find? (·.born == zev (s0::ss))=some ee:=by simpa using hee
    rw[this];rfl
theorem zuC{x y e:Nat}{seen:List Nat}{es:List MapEntry}{ty:TypeId}(ho:w.heap[x]?=some (.mapIter (some y) e seen.toArray e))(ho':w.heap[y]?=some (.map es.toArray e))(hb:∀ en ∈ es,en.born<e) :
    ((es.filter fun en=>!seen.contains en.born)=[]∧(Instr.next (.pointer (some ⟨x,0,none⟩)) false ty).run P w=.ok (.tuple #[.bool false]) w) ∨
    ∃ (j:Nat) (en:MapEntry) (w1:World),(es.filter fun en=>!seen.contains en.born)[j]?=some en∧(w1=w ∨ w1=w.drew) ∧
      (Instr.next (.pointer (some ⟨x,0,none⟩)) false ty).run P w=.ok (.tuple #[.bool true,en.key,en.val]) { w1 with heap:=w1.heap.setIfInBounds x (.mapIter (some y) e (seen++[en.born]).toArray e) }:=by
  generalize hL:(es.filter fun en=>!seen.contains en.born)=L
  have hleft:es.toArray.filter (fun en=>!seen.toArray.contains en.born)=L.toArray:=by rw[← hL];simp
  have hmem:∀ en ∈ L,en.born<e:=by
    intro en hen
    rw[← hL] at hen
    exact hb en (List.mem_filter.1 hen).1
  have hold:L.toArray.filter (fun en=>decide (en.born<e))=L.toArray:=by
    rw[List.filter_toArray,List.filter_eq_self.2 (fun en hen=>by simpa using hmem en hen)]
  have hnew:L.toArray.filter (fun en=>decide (en.born ≥ e))=#[]:=by
    rw[List.filter_toArray,List.filter_eq_nil_iff.2 (fun en hen=>by have:=hmem en hen;simp;omega)]
  have hguard:(!seen.toArray.isEmpty && !es.toArray.isEmpty && es.toArray.all (fun en=>decide (en.born ≥ e)))=false:=by
    cases es with
    | nil=>simp
    | cons a es =>
      have:=hb a (List.mem_cons_self ..)
      have h':decide (a.born ≥ e)=false:=by simp;omega
      simp[h']
  cases hLc:L with
  | nil =>
    left
    refine⟨rfl,?_⟩
    subst hLc
    simp only[Instr.next,Sem.run_bind,zfa ho,zc0 ho',Result.andThen_ok,hguard,Bool.false_eq_true,if_false,hleft,hold,hnew]
    have hc:((if (#[]:Array MapEntry).isEmpty=true then #[none] else #[])++Array.map some (#[]++#[]):Array (Option MapEntry))=#[none]:=by simp
    rw[hc]
    rfl
  | cons a L' =>
    right
    rw[← hLc]
    have hpos:0<L.length:=by rw[hLc];simp
    have hch:∃ (j:Nat) (w1:World),j<L.length∧(w1=w ∨ w1=w.drew)∧(choose (.mapNext L.length)).run P w=.ok j w1:=by
      by_cases h1:L.length≤1
      · refine⟨0,w,hpos,.inl rfl,?_⟩
        have:(Question.mapNext L.length).forced=true:=by simp[Question.forced,h1]
        simp only[choose,Sem.run,this,if_true]
      · refine⟨w.tape w.drawn (.mapNext L.length) % L.length,w.drew,Nat.mod_lt _ hpos,.inr rfl,?_⟩
        have:(Question.mapNext L.length).forced=false:=by simp[Question.forced];omega
        simp only[choose,Sem.run,this,Bool.false_eq_true,if_false]
        rfl
    obtain⟨j,w1,hj,hw1,hrun⟩:=hch
    have hget:L[j]?=some L[j]:=List.getElem?_eq_getElem hj
    refine⟨j,L[j],w1,hget,hw1,?_⟩
    have hne:L.toArray.isEmpty=false:=by rw[hLc];rfl
    have hc:((if L.toArray.isEmpty=true then #[none] else #[])++Array.map some (L.toArray++#[]):Array (Option MapEntry))=(L.map some).toArray:=by rw[hne];simp
    have hsz:(L.map some).toArray.size=L.length:=by simp
    have hat:(L.map some).toArray[j]?=some (some L[j]):=by simp[hget]
    have ho1:w1.heap[x]?=some (.mapIter (some y) e seen.toArray e):=by rcases hw1 with rfl | rfl<;>exact ho
    have hset:=zcW (P:=P) (w:=w1) (.mapIter (some y) e (seen++[L[j].born]).toArray e) ho1 (fun _ _ _ h=>by cases h)
    have hpush:seen.toArray.push L[j].born=(seen++[L[j].born]).toArray:=by simp
    simp only[Instr.next,Sem.run_bind,zfa ho,zc0 ho',Result.andThen_ok,hguard,Bool.false_eq_true,if_false,hleft,hold,hnew,hc,hsz,hrun,hat,hpush,hset,Sem.run_pure']
theorem zuD{it:AV}{vi:Value}{ty:TypeId}(hi:VR φ it vi)(hr:HR P w0 H φ w)(hok:AllOk (nextC.run it H c)) :
    Out P w0 (fun v w'=>(Instr.next vi false ty).run P w=.ok v w') H φ (nextC.run it H c) c:=by
  refine Out.bi hok fun h10 hok=>Out.bi hok fun hq hok=>?_
  obtain⟨x,rfl,hx⟩:=hi.of_ptr (zaa.1 h10)
  obtain⟨_,_,o,ho,hB⟩:=hr.blk _ _ hx
  have hq':=zaa.1 hq
  rw[hq']
  have hkind:∀ k,(hget H it.p).kind=k→k ≠ 0→(hget H it.p).kind ≠ 0:=fun k h h'=>by omega
  generalize hBd:hget H it.p=B at *
  refine Out.bi hok fun hk hok=>?_
  obtain⟨m,seen,mr,hcs,hm,rfl⟩:=hB.walk (zaa.1 hk)
  rw[hcs] at hok ⊢
  have n0:nthL [m,tupV seen] 0=m:=rfl
  have n1:(nthL [m,tupV seen] 1).cs=seen:=rfl
  rw[n0,n1] at hok ⊢
  refine Out.bi2 hok (fun h17 hok=>?_) fun h17 hok=>Out.bi hok fun h12 hok=>?_
  · have:mr=none:=by
      rcases hm.of_nil (zaa.1 h17) with⟨_,h⟩ | ⟨_,h⟩ | ⟨_,h⟩ | ⟨_,h⟩ | ⟨_,h⟩<;>cases h;rfl
    subst this
    refine Out.same hr (zpb (zb7 false)) ?_
    simp only[Instr.next,Sem.run_bind,zfa ho,Result.andThen_ok,Sem.run_pure']
  · obtain⟨y,hy1,hy⟩:=hm.of_map (zaa.1 h12)
    cases hy1
    obtain⟨_,_,o',ho',hB'⟩:=hr.blk _ _ hy
    generalize hget H m.p=M at *
    refine Out.bi hok fun hk2 hok=>Out.bi hok fun he hok=>?_
    obtain⟨es,rfl,hes,_⟩:=hB'.map (zaa.1 hk2)
    have he':=zaa.1 he
    rw[he'] at ho' hes
    have hleft:=zyh seen hes
    have hnx:=zuC (P:=P) (ty:=ty) ho ho' hes.born
    generalize hLA:ziR seen M.cs=LA at *
    generalize (es.filter fun en=>!(zb5 seen).contains en.born)=L at *
    rcases hnx with⟨hL,hrun⟩ | ⟨j,en,w1,hat,hw1,hrun⟩
    · subst hL
      cases hleft
      exact Out.same hr (zpb (zb7 false)) hrun
    · obtain⟨a,ha,k,v,hacs,hap,hkr,hvr⟩:=hleft.at hat
      have hr1:HR P w0 H φ w1:=by
        rcases hw1 with rfl | rfl
        · exact hr
        · exact hr.drew
      have ho1:w1.heap[x]?=some (.mapIter (some y) B.e (zb5 seen).toArray B.e):=by rcases hw1 with rfl | rfl<;>exact ho
      have hmemS:∀ z ∈ setC H it.p (zjQ m B.e (appL seen [mk1 3 a.p])) (tupV [bV true,nthL a.cs 0,nthL a.cs 1]) c,z ∈ (List.rec (motive:=fun _=>RL) (c H (tupV [bV false])) (fun _ _ _=>zjR it.p B H c LA) LA:RL):=by
        intro z hz
        cases LA with
        | nil=>cases ha
        | cons b LA =>
          show z ∈ zjR it.p B H c (b::LA)
          unfold zjR
          rw[zdg]
          refine⟨a,ha,?_⟩
          rw[hcs,n0,n1];exact hz
      have hokS:AllOk (setC H it.p (zjQ m B.e (appL seen [mk1 3 a.p])) (tupV [bV true,nthL a.cs 0,nthL a.cs 1]) c):=fun z hz=>hok z (hmemS z hz)
      refine Out.sub ?_ hmemS
      obtain⟨s1,s2,s3⟩:=zbZ (w:=w1) (.mapIter (some y) B.e (zb5 seen++[en.born]).toArray B.e) ho1
      have hk0:=zaa.1 hk
      refine Out.set (x:=x) (o':=.mapIter (some y) B.e (zb5 seen++[en.born]).toArray B.e) hr1 hx (by rw[hBd];omega) ?_ ?_ hrun s1 s2 s3 rfl rfl rfl hokS (fun h=>by rw[hBd] at h;omega) (by rw[hBd];omega)
      · refine⟨(fun h=>by cases h),(fun h=>by cases h),fun _=>⟨m,appL seen [mk1 3 a.p],some y,rfl,hm,?_⟩,(fun h=>by exact no43 h)⟩
        rw[zaV]
        have:zb5 (seen++[mk1 3 a.p])=zb5 seen++[en.born]:=by simp[zb5,mk1,hap]
        rw[this];rfl
      · rw[hacs]
        exact zyi (zb7 true) hkr hvr
end Go.Eng
