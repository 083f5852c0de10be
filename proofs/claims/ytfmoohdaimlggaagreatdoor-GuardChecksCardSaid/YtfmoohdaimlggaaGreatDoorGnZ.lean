/- A part of the proof that the evaluator in GnC, and the driver in GnZ, answer as the model does; no conditions. -/
import Derived.Test.YtfmoohdaimlggaaGreatDoorGnC
namespace Go.Eng
noncomputable section
def zcY(o:Operand)(b:Bool)(T:Fr):Fr:=match o with
  | .tmp t=>bi (nble (Nat.succ t) 511) ((setB t).run T (bV b)) T
  | _=>T
def zdU:Fr:=zcL (zcL (zcL unkV))
def cl0(v:AV):Bool:=bi (nble v.tag 9) true (bi (nbeq v.tag 17) true (bi (nbeq v.tag 24) true (bi (nbeq v.tag 26) true (bi (nbeq v.tag 13) (nbeq (lenL v.cs) 0) false))))
def zbG(v:AV):Bool:=bi (cl0 v) true (bi (bi (nbeq v.tag 15) true (nbeq v.tag 16)) (allL cl0 v.cs) false)
abbrev Lab:=List Nat→Option (List (Nat × Nat))
def frzV(P:Program)(t:TypeId)(v:AV)(H:Hp):Option (AV × Hp):=bi (nbeq v.tag 13) (bi (cl0 v) (some (v,H)) none) <| om (zff P 20 t) none fun ts=>om (frzL P (frzE P 20) ts (cellsOf v) H) none fun x=>bi (bi (zaC P t) (nbeq v.tag 15) (bi (nbeq v.tag 15) false (nbeq (lenL x.1) 1))) (some (zbE (zaC P t) x.1,x.2)) none
def zdV(P:Program)(ts:List TypeId):List AV→Hp→Option (List AV × Hp):=List.rec (motive:=fun _=>List AV→Hp→Option (List AV × Hp))
  (fun vs H=>List.rec (motive:=fun _=>Option (List AV × Hp)) (some ([],H)) (fun _ _ _=>none) vs)
  (fun t _ ih vs H=>List.rec (motive:=fun _=>Option (List AV × Hp)) none (fun v vs _=>om (frzV P t v H) none fun x=>om (ih vs x.2) none fun y=>some (x.1::y.1,y.2)) vs) ts
def zrc(P:Program)(tm:Nat × Nat)(T:Fr)(H:Hp):Option (Fr × Hp):=bi (nble 1000 tm.2) (bi (nble (Nat.succ tm.1) 511) (om (frzV P (Nat.sub tm.2 1000) ((getB tm.1).run T) H) none fun x=>some ((setB tm.1).run T x.1,x.2)) none) (some (T,H))
def frzS(P:Program)(live:List (Nat × Nat)):Fr→Hp→Option (Fr × Hp):=List.rec (motive:=fun _=>Fr→Hp→Option (Fr × Hp)) (fun T H=>some (T,H)) (fun tm _ ih T H=>om (zrc P tm T H) none fun x=>ih x.1 x.2) live
def zl9(H:Hp)(v:AV):Option AV:=bi (nbeq v.tag 10) (bi (nbeq v.q 0) (bi (nbeq (hget H v.p).kind 1) (bi (nble (Nat.succ v.p) H.n) (bi (nble H.lim v.p) (bi (allL cl0 (hget H v.p).cs) (some ⟨16,0,(hget H v.p).t,(hget H v.p).e,0,(hget H v.p).cs⟩) none) none) none) none) none) none
def zhx(m:Nat)(H:Hp)(v:AV):Option AV:=bi (nbeq v.tag 25) (bi (nbeq (hget H v.q).kind 6) (bi (nbeq (hget H v.q).t m) (bi (nble (Nat.succ v.q) H.n) (bi (nble H.lim v.q) (some ⟨16,v.p,0,0,0,za4 v.r (hget H v.q).cs⟩) none) none) none) none)
    (bi (isNil v 1) (some ⟨16,0,0,0,0,[]⟩) (bi (nbeq v.tag 11) (bi (nbeq v.r 0) (bi (nbeq v.s 1) (some ⟨16,2,0,0,0,[]⟩) none) none) none))
def zob(m:Nat)(H:Hp)(cs:List AV):Nat→Option (List AV):=List.rec (motive:=fun _=>Nat→Option (List AV)) (fun _=>none) (fun c t ih j=>Nat.rec (motive:=fun _=>Option (List AV))
  (bi (allL cl0 t) (om (zhx m H c) none fun d=>some (d::t)) none) (fun j _=>bi (cl0 c) (om (ih j) none fun l=>some (c::l)) none) j) cs
def zjE(j m:Nat)(H:Hp)(v:AV):Option AV:=bi (nbeq v.tag 10) (bi (nbeq v.q 0) (bi (nbeq (hget H v.p).kind 1) (bi (nble (Nat.succ v.p) H.n) (bi (nble H.lim v.p) (om (zob m H (hget H v.p).cs j) none fun cs=>some ⟨16,0,(hget H v.p).t,(hget H v.p).e,0,cs⟩) none) none) none) none) none
def zvH(T:Fr)(H:Hp)(tm:Nat × Nat):Option AV:=Nat.rec (motive:=fun _=>Option AV)
  (bi (zbG ((getB tm.1).run T)) (some ((getB tm.1).run T)) none)
  (fun m _=>bi (nble 999 m) (bi (zbG ((getB tm.1).run T)) (some ((getB tm.1).run T)) none) (bi (nble 199 m) (zjE (Nat.div (Nat.sub m 199) 50) (Nat.mod (Nat.sub m 199) 50) H ((getB tm.1).run T)) (bi (nbeq m 99) (zl9 H ((getB tm.1).run T)) (zhx m H ((getB tm.1).run T))))) tm.2
def zmQ(T:Fr)(H:Hp)(live:List (Nat × Nat)):Option (List AV):=List.rec (motive:=fun _=>Option (List AV)) (some []) (fun tm _ ih=>om (zvH T H tm) none fun v=>om ih none fun l=>some (v::l)) live
def ownV(v:AV):List Nat:=bi (nbeq v.tag 25) [v.q] []
def ownQ(T:Fr)(H:Hp)(tm:Nat × Nat):List Nat:=Nat.rec (motive:=fun _=>List Nat) []
  (fun m _=>bi (nble 999 m) [] (bi (nble 199 m) (((getB tm.1).run T).p::ownV (nthL (hget H ((getB tm.1).run T).p).cs (Nat.div (Nat.sub m 199) 50))) (bi (nbeq m 99) [((getB tm.1).run T).p] (ownV ((getB tm.1).run T))))) tm.2
def zia(T:Fr)(H:Hp)(live:List (Nat × Nat)):List Nat:=List.rec (motive:=fun _=>List Nat) [] (fun tm _ ih=>appL (ownQ T H tm) ih) live
def memQ(n:Nat)(l:List Nat):Bool:=List.rec (motive:=fun _=>Bool) false (fun a _ ih=>bi (nbeq a n) true ih) l
def ziJ(l:List Nat):Bool:=List.rec (motive:=fun _=>Bool) true (fun a t ih=>bi (memQ a t) false ih) l
def ziK(live:List (Nat × Nat)):Bool:=List.rec (motive:=fun _=>Bool) true (fun tm _ ih=>bi (nble (Nat.succ tm.1) 511) ih false) live
def zrd(T:Fr)(H:Hp)(live:List (Nat × Nat)):Option (List AV):=bi (bi (nbeq (lenL (zaK T)) 0) (ziJ (zia T H live)) false) (zmQ T H live) none
def zfp(live:List (Nat × Nat)):List AV→Fr→Hp→(Fr→Hp→RL)→RL:=List.rec (motive:=fun _=>List AV→Fr→Hp→(Fr→Hp→RL)→RL)
  (fun ds T H c=>List.rec (motive:=fun _=>RL) (c T H) (fun _ _ _=>zab 242) ds)
  (fun tm _ ih ds T H c=>List.rec (motive:=fun _=>RL) (zab 242) (fun d ds _=>Nat.rec (motive:=fun _=>RL) (ih ds ((setB tm.1).run T d) H c)
    (fun m _=>bi (nble 999 m) (ih ds ((setB tm.1).run T d) H c) (bi (nble H.n 32765)
      (bi (nble 199 m) ((fun j m:Nat=>(fun dl:AV=>ih ds ((setB tm.1).run T ⟨10,Nat.succ H.n,0,0,0,[]⟩) (hnew (hnew H ⟨6,m,0,dl.cs⟩) ⟨1,d.q,d.r,putN ⟨25,dl.p,H.n,lenL dl.cs,0,[]⟩ j d.cs⟩) c) (nthL d.cs j)) (Nat.div (Nat.sub m 199) 50) (Nat.mod (Nat.sub m 199) 50))
        (bi (nbeq m 99) (ih ds ((setB tm.1).run T ⟨10,H.n,0,0,0,[]⟩) (hnew H ⟨1,d.q,d.r,d.cs⟩) c)
          (ih ds ((setB tm.1).run T ⟨25,d.p,H.n,lenL d.cs,0,[]⟩) (hnew H ⟨6,m,0,d.cs⟩) c))) (zab 242))) tm.2) ds) live
section
variable (P:Program) (N:Nat) (lab:Lab) (Hb:Hp) (r:Rec) (fin:BR) (top:Code)
abbrev Jmp:=List Nat→List AV→RL
def zib(jmp:Jmp)(q:List Nat):BR:=⟨fun _ T H=>om (lab q) (zab 240) fun live=>om (frzS P live T H) (zab 239) fun x=>om (zrd x.1 x.2 live) (zab 241) fun ds=>jmp q ds⟩
def zf4(sz:Nat)(z:AV):Box (AV→AV→Hp→Kont→RL):=⟨fun l m H c=>bi (nbeq l.tag 3) (bi (nbeq m.tag 3) (bi (nble l.p m.p) (bi (nble m.p 100000)
  (newC H ⟨6,sz,0,repC m.p [z]⟩ (fun b=>⟨25,1,b,l.p,0,[]⟩) c) (zab 12)) (zab 12)) (zab 12)) (zab 12)⟩
def zre(o:Oper)(t:TypeId)(l m:Operand)(k:BR):BR:=match (tyB P t).run with
  | some (.slice e)=>om (szB P e).run (opK P N o k) fun sz=>om (btB P e).run (opK P N o k) fun bt=>om (zeB P e).run (opK P N o k) fun z=>bi (bi (nble bt 1000000) (bi (nble 1 sz) (bi (nbeq (lenL (cellsOf z)) sz) (bi (allL (fun c=>nble c.tag 9) (cellsOf z)) (zaO z) false) false) false) false)
      ⟨fun r T H=>(zf4 sz z).run ((getO P l).run T) ((getO P m).run T) H fun H v=>(putK N o.dst k).run r T H v⟩ (opK P N o k)
  | _=>opK P N o k
def opY(o:Oper)(k:BR):BR:=match o.op with
  | .makeSlice t l m=>zre P N o t l m k
  | .pick a b d=>⟨fun r T H=>bi (nbeq ((getO P a).run T).tag 8) (bi (nbeq ((getO P a).run T).p 1) ((putK N o.dst k).run r (zcY a true T) H ((getO P b).run T)) ((putK N o.dst k).run r (zcY a false T) H ((getO P d).run T))) (zab 243)⟩
  | _=>opK P N o k
def opGY(all:Array Oper)(o:Oper)(k:BR):BR:=match o.guard with
  | none=>opY P N o k
  | some (j,want)=>match (all[j]?).bind (·.dst) with
    | some d=>bi (nble (Nat.succ d) N) ⟨fun r T H=>bi (nbeq ((getB d).run T).tag 8) (bi (nbeq ((getB d).run T).p (bi want 1 0)) ((opY P N o k).run r (zcY (.tmp d) want T) H) ((putK N o.dst k).run r (zcY (.tmp d) (nb want) T) H udV))
        (bi (nbeq ((getB d).run T).tag 19) ((putK N o.dst k).run r T H udV) (zab 40))⟩ ⟨fun _ _ _=>zab 40⟩
    | none=>⟨fun _ _ _=>zab 40⟩
def opsY(all:Array Oper)(l:List Oper)(k:BR):BR:=match l with
  | []=>k
  | o::l=>opGY P N all o (opsY all l k)
def zeD(i:Nat)(ks:List (Nat × BR)):BR:=List.rec (motive:=fun _=>BR) ⟨fun _ _ _=>zab 244⟩ (fun a _ ih=>bi (nbeq a.1 i) a.2 ih) ks
def atY(jmp:Jmp)(q:List Nat)(k:BR):BR:=om (lab q) k fun _=>zib P lab jmp q
def zaB(jmp:Jmp)(rp:List Nat)(c:Code)(k:BR)(ks:List (Nat × BR)):BR:=match c with
  | .skip=>k
  | .label _=>k
  | .ret=>fin
  | .exit i=>zeD i ks
  | .seq a b=>zaB jmp (0::rp) a (atY P lab jmp (1::rp) (zaB jmp (1::rp) b k ks)) ks
  | .cond c a b=>⟨fun r T H=>bi (nbeq ((getO P c).run T).tag 8) (bi (nbeq ((getO P c).run T).p 1) ((zaB jmp (0::rp) a k ks).run r (zcY c true T) H) ((zaB jmp (1::rp) b k ks).run r (zcY c false T) H)) (zab 245)⟩
  | .block i c=>zaB jmp (0::rp) c k ((i,k)::ks)
  | .loop _=>zib P lab jmp (0::rp)
  | .region _ ops draw=>bi draw (ziS P N ops k) (opsY P N ops ops.toList k)
  | .scope c=>zaB jmp (0::rp) c k ks
  | _=>⟨fun _ _ _=>zab 246⟩
structure CtxY where
  c:Code
  k:BR
  ks:List (Nat × BR)
def kidY(jmp:Jmp)(rp:List Nat)(d:Nat)(x:CtxY):Option CtxY:=match x.c,d with
  | .seq a b,0=>some ⟨a,atY P lab jmp (1::rp) (zaB P N lab fin jmp (1::rp) b x.k x.ks),x.ks⟩
  | .seq _ b,1=>some ⟨b,x.k,x.ks⟩
  | .cond _ a _,0=>some ⟨a,x.k,x.ks⟩
  | .cond _ _ b,1=>some ⟨b,x.k,x.ks⟩
  | .block i c,0=>some ⟨c,x.k,(i,x.k)::x.ks⟩
  | .loop c,0=>some ⟨c,zib P lab jmp (0::rp),x.ks⟩
  | .scope c,0=>some ⟨c,x.k,x.ks⟩
  | _,_=>none
def zc2(jmp:Jmp)(rp:List Nat):Option CtxY:=match rp with
  | []=>some ⟨top,fin,[]⟩
  | d::rp=>om (zc2 jmp rp) none fun x=>kidY P N lab fin jmp rp d x
def lblY(jmp:Jmp):Jmp:=fun q ds=>om (zc2 P N lab fin top jmp q) (zab 247) fun x=>om (lab q) (zab 247) fun live=>bi (ziK live) (zfp live ds zdU Hb fun T H=>(zaB P N lab fin jmp q x.c x.k x.ks).run r T H) (zab 247)
def jmpN(n:Nat):Jmp:=Nat.rec (motive:=fun _=>Jmp) (fun _ _=>zab 98) (fun _ ih=>lblY P N lab Hb r fin top ih) n
def zt5(n:Nat)(args:List AV):RL:=(zaB P N lab fin (jmpN P N lab Hb r fin top n) [] top fin []).run r (zar 0 args noFr) Hb
def ansY(v:AV):RL:=[⟨5,0,(setB 0).run noFr v,noH⟩]
def finY(rs:List ResultVar)(ts:List TypeId):BR:=⟨fun _ T H=>bi (nb (nbeq (lenL (zaK T)) 0)) (zab 248) <| om ((zbM P rs).run T H) (zab 248) fun v=>match ts with
  | [t]=>om (frzV P t v H) (zab 249) fun x=>ansY x.1
  | ts=>bi (nbeq v.tag 16) (om (zdV P ts v.cs H) (zab 249) fun x=>ansY (tupV x.1)) (zab 249)⟩
end
end
end Go.Eng
