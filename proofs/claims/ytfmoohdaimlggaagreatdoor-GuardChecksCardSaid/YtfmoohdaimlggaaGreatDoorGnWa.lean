/- A part of the proof that the evaluator in GnC, and the driver in GnZ, answer as the model does; no conditions. -/
import Derived.Test.YtfmoohdaimlggaaGreatDoorGnZ
import Derived.Test.YtfmoohdaimlggaaGreatDoorGnZb
import Derived.Test.YtfmoohdaimlggaaGreatDoorGnLb
namespace Go.Eng
open Go.RowKit
def zvG(P:Program)(l:Nat)(args:Array Value)(w:World)(R:Ending→World→Prop):Prop:=∃ f tmps assign body,(Instr.yield l args).run P w=.ok (.round l f tmps assign body) w∧∀ ro,RoundIn (fen ro) 0 P l f tmps assign body w R
def zmM(P:Program)(val:Value)(vals:List Value)(w:World)(R:Ending→World→Prop):Prop :=
  (∃ f first cap fn,val=.func (.func f) first cap∧P.funcs[f]?=some fn∧fn.body.isNone=false∧(fn.name == "runtime.NumGoroutine")=false∧Calls P f (first++vals.toArray++cap) w R) ∨
  ∃ l,val=.func (.yield l) #[] #[]∧zvG P l vals.toArray w R
structure CbOk(P:Program)(cb:Value)(es:List AV)(J:Nat→(Nat→Option (List Value))→World→Prop)(E:World→Prop):Prop where
  fn:cb.oneCell'=true∧cb.cells=#[cb]
  more:∀ i z z1 W W1,J i z W→Below W.heap.size W W1→(∀ x C,z x=some C→z1 x=some C)→(∀ x C,z1 x=some C→z x=some C ∨ W.heap.size≤x)→zd4 z1 W1→J i z1 W1
  laterE:∀ W W',E W→Below W.heap.size W W'→E W'
  holdE:∀ W,E W→P.globals.size≤W.heap.size
  hold:∀ i z W,J i z W→zd4 z W∧P.globals.size≤W.heap.size
  step:∀ (i:Nat) (e:AV),es[i]?=some e→∀ (W:World) (z:Nat→Option (List Value)) (v:Value),J i z W→FV z e v →
    zmM P cb [v] W fun e W'=>(e=.returned (.bool true)∧J (i+1) z W') ∨ (e=.returned (.bool false)∧E W')
def zhT(P:Program)(fn:Nat)(caps es:List AV):Prop:=∀ (z:Nat→Option (List Value)) (w:World) (cvals:List Value) (cb:Value) (J:Nat→(Nat→Option (List Value))→World→Prop) (E:World→Prop),
  CbOk P cb es J E→FVs z caps cvals→J 0 z w→Calls P fn (cb::cvals).toArray w fun e W'=>(∃ v,e=.returned v)∧((∃ z',J es.length z' W') ∨ E W')
noncomputable section
def idxN(b:Nat)(l:List Nat):Nat→Option Nat:=List.rec (motive:=fun _=>Nat→Option Nat) (fun _=>none) (fun a _ ih i=>bi (nbeq a b) (some i) (ih (Nat.succ i))) l
def rnI(lim:Nat)(seen:List Nat)(b:Nat):Option Nat:=bi (nble (Nat.succ b) lim) (some b) (idxN b seen lim)
def rnL{α β:Type}(f:α→Option β)(l:List α):Option (List β):=List.rec (motive:=fun _=>Option (List β)) (some []) (fun a _ ih=>om (f a) none fun x=>om ih none fun y=>some (x::y)) l
def isPB(v:AV):Bool:=bi (nbeq v.tag 10) true (bi (nbeq v.tag 11) true (nbeq v.tag 27))
def isCB(v:AV):Bool:=bi (nbeq v.tag 13) true (bi (nbeq v.tag 15) true (nbeq v.tag 16))
def rnV(g:Nat→Option Nat)(fuel:Nat):AV→Option AV:=Nat.rec (motive:=fun _=>AV→Option AV) (fun _=>none) (fun _ ih v =>
  bi (isPB v) (om (g v.p) none fun p=>some ⟨v.tag,p,v.q,v.r,v.s,[]⟩)
    (bi (nbeq v.tag 12) (om (g v.p) none fun p=>some ⟨12,p,1,0,0,[]⟩)
      (bi (nbeq v.tag 25) (om (g v.q) none fun q=>some ⟨25,v.p,q,v.r,v.s,[]⟩)
        (bi (isCB v) (om (rnL ih v.cs) none fun cs=>some ⟨v.tag,v.p,v.q,v.r,v.s,cs⟩)
          (bi (bi (nbeq v.tag 14) true (bi (nbeq v.tag 23) true (nble 28 v.tag))) none (some v)))))) fuel
def zf2(e:AV):Bool:=bi (zbG (nthL e.cs 0)) (zbG (nthL e.cs 1)) false
def rnB(f:AV→Option AV)(B:AB):Option AB:=bi (nbeq B.kind 1) (bi (nble B.e 1) (om (rnL f B.cs) none fun cs=>some ⟨1,B.t,B.e,cs⟩) none)
  (bi (bi (nbeq B.kind 2) true (bi (nbeq B.kind 4) true (nbeq B.kind 6))) (some B) none)
def zho(l:List AV):Bool:=allL zf2 l
def ze7(H:Hp)(l:List Nat):Bool:=allL (fun b=>bi (nbeq (hget H b).kind 2) (zho (hget H b).cs) true) l
def zmN(B:AB):List AV:=bi (nbeq B.kind 1) B.cs []
def ze8(H:Hp)(lim fuel:Nat):List AV→List Nat→Option (List Nat):=Nat.rec (motive:=fun _=>List AV→List Nat→Option (List Nat))
  (fun todo seen=>List.rec (motive:=fun _=>Option (List Nat)) (some seen) (fun _ _ _=>none) todo)
  (fun _ ih todo seen=>List.rec (motive:=fun _=>Option (List Nat)) (some seen) (fun v t _ =>
    bi (bi (isPB v) true (bi (nbeq v.tag 12) true (nbeq v.tag 25)))
      ((fun b:Nat=>bi (nble (Nat.succ b) lim) (ih t seen) (bi (memQ b seen) (ih t seen) (bi (bi (nbeq v.tag 25) (nb (nbeq (hget H b).kind 6)) false) none (ih (appL (zmN (hget H b)) t) (appL seen [b]))))) (bi (nbeq v.tag 25) v.q v.p))
      (bi (isCB v) (ih (appL v.cs t) seen) (ih t seen))) todo) fuel
def zfb(a n:Nat):List Nat:=Nat.rec (motive:=fun _=>Nat→List Nat) (fun _=>[]) (fun _ ih a=>a::ih (Nat.succ a)) n a
def ztn(H:Hp)(l:List Nat):List AV:=List.rec (motive:=fun _=>List AV) [] (fun b _ ih=>appL (zmN (hget H b)) ih) l
structure Pk where
  vs:List AV
  ms:List AV
  bs:List AB
  seen:List Nat
def encB(B:AB):AV:=⟨16,B.kind,B.t,B.e,0,B.cs⟩
def decB(v:AV):AB:=⟨v.p,v.q,v.r,v.cs⟩
def mpL{α β:Type}(f:α→β)(l:List α):List β:=List.rec (motive:=fun _=>List β) [] (fun a _ ih=>f a::ih) l
def zkJ(lim n:Nat)(l:List Nat):Bool:=bi (ziJ l) (bi (allL (fun b=>bi (nble lim b) (nble (Nat.succ b) n) false) l) (nble (Nat.add lim (lenL l)) 32766) false) false
def zjq(lim:Nat)(vs ms:List AV)(H:Hp)(seen:List Nat):Option Pk:=bi (zkJ lim H.n seen)
  (om (rnL (rnV (rnI lim seen) 20) vs) none fun vs=>om (rnL (fun m:AV=>om (rnI lim seen m.p) none fun p=>some (mk1 3 p)) ms) none fun ms=>om (rnL (fun b=>rnB (rnV (rnI lim seen) 20) (hget H b)) seen) none fun bs=>some ⟨vs,ms,bs,seen⟩) none
def zhU(lim k:Nat)(vs ms:List AV)(H:Hp):Option Pk :=
  om (ze8 H lim 400 (appL vs (ztn H (zfb lim k))) (appL (zfb lim k) (mpL (fun m:AV=>m.p) ms))) none fun seen=>zjq lim vs ms H seen
def pkDs(x:Pk):List AV:=[tupV x.vs,tupV x.ms,tupV (mpL encB x.bs)]
def znQ(v:AV):Bool:=bi (isNil v 1) true (bi (nbeq v.tag 24) (nbeq v.p 0) false)
def ownN(m:Nat)(v:AV)(H:Hp):Option (AV × Hp):=bi (nbeq v.tag 25) (some (v,H)) (bi (nble H.n 32766)
  (bi (znQ v) (some (⟨25,0,H.n,0,0,[]⟩,hnew H ⟨6,m,0,[]⟩)) (bi (nbeq v.tag 11) (bi (nbeq v.r 0) (bi (nbeq v.s 1) (some (⟨25,2,H.n,0,0,[]⟩,hnew H ⟨6,m,0,[]⟩)) none) none) none)) none)
def nrmV(P:Program)(mode:Nat)(v:AV)(H:Hp):Option (AV × Hp):=Nat.rec (motive:=fun _=>Option (AV × Hp)) (some (v,H)) (fun m _=>bi (nble 1000 (Nat.succ m)) (frzV P (Nat.sub (Nat.succ m) 1000) v H) (ownN m v H)) mode
def zkK(P:Program)(l:List Nat):List AV→Hp→Option (List AV × Hp):=List.rec (motive:=fun _=>List AV→Hp→Option (List AV × Hp))
  (fun vs H=>List.rec (motive:=fun _=>Option (List AV × Hp)) (some ([],H)) (fun _ _ _=>none) vs)
  (fun m _ ih vs H=>List.rec (motive:=fun _=>Option (List AV × Hp)) none (fun v vs _=>om (nrmV P m v H) none fun x=>om (ih vs x.2) none fun y=>some (x.1::y.1,y.2)) vs) l
def nrw1(P:Program)(x:Nat × Nat × Nat)(T:Fr)(H:Hp):Option (Fr × Hp):=bi (nble (Nat.succ x.1) 511)
  (Nat.rec (motive:=fun _=>Option (Fr × Hp)) (om (nrmV P x.2.2 ((getB x.1).run T) H) none fun y=>some ((setB x.1).run T y.1,y.2))
    (fun j _=>(fun a:AV=>bi (nbeq a.tag 10) (bi (nbeq (hget H a.p).kind 1) (bi (nble H.lim a.p) (bi (nble (Nat.succ (Nat.add a.q j)) (lenL (hget H a.p).cs)) (om (nrmV P x.2.2 (nthL (hget H a.p).cs (Nat.add a.q j)) H) none fun y =>
      bi (bi (nbeq (hget y.2 a.p).kind 1) (bi (nble y.2.lim a.p) (nble (Nat.succ (Nat.add a.q j)) (lenL (hget y.2 a.p).cs)) false) false) (bi (za6 y.1) (some (T,hset y.2 a.p ⟨1,(hget y.2 a.p).t,(hget y.2 a.p).e,putN y.1 (Nat.add a.q j) (hget y.2 a.p).cs⟩)) none) none) none) none) none) none) ((getB x.1).run T)) x.2.1) none
def nrmS(P:Program)(l:List (Nat × Nat × Nat)):Fr→Hp→Option (Fr × Hp):=List.rec (motive:=fun _=>Fr→Hp→Option (Fr × Hp)) (fun T H=>some (T,H)) (fun x _ ih T H=>om (nrw1 P x T H) none fun y=>ih y.1 y.2) l
def cl1(v:AV):Bool:=bi (nble v.tag 9) true (bi (nbeq v.tag 24) true (nbeq v.tag 26))
def ze9(agg:Bool)(sz n:Nat)(cs:List AV):List AV:=Nat.rec (motive:=fun _=>List AV→List AV) (fun _=>[]) (fun _ ih cs=>zbE agg (za4 sz cs)::ih (zbJ cs sz)) n cs
def zhV(agg:Bool)(sz:Nat)(pl:List (Nat × Nat))(z:List AV)(len:Nat):Box (List AV→Hp→Kont→RL):=⟨fun vs H c=>om (zgh pl vs z) (zab 5) fun cs=>bi (bi (allL cl1 cs) (nbeq (lenL cs) (Nat.mul len sz)) false)
  (newC H ⟨6,sz,0,ze9 agg sz len cs⟩ (fun b=>⟨25,1,b,len,0,[]⟩) c) (newC H (zbt cs 1) (fun b=>slV b 0 len (exS len)) c)⟩
structure LW where
  slots:List Nat
  nrm:List (Nat × Nat × Nat)
abbrev LabW:=List Nat→Option LW
def zqX(l:List Nat)(T:Fr):List AV:=mpL (fun t=>(getB t).run T) l
def zkL(l:List Nat):List AV→Fr→Option Fr:=List.rec (motive:=fun _=>List AV→Fr→Option Fr) (fun vs T=>List.rec (motive:=fun _=>Option Fr) (some T) (fun _ _ _=>none) vs)
  (fun t _ ih vs T=>List.rec (motive:=fun _=>Option Fr) none (fun v vs _=>bi (nble (Nat.succ t) 511) (ih vs ((setB t).run T v)) none) vs) l
def zhW(ms:List AV)(T:Fr):Fr:=List.rec (motive:=fun _=>Fr) T (fun m _ ih=>zcF ih m.p) ms
def zbR(l:List AV):Hp→Hp:=List.rec (motive:=fun _=>Hp→Hp) (fun H=>H) (fun a _ ih H=>ih (hnew H (decB a))) l
def zbk(P:Program):Hp:=⟨noH.t,P.globals.size,P.globals.size⟩
abbrev Gens:=Nat→Option (List AV→List AV)
section
variable (P:Program) (N:Nat) (lab:LabW) (k0:Nat) (Gn:Gens) (r:Rec) (top:Code)
def zqY(o:Oper)(t:TypeId)(len:Nat)(parts:Array (Nat × Operand))(k:BR):BR:=match (tyB P t).run with
  | some (.slice e)=>om (szB P e).run (opK P N o k) fun sz=>om (zeB P e).run (opK P N o k) fun z=>om (zbS (fun i=>some (i * sz,sz)) (parts.toList.map (·.1))) (opK P N o k) fun pl =>
      bi (bi (nble (Nat.mul len sz) 100000) (bi (nbeq (lenL (cellsOf z)) sz) (bi (nble 1 sz) (bi (zaC P e) true (nbeq sz 1)) false) false) false)
        ⟨fun r T H=>(zhV (zaC P e) sz pl (repC len (cellsOf z)) len).run ((zbT P (parts.toList.map (·.2))).run T) H fun H v=>(putK N o.dst k).run r T H v⟩ (opK P N o k)
  | _=>opK P N o k
def opW(o:Oper)(k:BR):BR:=match o.op with
  | .buildSlice t len parts=>zqY P N o t len parts k
  | _=>opY P N o k
def opGW(all:Array Oper)(o:Oper)(k:BR):BR:=match o.guard with
  | none=>opW P N o k
  | some (j,want)=>match (all[j]?).bind (·.dst) with
    | some d=>bi (nble (Nat.succ d) N) ⟨fun r T H=>bi (nbeq ((getB d).run T).tag 8) (bi (nbeq ((getB d).run T).p (bi want 1 0)) ((opW P N o k).run r (zcY (.tmp d) want T) H) ((putK N o.dst k).run r (zcY (.tmp d) (nb want) T) H udV))
        (bi (nbeq ((getB d).run T).tag 19) ((putK N o.dst k).run r T H udV) (zab 40))⟩ ⟨fun _ _ _=>zab 40⟩
    | none=>⟨fun _ _ _=>zab 40⟩
def opsW(all:Array Oper)(l:List Oper)(k:BR):BR:=match l with
  | []=>k
  | o::l=>opGW P N all o (opsW all l k)
def zfc(jmp:Jmp)(q:List Nat)(pre:List AV)(T:Fr)(H:Hp):RL:=om (lab q) (zab 240) fun live=>om (nrmS P live.nrm T H) (zab 239) fun x=>om (zhU P.globals.size k0 (zqX live.slots x.1) (zaK x.1) x.2) (zab 241) fun y =>
  bi (ze7 x.2 y.seen) (jmp q (appL pre (pkDs y))) (zab 238)
def zhX(jmp:Jmp)(q:List Nat):BR:=⟨fun _ T H=>zfc P lab k0 jmp q [] T H⟩
def atW(jmp:Jmp)(q:List Nat)(k:BR):BR:=om (lab q) k fun _=>zhX P lab k0 jmp q
def zhp(v:AV)(H:Hp):Option (AV × Hp):=bi (zbG v) (some (v,H)) (bi (nbeq v.tag 10) (bi (nbeq v.q 0) (bi (nbeq (hget H v.p).kind 1) (bi (nbeq (hget H v.p).e 1) (bi (nble H.lim v.p) (bi (nble 1 (lenL (hget H v.p).cs)) (bi (allL cl1 (hget H v.p).cs)
  (some (⟨26,0,0,0,0,[aggV (hget H v.p).cs]⟩,hset H v.p noB)) none) none) none) none) none) none) none)
def zhq(l:List AV):Hp→Option (List AV × Hp):=List.rec (motive:=fun _=>Hp→Option (List AV × Hp)) (fun H=>some ([],H)) (fun v _ ih H=>om (zhp v H) none fun x=>om (ih x.2) none fun y=>some (x.1::y.1,y.2)) l
def znR(jmp:Jmp)(rp:List Nat)(g:Operand):BR:=⟨fun _ T H=>newC H ⟨4,0,0,[]⟩ yldV fun H' _=>(fun v:AV=>bi (nbeq v.tag 13) (bi (nbeq v.q 0) (om (Gn v.p) (zab 250) fun L=>om (zhq v.cs H') (zab 250) fun x =>
  bi (nbeq (okN (zhT P v.p x.1 (L x.1))) 1) (zfc P lab k0 jmp (9::rp) [tupV (L x.1)] (zcF T H.n) x.2) (zab 301)) (zab 250)) (zab 250)) ((getO P g).run T)⟩
def zbm(jmp:Jmp)(fin:BR)(rp:List Nat)(c:Code)(k:BR)(ks:List (Nat × BR)):BR:=match c with
  | .skip=>k
  | .label _=>k
  | .ret=>fin
  | .exit i=>zeD i ks
  | .seq a b=>zbm jmp fin (0::rp) a (atW P lab k0 jmp (1::rp) (zbm jmp fin (1::rp) b k ks)) ks
  | .cond c a b=>⟨fun r T H=>bi (nbeq ((getO P c).run T).tag 8) (bi (nbeq ((getO P c).run T).p 1) ((zbm jmp fin (0::rp) a k ks).run r (zcY c true T) H) ((zbm jmp fin (1::rp) b k ks).run r (zcY c false T) H)) (zab 245)⟩
  | .block i c=>zbm jmp fin (0::rp) c k ((i,k)::ks)
  | .loop _=>zhX P lab k0 jmp (0::rp)
  | .region _ ops draw=>bi draw (ziS P N ops k) (opsW P N ops ops.toList k)
  | .scope c=>zbm jmp fin (0::rp) c k ks
  | .rangeFunc g _ _ _=>znR P lab k0 Gn jmp rp g
  | _=>⟨fun _ _ _=>zab 246⟩
structure CtxW where
  c:Code
  k:BR
  ks:List (Nat × BR)
def kidW(jmp:Jmp)(fin:BR)(rp:List Nat)(d:Nat)(x:CtxW):Option CtxW:=match x.c,d with
  | .seq a b,0=>some ⟨a,atW P lab k0 jmp (1::rp) (zbm P N lab k0 Gn jmp fin (1::rp) b x.k x.ks),x.ks⟩
  | .seq _ b,1=>some ⟨b,x.k,x.ks⟩
  | .cond _ a _,0=>some ⟨a,x.k,x.ks⟩
  | .cond _ _ b,1=>some ⟨b,x.k,x.ks⟩
  | .block i c,0=>some ⟨c,x.k,(i,x.k)::x.ks⟩
  | .loop c,0=>some ⟨c,zhX P lab k0 jmp (0::rp),x.ks⟩
  | .scope c,0=>some ⟨c,x.k,x.ks⟩
  | _,_=>none
def ctxW(jmp:Jmp)(fin:BR)(rp:List Nat):Option CtxW:=match rp with
  | []=>some ⟨top,fin,[]⟩
  | d::rp=>om (ctxW jmp fin rp) none fun x=>kidW P N lab k0 Gn jmp fin rp d x
def zgd(live:LW)(ds:List AV)(c:Fr→Hp→RL):RL:=om (zkL live.slots (nthL ds 0).cs zdU) (zab 242) fun T=>c (zhW (nthL ds 1).cs T) (zbR (nthL ds 2).cs (zbk P))
def jmp0:Jmp:=fun _ _=>zab 251
def offT(T:Fr)(k:BR):BR:=⟨fun r _ H=>k.run r T H⟩
def offK(T:Fr)(ks:List (Nat × BR)):List (Nat × BR):=mpL (fun x:Nat × BR=>(x.1,offT T x.2)) ks
def ziF(jmp:Jmp)(fin:BR)(rp:List Nat)(ps:List Nat)(as body:Code)(k:BR)(ks:List (Nat × BR))(es:List AV)(T:Fr)(H:Hp):RL:=List.rec (motive:=fun _=>RL) (k.run r T H) (fun e es _ =>
  bi (bi (nbeq (lenL ps) 1) (allL (fun p=>nble (Nat.succ p) N) ps) false)
    ((zbm P N (fun _=>none) k0 (fun _=>none) jmp0 ⟨fun _ _ _=>zab 253⟩ (0::rp) as
      (zbm P N (fun _=>none) k0 (fun _=>none) jmp0 (offT T fin) (1::rp) body ⟨fun _ _ H=>zfc P lab k0 jmp (9::rp) [tupV es] T H⟩ (offK T ks)) []).run r (zgk ps [e] (noMk T)) H) (zab 254)) es
def lblW(fin:BR)(jmp:Jmp):Jmp:=fun q ds=>match q with
  | 9::rp=>om (ctxW P N lab k0 Gn top jmp fin rp) (zab 247) fun x=>(match x.c with
    | .rangeFunc _ ps as body=>om (lab (9::rp)) (zab 247) fun live=>zgd P live (zbJ ds 1) fun T H=>ziF P N lab k0 r jmp fin rp ps.toList as body x.k x.ks (nthL ds 0).cs T H
    | _=>zab 247)
  | q=>om (ctxW P N lab k0 Gn top jmp fin q) (zab 247) fun x=>om (lab q) (zab 247) fun live=>zgd P live ds fun T H=>(zbm P N lab k0 Gn jmp fin q x.c x.k x.ks).run r T H
def jmpW(fin:BR)(n:Nat):Jmp:=Nat.rec (motive:=fun _=>Jmp) (fun _ _=>zab 98) (fun _ ih=>lblW P N lab k0 Gn r top fin ih) n
def zeA(fin:BR)(n:Nat)(args:List AV)(bs:List AV):RL:=(zbm P N lab k0 Gn (jmpW P N lab k0 Gn r top fin n) fin [] top fin []).run r (zar 0 args noFr) (zbR bs (zbk P))
def finW(rs:List ResultVar)(nrm:List Nat):BR:=⟨fun _ T H=>om (zfv (zaK T) H) (zab 248) fun H=>om ((zbM P rs).run T H) (zab 248) fun v=>om (zkK P nrm (bi (nbeq v.tag 16) v.cs [v]) H) (zab 249) fun z=>om (zhU P.globals.size k0 z.1 [] z.2) (zab 249) fun y =>
  bi (ze7 z.2 y.seen) (ansY (tupV [bi (nbeq v.tag 16) (tupV y.vs) (nthL y.vs 0),tupV (mpL encB y.bs)])) (zab 249)⟩
end
end
end Go.Eng
namespace Go.Eng
open Go.RowKit
variable {P:Program} {w0:World} {H Hb:Hp} {φ φ0 φ':Ph} {w:World} {N:Nat} {T:Fr} {a:Act} {r:Rec}
theorem zto{b:Nat}:∀ {l:List Nat} {i j:Nat},idxN b l i=some j→∃ n,l[n]?=some b∧j=i+n:=by
  intro l
  induction l with
  | nil=>intro i j h;cases h
  | cons a l ih =>
    intro i j h
    have h':bi (nbeq a b) (some i) (idxN b l (Nat.succ i))=some j:=h
    cases hb:nbeq a b
    · rw[hb,zai] at h'
      obtain⟨n,h1,h2⟩:=ih h'
      exact⟨n+1,by simpa using h1,by omega⟩
    · rw[hb,zag] at h'
      cases h'
      exact⟨0,by simp[zaa.1 hb],rfl⟩
theorem zuJ{lim:Nat}{seen:List Nat}{b p:Nat}(h:rnI lim seen b=some p):(b<lim∧p=b) ∨ (lim≤b∧∃ i,seen[i]?=some b∧p=lim+i):=by
  unfold rnI at h
  cases hb:nble (Nat.succ b) lim
  · rw[hb,zai] at h
    obtain⟨n,h1,h2⟩:=zto h
    exact .inr ⟨by have:=zaW.1 hb;omega,n,h1,h2⟩
  · rw[hb,zag] at h
    cases h
    exact .inl ⟨zah.1 hb,rfl⟩
structure Ren(φ φ':Ph)(g:Nat→Option Nat):Prop where
  map:∀ b p x,g b=some p→φ b=some x→φ' p=some x∧φ'.k x=φ.k x∧φ'.tl p=φ.tl b
  fz:∀ x C,φ.fz x=some C→φ'.fz x=some C
theorem zge{α β:Type}{f:α→Option β}{a:α}{l:List α}{r:List β}(h:rnL f (a::l)=some r):∃ x y,f a=some x∧rnL f l=some y∧r=x::y:=by
  have h':om (f a) none (fun x=>om (rnL f l) none fun y=>some (x::y))=some r:=h
  obtain⟨x,h1,h'⟩:=za1 h'
  obtain⟨y,h2,h'⟩:=za1 h'
  cases h'
  exact⟨x,y,h1,h2,rfl⟩
theorem zyl{α β:Type}{f:α→Option β}:∀ {l:List α} {r:List β},rnL f l=some r→r.length=l.length∧∀ (i:Nat) (a:α),l[i]?=some a→∃ b:β,f a=some b∧r[i]?=some b:=by
  intro l
  induction l with
  | nil=>intro r h;cases h;exact⟨rfl,fun i a h=>by simp at h⟩
  | cons c l ih =>
    intro r h
    obtain⟨x,y,h1,h2,rfl⟩:=zge h
    obtain⟨g1,g2⟩:=ih h2
    refine⟨by simp[g1],fun i a ha=>?_⟩
    cases i with
    | zero=>simp at ha;subst ha;exact⟨x,h1,rfl⟩
    | succ i=>simpa using g2 i a (by simpa using ha)
theorem zkM{a b:AV}(h:a.tag=b.tag):za6 a=za6 b:=by unfold za6;rw[h]
theorem z0K{g:Nat→Option Nat}(hg:Ren φ φ' g)(n:Nat):∀ {v v':AV} {val:Value},rnV g n v=some v'→VR φ v val→VR φ' v' val∧v'.tag=v.tag:=by
  induction n with
  | zero=>intro v v' val h;cases h
  | succ n ih =>
    intro v v' val h hv
    have ihl:∀ {cs cs':List AV} {vs:List Value},rnL (rnV g n) cs=some cs'→VRs φ cs vs→VRs φ' cs' vs∧((∀ c ∈ cs,za6 c=true)→∀ c ∈ cs',za6 c=true):=by
      intro cs
      induction cs with
      | nil=>intro cs' vs h hv;cases h;cases hv;exact⟨.nil,fun _ c hc=>by cases hc⟩
      | cons c cs ihc =>
        intro cs' vs h hv
        obtain⟨x,y,h1,h2,rfl⟩:=zge h
        cases hv with
        | cons g1 g2 =>
          obtain⟨e1,e2⟩:=ih h1 g1
          obtain⟨e3,e4⟩:=ihc h2 g2
          refine⟨.cons e1 e3,fun hc d hd=>?_⟩
          rcases List.mem_cons.1 hd with rfl | hd
          · rw[zkM e2];exact hc c (by simp)
          · exact e4 (fun c h=>hc c (by simp[h])) d hd
    have h':bi (isPB v) (om (g v.p) none fun p=>some (⟨v.tag,p,v.q,v.r,v.s,[]⟩:AV))
      (bi (nbeq v.tag 12) (om (g v.p) none fun p=>some ⟨12,p,1,0,0,[]⟩)
        (bi (nbeq v.tag 25) (om (g v.q) none fun q=>some ⟨25,v.p,q,v.r,v.s,[]⟩)
          (bi (isCB v) (om (rnL (rnV g n) v.cs) none fun cs=>some ⟨v.tag,v.p,v.q,v.r,v.s,cs⟩)
            (bi (bi (nbeq v.tag 14) true (bi (nbeq v.tag 23) true (nble 28 v.tag))) none (some v)))))=some v':=h
    cases hp:isPB v
    · rw[hp,zai] at h'
      cases h12:nbeq v.tag 12
      · rw[h12,zai] at h'
        cases h25:nbeq v.tag 25
        · rw[h25,zai] at h'
          cases hc:isCB v
          · rw[hc,zai] at h'
            cases hx:bi (nbeq v.tag 14) true (bi (nbeq v.tag 23) true (nble 28 v.tag))
            · rw[hx,zai] at h'
              cases h'
              refine⟨?_,rfl⟩
              have hne:∀ k,(k=10 ∨ k=11 ∨ k=27 ∨ k=12 ∨ k=25 ∨ k=13 ∨ k=15 ∨ k=16 ∨ k=14 ∨ k=23)→v.tag ≠ k:=by
                have b1:∀ {b:Bool} {k:Nat},nbeq v.tag k=b→b=false→v.tag ≠ k:=fun e1 e2 e3=>by rw[e2] at e1;exact zam.1 e1 e3
                have o1:∀ {a b:Bool},bi a true b=false→a=false∧b=false:=fun {a b} h=>by cases a<;>cases b<;>first | exact⟨rfl,rfl⟩ | cases h
                obtain⟨p1,p2⟩:=o1 hp
                obtain⟨p2,p3⟩:=o1 p2
                obtain⟨c1,c2⟩:=o1 hc
                obtain⟨c2,c3⟩:=o1 c2
                obtain⟨x1,x2⟩:=o1 hx
                obtain⟨x2,x3⟩:=o1 x2
                intro k hk
                rcases hk with rfl | rfl | rfl | rfl | rfl | rfl | rfl | rfl | rfl | rfl
                · exact zam.1 p1
                · exact zam.1 p2
                · exact zam.1 p3
                · exact zam.1 h12
                · exact zam.1 h25
                · exact zam.1 c1
                · exact zam.1 c2
                · exact zam.1 c3
                · exact zam.1 x1
                · exact zam.1 x2
              cases hv with
              | int c p r s cs e1 e2=>exact .int c p r s cs e1 e2
              | bool b r s cs=>exact .bool b r s cs
              | str l r s cs=>exact .str l r s cs
              | ptr=>exact absurd rfl (hne 10 (by omega))
              | sl=>exact absurd rfl (hne 11 (by omega))
              | map=>exact absurd rfl (hne 12 (by omega))
              | fn=>exact absurd rfl (hne 13 (by omega))
              | yld=>exact absurd rfl (hne 14 (by omega))
              | agg=>exact absurd rfl (hne 15 (by omega))
              | tup=>exact absurd rfl (hne 16 (by omega))
              | nilp q r s cs=>exact .nilp q r s cs
              | nils q r s cs=>exact .nils q r s cs
              | nilm q r s cs=>exact .nilm q r s cs
              | nilf q r s cs=>exact .nilf q r s cs
              | nili q r s cs=>exact .nili q r s cs
              | unk=>exact .unk _ _ _ _ _ _
              | ud p q r s cs=>exact .ud p q r s cs
              | neg p q r s cs n e=>exact .neg p q r s cs n e
              | pos p q r s cs n e=>exact .pos p q r s cs n e
              | opq=>exact absurd rfl (hne 23 (by omega))
              | frz p q r s cs _ h1=>exact .frz p q r s cs _ (h1.mono hg.fz)
              | fptr p q r s cs _ h1=>exact .fptr p q r s cs _ (h1.mono hg.fz)
              | own=>exact absurd rfl (hne 25 (by omega))
              | ownn=>exact absurd rfl (hne 25 (by omega))
              | owne=>exact absurd rfl (hne 25 (by omega))
              | optr=>exact absurd rfl (hne 27 (by omega))
            · rw[hx] at h';cases h'
          · rw[hc,zag] at h'
            obtain⟨cs,h1,h'⟩:=za1 h'
            cases h'
            refine⟨?_,rfl⟩
            rcases zbw.1 hc with e | hc
            · have e:=zaa.1 e
              cases hv with
              | fn f n r s cs first cap h2 h3=>exact .fn f n r s _ first cap (ihl h1 h2).1 h3
              | int c p r s cs e1 e2=>simp only at e;omega
              | _=>simp only at e;omega
            rcases zbw.1 hc with e | e
            · have e:=zaa.1 e
              cases hv with
              | agg p q r s cs l h2 h3=>exact .agg p q r s _ l (ihl h1 h2).1 ((ihl h1 h2).2 h3)
              | int c p r s cs e1 e2=>simp only at e;omega
              | _=>simp only at e;omega
            · have e:=zaa.1 e
              cases hv with
              | tup p q r s cs l h2=>exact .tup p q r s _ l (ihl h1 h2).1
              | int c p r s cs e1 e2=>simp only at e;omega
              | _=>simp only at e;omega
        · rw[h25,zag] at h'
          obtain⟨q,h1,h'⟩:=za1 h'
          cases h'
          have e:=zaa.1 h25
          refine⟨?_,e.symm⟩
          cases hv with
          | own b x r s cs h2 h3 h4 =>
            obtain⟨k1,k2,k3⟩:=hg.map _ _ _ h1 h2
            have:=VR.own (φ:=φ') q x r s [] k1 (by rw[k3];exact h3) (by rw[k3,k2];exact h4)
            rwa [k2] at this
          | ownn b s cs=>exact .ownn _ _ _
          | owne b s cs a=>exact .owne _ _ _ _
          | int c p r s cs e1 e2=>simp only at e;omega
          | _=>simp only at e;omega
      · rw[h12,zag] at h'
        obtain⟨p,h1,h'⟩:=za1 h'
        cases h'
        have e:=zaa.1 h12
        refine⟨?_,e.symm⟩
        obtain⟨x,rfl,hx⟩:=hv.of_map e
        exact .map _ _ _ _ _ _ (hg.map _ _ _ h1 hx).1
    · rw[hp,zag] at h'
      obtain⟨p,h1,h'⟩:=za1 h'
      cases h'
      refine⟨?_,rfl⟩
      rcases zbw.1 hp with e | hp
      · have e:=zaa.1 e
        obtain⟨x,rfl,hx⟩:=hv.of_ptr e
        show VR φ' ⟨v.tag,p,v.q,v.r,v.s,[]⟩ _
        rw[e]
        exact .ptr _ _ _ _ _ _ (hg.map _ _ _ h1 hx).1
      rcases zbw.1 hp with e | e
      · have e:=zaa.1 e
        obtain⟨x,cap,rfl,hx,g1,g2,g3,g4⟩:=hv.of_sl e
        show VR φ' ⟨v.tag,p,v.q,v.r,v.s,[]⟩ _
        rw[e]
        obtain⟨k1,k2,_⟩:=hg.map _ _ _ h1 hx
        exact .sl _ _ _ _ _ _ _ k1 g1 g2 g3 fun e1 e2=>(g4 e1 e2).trans k2.symm
      · have e:=zaa.1 e
        obtain⟨x,hx,g1,rfl⟩:=hv.of_optr e
        show VR φ' ⟨v.tag,p,v.q,v.r,v.s,[]⟩ _
        rw[e]
        obtain⟨k1,_,k3⟩:=hg.map _ _ _ h1 hx
        exact .optr _ _ _ _ _ _ k1 (by rw[k3];exact g1)
theorem zpf{g:Nat→Option Nat}(hg:Ren φ φ' g){n:Nat}:∀ {cs cs':List AV} {vs:List Value},rnL (rnV g n) cs=some cs'→VRs φ cs vs→VRs φ' cs' vs∧((∀ c ∈ cs,za6 c=true)→∀ c ∈ cs',za6 c=true):=by
  intro cs
  induction cs with
  | nil=>intro cs' vs h hv;cases h;cases hv;exact⟨.nil,fun _ c hc=>by cases hc⟩
  | cons c cs ihc =>
    intro cs' vs h hv
    obtain⟨x,y,h1,h2,rfl⟩:=zge h
    cases hv with
    | cons g1 g2 =>
      obtain⟨e1,e2⟩:=z0K hg n h1 g1
      obtain⟨e3,e4⟩:=ihc h2 g2
      refine⟨.cons e1 e3,fun hc d hd=>?_⟩
      rcases List.mem_cons.1 hd with rfl | hd
      · rw[zkM e2];exact hc c (by simp)
      · exact e4 (fun c h=>hc c (by simp[h])) d hd
theorem zgD{v:AV}{val:Value}(hfz:∀ x C,φ.fz x=some C→φ'.fz x=some C)(h:zbG v=true)(hv:VR φ v val):VR φ' v val :=
  VR.mono (φ:=⟨φ'.f,φ'.k,φ'.op,φ.fz,φ'.tl⟩) (φ':=φ') ⟨fun _ _ h=>⟨h,rfl⟩,rfl,hfz,fun _ _ _=>rfl⟩ (zfq h hv rfl)
theorem zoy(hfz:∀ x C,φ.fz x=some C→φ'.fz x=some C){kt ck:Nat}{as:List AV}{es:List MapEntry}(h:Ents φ kt ck as es)(hc:allL zf2 as=true):Ents φ' kt ck as es:=by
  induction h with
  | nil=>exact .nil
  | @cons b q r s k v ek ev as es h1 h2 h3 h4 _ ih =>
    obtain⟨g1,g2⟩:=zaw.1 (show bi (zf2 ⟨16,b,q,r,s,[k,v]⟩) (allL zf2 as) false=true from hc)
    obtain⟨g3,g4⟩:=zaw.1 (show bi (zbG k) (zbG v) false=true from g1)
    exact .cons (zgD hfz g3 h1) h2 (zgD hfz g4 h3) h4 (ih g2)
theorem zhr{g:Nat→Option Nat}(hg:Ren φ φ' g){n:Nat}{B B':AB}{x:Nat}{o:Obj}(h:rnB (rnV g n) B=some B')(hc:B.kind=2→allL zf2 B.cs=true)(hk:φ'.k x=φ.k x) :
    (BRel P φ x B o→BRel P φ' x B' o)∧B'.kind=B.kind∧(B.kind ≠ 1→B'=B)∧B.kind<7∧B.kind ≠ 0∧B.kind ≠ 5∧B.kind ≠ 3:=by
  unfold rnB at h
  cases h1:nbeq B.kind 1
  · rw[h1,zai] at h
    cases h2:bi (nbeq B.kind 2) true (bi (nbeq B.kind 4) true (nbeq B.kind 6))
    · rw[h2] at h;cases h
    · rw[h2,zag] at h
      cases h
      have h3:B.kind=2 ∨ B.kind=4 ∨ B.kind=6:=by
        rcases zbw.1 h2 with e | e
        · exact .inl (zaa.1 e)
        · rcases zbw.1 e with e | e
          · exact .inr (.inl (zaa.1 e))
          · exact .inr (.inr (zaa.1 e))
      refine⟨fun hB=>⟨fun e=>by omega,fun e=>?_,fun e=>by omega,fun e=>?_⟩,rfl,fun _=>rfl,by omega,by omega,by omega,by omega⟩
      · obtain⟨es,g1,g2,g3⟩:=hB.map e
        exact⟨es,g1,zoy hg.fz g2 (hc e),g3⟩
      · rcases hB.ext e with h | ⟨h,_⟩ | ⟨h,l,rest,t,fr,k1,k2,k3,k4,k5,k6⟩
        · exact .inl h
        · omega
        · exact .inr (.inr ⟨h,l,rest,t,fr,k1,k2.mono hg.fz,k3,k4,by rw[hk];exact k5,k6⟩)
  · rw[h1,zag] at h
    obtain⟨he,h⟩:=zas h
    obtain⟨cs,h2,h⟩:=za1 h
    cases h
    have h1:=zaa.1 h1
    have he:=zah.1 he
    refine⟨fun hB=>⟨fun _=>?_,(fun e=>by cases e),(fun e=>by cases e),(fun e=>by have e':4≤1:=e;omega)⟩,h1.symm,fun e=>absurd h1 e,by omega,by omega,by omega,by omega⟩
    obtain⟨l,rest,t,k1,k2,k3,k4,k5⟩:=hB.cells h1
    obtain⟨g1,g2⟩:=zpf hg h2 k2
    exact⟨l,rest,t,k1,g1,g2 k3,fun e=>by rw[hk];exact k4 e,fun e=>by have e':2≤B.e:=e;omega⟩
theorem zhs(l:List AV):∀ H,(zbR l H).n=H.n+l.length∧(zbR l H).lim=H.lim:=by
  induction l with
  | nil=>exact fun _=>⟨rfl,rfl⟩
  | cons a l ih =>
    intro H
    obtain⟨h1,h2⟩:=ih (hnew H (decB a))
    have e:(hnew H (decB a)).n=H.n+1:=zcA _ _
    exact⟨by show (zbR l (hnew H (decB a))).n=_;rw[h1,e,List.length_cons];omega,h2⟩
theorem zdF{b:Nat}(l:List AV):∀ H,H.n+l.length≤32767→b<H.n→hget (zbR l H) b=hget H b:=by
  induction l with
  | nil=>exact fun _ _ _=>rfl
  | cons a l ih =>
    intro H h hb
    rw[List.length_cons] at h
    have e:(hnew H (decB a)).n=H.n+1:=zcA _ _
    show hget (zbR l (hnew H (decB a))) b=_
    rw[ih _ (by omega) (by omega),zaD (by omega) (by omega),if_neg (by omega)]
theorem znS(l:List AV):∀ H i a,H.n+l.length≤32767→l[i]?=some a→hget (zbR l H) (H.n+i)=decB a:=by
  induction l with
  | nil=>intro H i a _ h;simp at h
  | cons x l ih =>
    intro H i a h hi
    rw[List.length_cons] at h
    have e:(hnew H (decB x)).n=H.n+1:=zcA _ _
    show hget (zbR l (hnew H (decB x))) _=_
    cases i with
    | zero =>
      simp at hi;subst hi
      rw[Nat.add_zero,zdF l _ (by omega) (by omega),zaD (by omega) (by omega),if_pos rfl]
    | succ i =>
      have:=ih (hnew H (decB x)) i a (by omega) (by simpa using hi)
      rw[e] at this
      rw[show H.n+(i+1)=H.n+1+i by omega];exact this
theorem znT{α β:Type}(f:α→β)(l:List α):mpL f l=l.map f:=by
  induction l with
  | nil=>rfl
  | cons a l ih=>exact congrArg (f a::·) ih
theorem ztp(B:AB):decB (encB B)=B:=rfl
theorem zdS(b:Nat):hget (zbk P) b=noB:=by
  have:hget (zbk P) b=hget noH b:=rfl
  rw[this];exact zj5 b
end Go.Eng
namespace Go.Eng
open Go.RowKit
variable {P:Program} {w0:World} {H Hb:Hp} {φ φ0 φ':Ph} {w:World} {N:Nat} {T:Fr} {a:Act} {r:Rec}
noncomputable section
def zmO:AV:=⟨16,6,0,0,0,[]⟩
def Hk(P:Program)(k:Nat):Hp:=zbR (List.replicate k zmO) (zbk P)
def pkPh(P:Program)(φ:Ph)(seen:List Nat):Ph:=⟨fun b=>if b<P.globals.size then φ b else (seen[b - P.globals.size]?).bind φ.f,φ.k,φ.op,φ.fz,fun b=>if b<P.globals.size then φ.tl b else ((seen[b - P.globals.size]?).map φ.tl).getD 0⟩
end
theorem zhY{seen:List Nat}{b:Nat}(h:b<P.globals.size):pkPh P φ seen b=φ b:=if_pos h
theorem zpg{seen:List Nat}{i c:Nat}(h:seen[i]?=some c):pkPh P φ seen (P.globals.size+i)=φ c:=by
  show (if P.globals.size+i<P.globals.size then _ else (seen[P.globals.size+i - P.globals.size]?).bind φ.f)=_
  rw[if_neg (by omega),show P.globals.size+i - P.globals.size=i by omega,h];rfl
theorem zdT{seen:List Nat}{b x:Nat}(h:pkPh P φ seen b=some x):(b<P.globals.size∧φ b=some x) ∨ ∃ i c,b=P.globals.size+i∧seen[i]?=some c∧φ c=some x:=by
  by_cases hb:b<P.globals.size
  · exact .inl ⟨hb,by rwa [zhY hb] at h⟩
  · right
    have h':(if b<P.globals.size then φ b else (seen[b - P.globals.size]?).bind φ.f)=some x:=h
    rw[if_neg hb] at h'
    cases hc:seen[b - P.globals.size]? with
    | none=>rw[hc] at h';cases h'
    | some c=>rw[hc] at h';exact⟨b - P.globals.size,c,by omega,hc,h'⟩
theorem z0L{seen:List Nat}:Ren φ (pkPh P φ seen) (rnI P.globals.size seen):=by
  refine⟨fun b p x h hx=>?_,fun _ _ h=>h⟩
  rcases zuJ h with⟨h1,rfl⟩ | ⟨_,i,h1,rfl⟩
  · exact⟨(zhY h1).trans hx,rfl,if_pos h1⟩
  · refine⟨(zpg h1).trans hx,rfl,?_⟩
    show (if P.globals.size+i<P.globals.size then _ else ((seen[P.globals.size+i - P.globals.size]?).map φ.tl).getD 0)=_
    rw[if_neg (by omega),show P.globals.size+i - P.globals.size=i by omega,h1];rfl
theorem ztq:∀ {l:List Nat} {i j b:Nat},l.Nodup→l[i]?=some b→l[j]?=some b→i=j:=by
  intro l
  induction l with
  | nil=>intro i j b _ h;simp at h
  | cons a l ih =>
    intro i j b hn h1 h2
    obtain⟨g1,g2⟩:=List.nodup_cons.1 hn
    cases i with
    | zero=>cases j with
      | zero=>rfl
      | succ j=>simp at h1 h2;subst h1;exact absurd (List.mem_of_getElem? h2) g1
    | succ i=>cases j with
      | zero=>simp at h1 h2;subst h2;exact absurd (List.mem_of_getElem? h1) g1
      | succ j=>exact congrArg (·+1) (ih g2 (i:=i) (j:=j) (b:=b) (by simpa using h1) (by simpa using h2))
theorem ziG{lim n:Nat}{l:List Nat}(h:zkJ lim n l=true):l.Nodup∧(∀ b ∈ l,lim≤b∧b<n)∧lim+l.length≤32766:=by
  unfold zkJ at h
  obtain⟨h1,h⟩:=zaw.1 h
  obtain⟨h2,h3⟩:=zaw.1 h
  refine⟨zmp h1,fun b hb=>?_,by have:=zah.1 h3;rw[zaz] at this;exact this⟩
  rw[zcH,List.all_eq_true] at h2
  obtain⟨g1,g2⟩:=zaw.1 (h2 b hb)
  exact⟨zah.1 g1,zah.1 g2⟩
theorem zf3{lim:Nat}{vs ms:List AV}{seen:List Nat}{y:Pk}(h:zjq lim vs ms H seen=some y):zkJ lim H.n seen=true∧y.seen=seen∧rnL (rnV (rnI lim seen) 20) vs=some y.vs∧rnL (fun m:AV=>om (rnI lim seen m.p) none fun p=>some (mk1 3 p)) ms=some y.ms ∧
    rnL (fun b=>rnB (rnV (rnI lim seen) 20) (hget H b)) seen=some y.bs:=by
  unfold zjq at h
  obtain⟨h0,h⟩:=zas h
  obtain⟨a,h1,h⟩:=za1 h
  obtain⟨b,h2,h⟩:=za1 h
  obtain⟨c,h3,h⟩:=za1 h
  cases h
  exact⟨h0,rfl,h1,h2,h3⟩
theorem ztr{l:List Nat}{b:Nat}(h:ze7 H l=true)(hb:b ∈ l)(h2:(hget H b).kind=2):allL zf2 (hget H b).cs=true:=by
  unfold ze7 at h
  rw[zcH,List.all_eq_true] at h
  have:=h b hb
  rw[zaa.2 h2,zag] at this
  exact this
theorem z0M{g:Nat→Option Nat}(hg:Ren φ φ' g):∀ {ms ms':List AV} {ds:List Deferred},rnL (fun m:AV=>om (g m.p) none fun p=>some (mk1 3 p)) ms=some ms'→DM φ ms ds→DM φ' ms' ds:=by
  intro ms
  induction ms with
  | nil=>intro ms' ds h hd;cases h;exact hd
  | cons m ms ih =>
    intro ms' ds h hd
    obtain⟨x,y,h1,h2,rfl⟩:=zge h
    obtain⟨p,h3,h1⟩:=za1 h1
    cases h1
    obtain⟨r,ds',rfl,hr,hd'⟩:=hd
    exact⟨r,ds',rfl,(hg.map _ _ _ h3 hr).1,ih h2 hd'⟩
theorem zl4(hr:HR P w0 H φ w)(hlim:H.lim=P.globals.size){vs ms:List AV}{seen:List Nat}{y:Pk}(h:zjq P.globals.size vs ms H seen=some y)(hm:ze7 H y.seen=true) :
    HR P w0 (zbR (mpL encB y.bs) (zbk P)) (pkPh P φ seen) w∧(∀ vals,VRs φ vs vals→VRs (pkPh P φ seen) y.vs vals)∧(∀ ds,DM φ ms ds→DM (pkPh P φ seen) y.ms ds)∧(mpL encB y.bs).length=seen.length ∧
    ∀ (i c:Nat),seen[i]?=some c→∃ B':AB,(mpL encB y.bs)[i]?=some (encB B')∧B'.kind=(hget H c).kind∧((hget H c).kind ≠ 1→B'=hget H c)∧(hget H c).kind ≠ 5∧(hget H c).kind ≠ 0∧(hget H c).kind<7:=by
  obtain⟨h0,hsn,h1,h2,h3⟩:=zf3 h
  rw[hsn] at hm
  obtain⟨hnd,hin,hlen⟩:=ziG h0
  obtain⟨g1,g2⟩:=zyl h3
  have hren:Ren φ (pkPh P φ seen) (rnI P.globals.size seen):=z0L
  have hbl:(mpL encB y.bs).length=seen.length:=by rw[znT,List.length_map,g1]
  have hat:∀ i c,seen[i]?=some c→∃ B',y.bs[i]?=some B'∧rnB (rnV (rnI P.globals.size seen) 20) (hget H c)=some B':=fun i c hc=>by
    obtain⟨B',k1,k2⟩:=g2 i c hc
    exact⟨B',k2,k1⟩
  have hcl:∀ c ∈ seen,(hget H c).kind=2→allL zf2 (hget H c).cs=true:=fun c hc h2=>ztr hm hc h2
  have hbn:(zbk P).n=P.globals.size:=rfl
  have hget':∀ i c,seen[i]?=some c→∃ B',hget (zbR (mpL encB y.bs) (zbk P)) (P.globals.size+i)=B'∧rnB (rnV (rnI P.globals.size seen) 20) (hget H c)=some B':=fun i c hc=>by
    obtain⟨B',k1,k2⟩:=hat i c hc
    refine⟨B',?_,k2⟩
    have hi:(mpL encB y.bs)[i]?=some (encB B'):=by rw[znT,List.getElem?_map,k1];rfl
    have:=znS (mpL encB y.bs) (zbk P) i (encB B') (by rw[hbn,hbl];omega) hi
    rw[hbn] at this
    rw[this];exact ztp B'
  have hn:=zhs (mpL encB y.bs) (zbk P)
  have hn1:(zbR (mpL encB y.bs) (zbk P)).n=P.globals.size+seen.length:=by rw[hn.1,hbn,hbl]
  have hn2:(zbR (mpL encB y.bs) (zbk P)).lim=P.globals.size:=hn.2
  have hlow:∀ b,b<P.globals.size→hget (zbR (mpL encB y.bs) (zbk P)) b=noB:=fun b hb=>by
    rw[zdF _ _ (by rw[hbn,hbl];omega) (by rw[hbn];exact hb)];exact zdS b
  refine⟨⟨?_,?_,by omega,by omega,hr.below.op rfl,fun g hg=>(zhY hg).trans (hr.gl g hg),hr.op,?_,?_,hr.fo⟩,fun vals hv=>(zpf hren h1 hv).1,fun ds hd=>z0M hren h2 hd,hbl,fun i c hc=>?_⟩
  · intro b x hb
    rcases zdT hb with⟨h4,h5⟩ | ⟨i,c,rfl,h4,h5⟩
    · obtain⟨_,_,o,k3,_⟩:=hr.blk b x h5
      exact⟨by omega,fun hl=>by omega,o,k3,by rw[hlow b h4];exact zfQ⟩
    · obtain⟨k1,k2,o,k3,k4⟩:=hr.blk c x h5
      have hi:=(List.getElem?_eq_some_iff.1 h4).1
      obtain⟨B',e1,e2⟩:=hget' i c h4
      refine⟨by omega,fun _=>k2 (by rw[hlim];exact (hin c (List.mem_of_getElem? h4)).1),o,k3,?_⟩
      rw[e1]
      exact (zhr hren e2 (hcl c (List.mem_of_getElem? h4)) rfl).1 k4
  · intro b b' x hb hb' k1 k2
    rcases zdT hb with⟨h4,h5⟩ | ⟨i,c,rfl,h4,h5⟩
    · rw[hlow b h4] at k1;exact absurd rfl k1
    rcases zdT hb' with⟨h6,h7⟩ | ⟨j,d,rfl,h6,h7⟩
    · rw[hlow b' h6] at k2;exact absurd rfl k2
    obtain⟨B1,e1,e2⟩:=hget' i c h4
    obtain⟨B2,e3,e4⟩:=hget' j d h6
    have hkc:=(zhr (P:=P) hren (x:=x) (o:=.deferred none) e2 (hcl c (List.mem_of_getElem? h4)) rfl).2
    have hkd:=(zhr (P:=P) hren (x:=x) (o:=.deferred none) e4 (hcl d (List.mem_of_getElem? h6)) rfl).2
    have hcd:=hr.inj c d x h5 h7 hkc.2.2.2.1 hkd.2.2.2.1
    subst hcd
    rw[ztq hnd h4 h6]
  · intro x C hx
    refine⟨(hr.fz x C hx).1,fun b hb hl=>?_⟩
    rcases zdT hb with⟨h4,h5⟩ | ⟨i,c,rfl,h4,h5⟩
    · rw[hlow b h4];exact .inl rfl
    · obtain⟨B',e1,e2⟩:=hget' i c h4
      have hk:=(zhr (P:=P) hren (x:=x) (o:=.deferred none) e2 (hcl c (List.mem_of_getElem? h4)) rfl).2
      have:=(hr.fz x C hx).2 c h5 (by rw[hlim];exact (hin c (List.mem_of_getElem? h4)).1)
      rw[e1,hk.1];exact this
  · intro b x hb hk
    rcases zdT hb with⟨h4,h5⟩ | ⟨i,c,rfl,h4,h5⟩
    · rw[hlow b h4] at hk;rcases hk with hk | hk<;>cases hk
    · obtain⟨B',e1,e2⟩:=hget' i c h4
      have hkk:=(zhr (P:=P) hren (x:=x) (o:=.deferred none) e2 (hcl c (List.mem_of_getElem? h4)) rfl).2
      rw[e1] at hk ⊢
      have e3:B'=hget H c:=hkk.2.1 (by rw[← hkk.1];omega)
      rw[e3] at hk ⊢
      have:=hr.tl c x h5 hk
      rw[this]
      show φ.tl c=(if P.globals.size+i<P.globals.size then _ else ((seen[P.globals.size+i - P.globals.size]?).map φ.tl).getD 0)
      rw[if_neg (by omega),show P.globals.size+i - P.globals.size=i by omega,h4];rfl
  · obtain⟨B',k1,k2⟩:=hat i c hc
    have hk:=(zhr (P:=P) hren (x:=0) (o:=.deferred none) k2 (hcl c (List.mem_of_getElem? hc)) rfl).2
    exact⟨B',by rw[znT,List.getElem?_map,k1];rfl,hk.1,hk.2.1,hk.2.2.2.2.1,hk.2.2.2.1,hk.2.2.1⟩
theorem zts(n:Nat):∀ {a i:Nat},i<n→(zfb a n)[i]?=some (a+i):=by
  induction n with
  | zero=>intro a i h;omega
  | succ n ih =>
    intro a i h
    show (a::zfb (a+1) n)[i]?=_
    cases i with
    | zero=>rfl
    | succ i=>rw[List.getElem?_cons_succ,ih (by omega)];congr 1;omega
theorem zmj(n:Nat):∀ {a:Nat},(zfb a n).length=n:=by
  induction n with
  | zero=>exact rfl
  | succ n ih=>intro a;show (zfb (a+1) n).length+1=_;rw[ih]
theorem Hk_n{k:Nat}:(Hk P k).n=P.globals.size+k∧(Hk P k).lim=P.globals.size:=by
  obtain⟨h1,h2⟩:=zhs (List.replicate k zmO) (zbk P)
  exact⟨by unfold Hk;rw[h1,List.length_replicate];rfl,h2⟩
theorem zeC{k b:Nat}(hk:P.globals.size+k≤32767)(hb:b<P.globals.size):hget (Hk P k) b=noB:=by
  unfold Hk
  rw[zdF _ _ (by rw[List.length_replicate];exact hk) hb];exact zdS b
theorem zmP{k i:Nat}(hk:P.globals.size+k≤32767)(hi:i<k):hget (Hk P k) (P.globals.size+i)=⟨6,0,0,[]⟩:=by
  have:=znS (List.replicate k zmO) (zbk P) i zmO (by rw[List.length_replicate];exact hk) (by simp[hi])
  exact this
theorem zph{k:Nat}(hk:P.globals.size+k≤32767)(hr:HR P w0 H φ w)(hex:EX (Hk P k) φ0 H φ){vs ms:List AV}{seen:List Nat}{y:Pk}(h:zjq P.globals.size vs ms H seen=some y)(hm:ze7 H y.seen=true)(hp:zfb P.globals.size k <+: seen)(hφ0:∀ b x,φ0 b=some x→b<P.globals.size+k) :
    EX (Hk P k) φ0 (zbR (mpL encB y.bs) (zbk P)) (pkPh P φ seen):=by
  have hlim:H.lim=P.globals.size:=hex.lim.trans Hk_n.2
  obtain⟨h1,_,_,h4,h5⟩:=zl4 hr hlim h hm
  obtain⟨_,_,hlen⟩:=ziG (zf3 h).1
  have hat:∀ i,i<k→seen[i]?=some (P.globals.size+i):=fun i hi=>by
    obtain⟨t,rfl⟩:=hp
    rw[List.getElem?_append_left (by rw[zmj];exact hi),zts k hi]
  have hkl:k≤seen.length:=by
    obtain⟨t,rfl⟩:=hp
    rw[List.length_append,zmj];omega
  have hsame:∀ b,b<P.globals.size+k→pkPh P φ seen b=φ b∧(pkPh P φ seen).tl b=φ.tl b:=fun b hb=>by
    by_cases h1:b<P.globals.size
    · exact⟨zhY h1,if_pos h1⟩
    · have e:b=P.globals.size+(b - P.globals.size):=by omega
      have h2:=hat (b - P.globals.size) (by omega)
      refine⟨?_,?_⟩
      · rw[e,zpg h2,← e]
      · show (if b<P.globals.size then φ.tl b else ((seen[b - P.globals.size]?).map φ.tl).getD 0)=φ.tl b
        rw[if_neg h1,h2,← e];rfl
  have hn:=zhs (mpL encB y.bs) (zbk P)
  have hbn:(zbk P).n=P.globals.size:=rfl
  refine⟨⟨fun b x hb=>?_,hex.keep.op,hex.keep.fz,fun b x hb=>?_⟩,?_,?_,?_,?_,?_,?_,hex.fzn⟩
  · exact⟨(hsame b (hφ0 b x hb)).1.trans (hex.keep b x hb).1,(hex.keep b x hb).2⟩
  · exact (hsame b (hφ0 b x hb)).2.trans (hex.keep.tl b x hb)
  · intro b x hb hn0
    rw[Hk_n.1]
    by_cases h2:b<P.globals.size+k
    · have:=hex.fresh b x (by rw[← (hsame b h2).1];exact hb) hn0
      rw[Hk_n.1] at this
      exact this
    · omega
  · rw[Hk_n.1,hn.1,hbn,h4];omega
  · rw[Hk_n.2,hn.2];rfl
  · intro b hb hb'
    rw[Hk_n.2] at hb
    rw[zeC hk hb,zdF _ _ (by rw[hbn,h4];omega) (by rw[hbn];exact hb)];exact zdS b
  · intro b hb hn0 h6
    rw[Hk_n.1] at hb
    by_cases h2:b<P.globals.size
    · rw[zeC hk h2,zdF _ _ (by rw[hbn,h4];omega) (by rw[hbn];exact h2)];exact zdS b
    · exfalso
      have:=zmP (P:=P) (k:=k) (i:=b - P.globals.size) hk (by omega)
      rw[show P.globals.size+(b - P.globals.size)=b by omega] at this
      rw[this] at h6;exact h6 rfl
  · intro b hb _ h6
    rw[Hk_n.1] at hb
    exfalso
    by_cases h2:b<P.globals.size
    · rw[zeC hk h2] at h6;cases h6
    · have:=zmP (P:=P) (k:=k) (i:=b - P.globals.size) hk (by omega)
      rw[show P.globals.size+(b - P.globals.size)=b by omega] at this
      rw[this] at h6;cases h6
end Go.Eng
