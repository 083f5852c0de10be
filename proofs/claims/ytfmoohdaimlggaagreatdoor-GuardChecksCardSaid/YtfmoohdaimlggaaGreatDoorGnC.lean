/- A part of the proof that the evaluator in GnC, and the driver in GnZ, answer as the model does; no conditions. -/
import GoSem.Dispatch
namespace Go.Eng
noncomputable section
def bi{α:Type}(b:Bool)(x y:α):α:=Bool.rec (motive:=fun _=>α) y x b
def om{α β:Type}(o:Option α)(n:β)(f:α→β):β:=Option.rec (motive:=fun _=>β) n f o
structure Box(α:Type) where
  run:α
def gt{α:Type}(f:Nat→α)(a:Nat):α:=Nat.rec (motive:=fun _=>α) (f 0) (fun n _=>f (Nat.succ n)) a
def gt2{α:Type}(f:Nat→Nat→α)(a b:Nat):α:=gt (fun a=>gt (fun b=>f a b) b) a
def nbeq(a b:Nat):Bool:=gt2 (fun a b=>Nat.beq a b) a b
def nble(a b:Nat):Bool:=gt2 (fun a b=>Nat.ble a b) a b
theorem zbI{α:Type}(f:Nat→α)(a:Nat):gt f a=f a:=by cases a<;>rfl
theorem zbD{α:Type}(f:Nat→Nat→α)(a b:Nat):gt2 f a b=f a b:=by unfold gt2;rw[zbI,zbI]
theorem ziL(a b:Nat):nbeq a b=Nat.beq a b:=zbD _ _ _
theorem ziM(a b:Nat):nble a b=Nat.ble a b:=zbD _ _ _
structure AV where
  tag:Nat
  p:Nat
  q:Nat
  r:Nat
  s:Nat
  cs:List AV
def mk1(t p:Nat):AV:=⟨t,p,0,0,0,[]⟩
def unkV:AV:=mk1 18 0
def udV:AV:=mk1 19 0
def bV(b:Bool):AV:=mk1 8 (bi b 1 0)
def ptrV(b off:Nat):AV:=⟨10,b,off,0,0,[]⟩
def aggV(cs:List AV):AV:=⟨15,0,0,0,0,cs⟩
def tupV(cs:List AV):AV:=⟨16,0,0,0,0,cs⟩
def za6(v:AV):Bool:=bi (nble v.tag 14) true (bi (nbeq v.tag 17) true (nble 23 v.tag))
def isNil(a:AV)(n:Nat):Bool:=bi (nbeq a.tag 17) (nbeq a.p n) false
structure Nd(α:Type) where
  a:α
  b:α
  c:α
  d:α
  e:α
  f:α
  g:α
  h:α
def zcL{α:Type}(x:α):Nd α:=⟨x,x,x,x,x,x,x,x⟩
def zmy{α:Type}(f:Nat→α):Nd α:=⟨f 0,f 1,f 2,f 3,f 4,f 5,f 6,f 7⟩
def get1{α:Type}:Nat→Box (Nd α→α)
  | 0=>⟨fun t=>t.a⟩ | 1=>⟨fun t=>t.b⟩ | 2=>⟨fun t=>t.c⟩ | 3=>⟨fun t=>t.d⟩
  | 4=>⟨fun t=>t.e⟩ | 5=>⟨fun t=>t.f⟩ | 6=>⟨fun t=>t.g⟩ | _=>⟨fun t=>t.h⟩
def set1{α:Type}:Nat→Box (Nd α→α→Nd α)
  | 0=>⟨fun t x=>⟨x,t.b,t.c,t.d,t.e,t.f,t.g,t.h⟩⟩
  | 1=>⟨fun t x=>⟨t.a,x,t.c,t.d,t.e,t.f,t.g,t.h⟩⟩
  | 2=>⟨fun t x=>⟨t.a,t.b,x,t.d,t.e,t.f,t.g,t.h⟩⟩
  | 3=>⟨fun t x=>⟨t.a,t.b,t.c,x,t.e,t.f,t.g,t.h⟩⟩
  | 4=>⟨fun t x=>⟨t.a,t.b,t.c,t.d,x,t.f,t.g,t.h⟩⟩
  | 5=>⟨fun t x=>⟨t.a,t.b,t.c,t.d,t.e,x,t.g,t.h⟩⟩
  | 6=>⟨fun t x=>⟨t.a,t.b,t.c,t.d,t.e,t.f,x,t.h⟩⟩
  | _=>⟨fun t x=>⟨t.a,t.b,t.c,t.d,t.e,t.f,t.g,x⟩⟩
abbrev Fr:=Nd (Nd (Nd AV))
def d0(i:Nat):Nat:=Nat.mod i 8
def d1(i:Nat):Nat:=Nat.mod (Nat.div i 8) 8
def d2(i:Nat):Nat:=Nat.div i 64
def getB(i:Nat):Box (Fr→AV) :=
  bi (Nat.ble 511 i) ⟨fun _=>unkV⟩ ⟨fun T=>(get1 (d0 i)).run ((get1 (d1 i)).run ((get1 (d2 i)).run T))⟩
def setB(i:Nat):Box (Fr→AV→Fr) :=
  bi (Nat.ble 511 i) ⟨fun T _=>T⟩ ⟨fun T x=>(set1 (d2 i)).run T ((set1 (d1 i)).run ((get1 (d2 i)).run T) ((set1 (d0 i)).run ((get1 (d1 i)).run ((get1 (d2 i)).run T)) x))⟩
def noFr:Fr:=zcL (zcL (zcL udV))
def zaK(T:Fr):List AV:=((get1 7).run ((get1 7).run ((get1 7).run T))).cs
def zcF(T:Fr)(b:Nat):Fr:=(set1 7).run T ((set1 7).run ((get1 7).run T) ((set1 7).run ((get1 7).run ((get1 7).run T)) ⟨16,0,0,0,0,mk1 3 b::zaK T⟩))
def noMk(T:Fr):Fr:=(set1 7).run T ((set1 7).run ((get1 7).run T) ((set1 7).run ((get1 7).run ((get1 7).run T)) udV))
def encN{α:Type}(f:α→AV)(t:Nd α):AV:=tupV [f t.a,f t.b,f t.c,f t.d,f t.e,f t.f,f t.g,f t.h]
def nth0(l:List AV)(n:Nat):AV:=Nat.rec (motive:=fun _=>List AV→AV) (fun l=>List.rec (motive:=fun _=>AV) unkV (fun c _ _=>c) l) (fun _ ih l=>List.rec (motive:=fun _=>AV) unkV (fun _ t _=>ih t) l) n l
def decN{α:Type}(f:AV→α)(v:AV):Nd α:=⟨f (nth0 v.cs 0),f (nth0 v.cs 1),f (nth0 v.cs 2),f (nth0 v.cs 3),f (nth0 v.cs 4),f (nth0 v.cs 5),f (nth0 v.cs 6),f (nth0 v.cs 7)⟩
def encF(T:Fr):AV:=encN (encN (encN fun v=>v)) T
def decF(v:AV):Fr:=decN (decN (decN fun v=>v)) v
structure AB where
  kind:Nat
  t:Nat
  e:Nat
  cs:List AV
def noB:AB:=⟨0,0,0,[]⟩
def zbt(cs:List AV)(e:Nat):AB:=⟨1,0,e,cs⟩
abbrev HT:=Nd (Nd (Nd (Nd (Nd AB))))
structure Hp where
  t:HT
  n:Nat
  lim:Nat
def noH:Hp:=⟨zcL (zcL (zcL (zcL (zcL noB)))),0,0⟩
def dsel{α:Type}(t:Nd α)(j:Nat):α :=
  bi (Nat.beq (Nat.land j 1) 0)
    (bi (Nat.beq (Nat.land j 2) 0) (bi (Nat.beq (Nat.land j 4) 0) t.a t.e) (bi (Nat.beq (Nat.land j 4) 0) t.c t.g))
    (bi (Nat.beq (Nat.land j 2) 0) (bi (Nat.beq (Nat.land j 4) 0) t.b t.f) (bi (Nat.beq (Nat.land j 4) 0) t.d t.h))
def dset{α:Type}(t:Nd α)(j:Nat)(x:α):Nd α :=
  bi (Nat.beq (Nat.land j 1) 0)
    (bi (Nat.beq (Nat.land j 2) 0) (bi (Nat.beq (Nat.land j 4) 0) ⟨x,t.b,t.c,t.d,t.e,t.f,t.g,t.h⟩ ⟨t.a,t.b,t.c,t.d,x,t.f,t.g,t.h⟩)
      (bi (Nat.beq (Nat.land j 4) 0) ⟨t.a,t.b,x,t.d,t.e,t.f,t.g,t.h⟩ ⟨t.a,t.b,t.c,t.d,t.e,t.f,x,t.h⟩))
    (bi (Nat.beq (Nat.land j 2) 0) (bi (Nat.beq (Nat.land j 4) 0) ⟨t.a,x,t.c,t.d,t.e,t.f,t.g,t.h⟩ ⟨t.a,t.b,t.c,t.d,t.e,x,t.g,t.h⟩)
      (bi (Nat.beq (Nat.land j 4) 0) ⟨t.a,t.b,t.c,x,t.e,t.f,t.g,t.h⟩ ⟨t.a,t.b,t.c,t.d,t.e,t.f,t.g,x⟩))
def sh(i k:Nat):Nat:=Nat.shiftRight i k
def htget(t:HT)(i:Nat):AB:=dsel (dsel (dsel (dsel (dsel t (sh i 12)) (sh i 9)) (sh i 6)) (sh i 3)) i
def htset(t:HT)(i:Nat)(b:AB):HT :=
  dset t (sh i 12) (dset (dsel t (sh i 12)) (sh i 9) (dset (dsel (dsel t (sh i 12)) (sh i 9)) (sh i 6) (dset (dsel (dsel (dsel t (sh i 12)) (sh i 9)) (sh i 6)) (sh i 3) (dset (dsel (dsel (dsel (dsel t (sh i 12)) (sh i 9)) (sh i 6)) (sh i 3)) i b))))
def hget(H:Hp)(i:Nat):AB:=gt (fun i=>htget H.t i) i
def hset(H:Hp)(i:Nat)(b:AB):Hp:=⟨gt (fun i=>htset H.t i b) i,H.n,H.lim⟩
def hnew(H:Hp)(b:AB):Hp:=⟨gt (fun n=>htset H.t n b) H.n,gt Nat.succ H.n,H.lim⟩
structure Res where
  tag:Nat
  i:Nat
  T:Fr
  H:Hp
structure CRes where
  ok:Nat
  why:Nat
  v:AV
  H:Hp
abbrev RL:=List Res
def zab(n:Nat):RL:=[⟨3,n,noFr,noH⟩]
def zaG(n:Nat):List CRes:=[⟨0,n,unkV,noH⟩]
abbrev Rec:=AV→List AV→Hp→List CRes
abbrev Run:=Rec→Fr→Hp→RL
abbrev BR:=Box Run
abbrev Kont:=Hp→AV→RL
def zb0:BR:=⟨fun _ T H=>[⟨0,0,T,H⟩]⟩
def appL{α:Type}(x y:List α):List α:=List.rec (motive:=fun _=>List α) y (fun a _ ih=>a::ih) x
def fmL{α β:Type}(l:List α)(f:α→List β):List β:=List.rec (motive:=fun _=>List β) [] (fun a t ih=>List.rec (motive:=fun _=>List β) (f a) (fun _ _ _=>appL (f a) ih) t) l
def zbJ{α:Type}(l:List α)(n:Nat):List α:=Nat.rec (motive:=fun _=>List α→List α) (fun l=>l) (fun _ ih l=>List.rec (motive:=fun _=>List α) [] (fun _ t _=>ih t) l) n l
def zcy{α:Type}(l:List α)(n:Nat):Option (List α) :=
  Nat.rec (motive:=fun _=>List α→Option (List α)) (fun _=>some []) (fun _ ih l=>List.rec (motive:=fun _=>Option (List α)) none (fun c t _=>om (ih t) none fun x=>some (c::x)) l) n l
def nthL(l:List AV)(n:Nat):AV:=Nat.rec (motive:=fun _=>List AV→AV) (fun l=>List.rec (motive:=fun _=>AV) unkV (fun c _ _=>c) l) (fun _ ih l=>List.rec (motive:=fun _=>AV) unkV (fun _ t _=>ih t) l) n l
def lenL{α:Type}(l:List α):Nat:=List.rec (motive:=fun _=>Nat) 0 (fun _ _ ih=>Nat.succ ih) l
def over(new:List AV):List AV→Option (List AV) :=
  List.rec (motive:=fun _=>List AV→Option (List AV)) (fun cs=>some cs) (fun x _ ih cs=>List.rec (motive:=fun _=>Option (List AV)) none (fun _ cs' _=>om (ih cs') none fun r=>some (x::r)) cs) new
def putC(off:Nat)(new cs:List AV):Option (List AV) :=
  Nat.rec (motive:=fun _=>List AV→Option (List AV)) (fun cs=>over new cs)
    (fun _ ih cs=>List.rec (motive:=fun _=>Option (List AV)) none (fun c cs _=>om (ih cs) none fun r=>some (c::r)) cs) off cs
def allL{α:Type}(f:α→Bool)(l:List α):Bool:=List.rec (motive:=fun _=>Bool) true (fun a _ ih=>bi (f a) ih false) l
def cellsOf(v:AV):List AV:=bi (nbeq v.tag 15) v.cs [v]
def zba(l:List AV):List AV:=List.rec (motive:=fun _=>List AV) [] (fun e _ ih=>appL (cellsOf e) ih) l
def repL{α:Type}(n:Nat)(l:List α):List α:=Nat.rec (motive:=fun _=>List α) [] (fun _ ih=>appL l ih) n
def repC(n:Nat)(cs:List AV):List AV:=Nat.rec (motive:=fun _=>List AV) [] (fun _ ih=>appL cs ih) n
def zap:IntKind→Nat
  | .i8=>0 | .i16=>1 | .i32=>2 | .i64=>3 | .u8=>4 | .u16=>5 | .u32=>6 | .u64=>7
def zcM(c:Nat):Nat:=Nat.shiftLeft 8 (Nat.mod c 4)
def kMod(c:Nat):Nat:=Nat.pow 2 (zcM c)
def zbj(c:Nat):Nat:=bi (nble 4 c) (kMod c) (Nat.div (kMod c) 2)
def zbb(c a:Nat):Bool:=nble (zbj c) a
def zaJ(l:List UInt8):Nat:=l.foldl (fun n b=>Nat.add (Nat.mul n 256) b.toNat) 0
def intV(k:IntKind)(n:Int):AV:=Int.rec (motive:=fun _=>AV) (fun a=>bi (nble (Nat.succ a) (zbj (zap k))) (mk1 (zap k) a) unkV)
  (fun a=>bi (nble 4 (zap k)) unkV (bi (nble (Nat.succ a) (zbj (zap k))) (mk1 (zap k) (Nat.sub (kMod (zap k)) (Nat.succ a))) unkV)) n
def zdp:Value→AV
  | .int k n=>intV k n
  | .bool b=>bV b
  | .string s=>⟨9,zaJ s.data.toList,s.size,0,0,[]⟩
  | .pointer none=>mk1 17 0
  | .slice none 0 0=>mk1 17 1
  | .map none=>mk1 17 2
  | .nilFunc=>mk1 17 3
  | .nilIface=>mk1 17 4
  | _=>unkV
def avOf:Value→AV
  | .agg cs=>bi (allL za6 (cs.toList.map zdp)) (aggV (cs.toList.map zdp)) unkV
  | v=>zdp v
section
variable (P:Program)
def tyB(t:TypeId):Box (Option TypeDesc):=⟨P.underlying t⟩
def szB(t:TypeId):Box (Option Nat):=⟨(P.info? t).map (·.size)⟩
def btB(t:TypeId):Box (Option Nat):=⟨(P.info? t).map (·.bytes)⟩
def zeB(t:TypeId):Box (Option AV):=⟨((P.info? t).bind (·.zero)).bind fun z=>bi (nbeq (avOf z).tag 18) none (some (avOf z))⟩
def zaC(t:TypeId):Bool:=match (tyB P t).run with | some (.struct _)=>true | some (.array _ _)=>true | _=>false
inductive OpC where
  | c0 (f:Box (Hp→Kont→RL))
  | c1 (x:Operand) (f:Box (AV→Hp→Kont→RL))
  | c2 (x y:Operand) (f:Box (AV→AV→Hp→Kont→RL))
  | c3 (x y z:Operand) (f:Box (AV→AV→AV→Hp→Kont→RL))
  | cN (xs:List Operand) (f:Box (List AV→Hp→Kont→RL))
  | call (x:Operand) (xs:List Operand)
def badC(n:Nat):OpC:=.c0 ⟨fun _ _=>zab n⟩
def zaO(v:AV):Bool:=bi (za6 v) true (nbeq v.tag 15)
def newC(H:Hp)(B:AB)(mk:Nat→AV)(c:Kont):RL:=bi (nble H.n 32766) (c (hnew H B) (mk H.n)) (zab 70)
def setC(H:Hp)(b:Nat)(B:AB)(v:AV)(c:Kont):RL:=bi (nble H.lim b) (c (hset H b B) v) (zab 71)
def ptr0(b:Nat):AV:=ptrV b 0
def zmz:Box (AV→Hp→Kont→RL):=⟨fun v H c=>c H v⟩
def pickC:Box (AV→AV→AV→Hp→Kont→RL):=⟨fun a b d H c=>bi (nbeq a.tag 8) (bi (nbeq a.p 1) (c H b) (c H d)) (zab 2)⟩
def zmR(z:AV):Box (Hp→Kont→RL):=⟨fun H c=>newC H (zbt (cellsOf z) 1) ptr0 c⟩
def boxC:Box (AV→Hp→Kont→RL):=⟨fun v H c=>bi (zaO v) (newC H (zbt (cellsOf v) 1) ptr0 c) (zab 4)⟩
def zjG(sz:Nat):Box (AV→Hp→Kont→RL):=⟨fun a H c=>bi (nbeq a.tag 10) (bi (nbeq (hget H a.p).kind 1) (om (zcy (zbJ (hget H a.p).cs a.q) sz) (zab 6) fun l=>c H (aggV l)) (zab 6)) (zab 6)⟩
def zfe(v:AV)(H:Hp)(c:Kont)(n:Nat):RL:=bi (nbeq v.tag 18) (zab n) (c H v)
def load1:Box (AV→Hp→Kont→RL):=⟨fun a H c=>bi (nbeq a.tag 10) (bi (nbeq (hget H a.p).kind 1) (zfe (nthL (hget H a.p).cs a.q) H c 6) (zab 6)) (zab 6)⟩
def zmS(sz:Nat):Box (AV→AV→Hp→Kont→RL):=⟨fun a x H c=>bi (nbeq a.tag 10) (bi (nbeq (hget H a.p).kind 1) (bi (zaO x) (bi (nbeq (lenL (cellsOf x)) sz)
  (om (putC a.q (cellsOf x) (hget H a.p).cs) (zab 7) fun cs=>setC H a.p ⟨1,(hget H a.p).t,(hget H a.p).e,cs⟩ udV c) (zab 7)) (zab 7)) (zab 7)) (zab 7)⟩
def nilC:Box (AV→Hp→Kont→RL):=⟨fun v H c=>bi (nble v.tag 16) (c H v) (zab 8)⟩
def int2(k:Nat)(f:Box (Nat→Nat→AV)):Box (AV→AV→Hp→Kont→RL):=⟨fun a b H c=>bi (nbeq a.tag k) (bi (nbeq b.tag k) (c H (f.run a.p b.p)) (zab 9)) (zab 9)⟩
def ziN(k:Nat)(f:Box (Nat→Nat→AV)):Box (AV→AV→Hp→Kont→RL):=⟨fun a b H c=>bi (nbeq a.tag k) (bi (nbeq b.tag k) (bi (nbeq b.p 0) (zab 9) (c H (f.run a.p b.p))) (zab 9)) (zab 9)⟩
def biased(c a:Nat):Nat:=gt (fun a=>Nat.mod (Nat.add a (zbj c)) (kMod c)) a
def magn(c a:Nat):Nat:=bi (zbb c a) (Nat.sub (kMod c) a) a
def negN(c a:Nat):Nat:=gt (fun a=>Nat.mod (Nat.sub (kMod c) a) (kMod c)) a
def xb(a b:Bool):Bool:=bi a (bi b false true) b
def quoN(c a b:Nat):Nat:=bi (xb (zbb c a) (zbb c b)) (negN c (Nat.div (magn c a) (magn c b))) (Nat.mod (Nat.div (magn c a) (magn c b)) (kMod c))
def remN(c a b:Nat):Nat:=bi (zbb c a) (negN c (Nat.mod (magn c a) (magn c b))) (Nat.mod (magn c a) (magn c b))
def nb(b:Bool):Bool:=bi b false true
def intC(op:BinOp)(c:Nat):Option (Box (AV→AV→Hp→Kont→RL)):=match op with
  | .add=>some (int2 c ⟨fun a b=>mk1 c (gt2 (fun a b=>Nat.mod (Nat.add a b) (kMod c)) a b)⟩)
  | .sub=>some (int2 c ⟨fun a b=>mk1 c (gt2 (fun a b=>Nat.mod (Nat.sub (Nat.add a (kMod c)) b) (kMod c)) a b)⟩)
  | .mul=>some (int2 c ⟨fun a b=>mk1 c (gt2 (fun a b=>Nat.mod (Nat.mul a b) (kMod c)) a b)⟩)
  | .and=>some (int2 c ⟨fun a b=>mk1 c (gt2 (fun a b=>Nat.land a b) a b)⟩)
  | .or=>some (int2 c ⟨fun a b=>mk1 c (gt2 (fun a b=>Nat.lor a b) a b)⟩)
  | .xor=>some (int2 c ⟨fun a b=>mk1 c (gt2 (fun a b=>Nat.xor a b) a b)⟩)
  | .andNot=>some (int2 c ⟨fun a b=>mk1 c (gt2 (fun a b=>Nat.land a (Nat.sub (Nat.pred (kMod c)) b)) a b)⟩)
  | .eql=>some (int2 c ⟨fun a b=>bV (nbeq a b)⟩)
  | .neq=>some (int2 c ⟨fun a b=>bV (nb (nbeq a b))⟩)
  | .lss=>some (int2 c ⟨fun a b=>bV (nb (nble (biased c b) (biased c a)))⟩)
  | .leq=>some (int2 c ⟨fun a b=>bV (nble (biased c a) (biased c b))⟩)
  | .gtr=>some (int2 c ⟨fun a b=>bV (nb (nble (biased c a) (biased c b)))⟩)
  | .geq=>some (int2 c ⟨fun a b=>bV (nble (biased c b) (biased c a))⟩)
  | .quo=>some (ziN c ⟨fun a b=>mk1 c (gt2 (fun a b=>quoN c a b) a b)⟩)
  | .rem=>some (ziN c ⟨fun a b=>mk1 c (gt2 (fun a b=>remN c a b) a b)⟩)
  | _=>none
def shlN(c a n:Nat):Nat:=gt2 (fun a n=>bi (nble (zcM c) n) 0 (Nat.mod (Nat.shiftLeft a n) (kMod c))) a n
def shrN(c a n:Nat):Nat:=gt2 (fun a n=>bi (zbb c a)
  (bi (nble (zcM c) n) (Nat.pred (kMod c)) (Nat.sub (Nat.pred (kMod c)) (Nat.shiftRight (Nat.sub (Nat.pred (kMod c)) a) n)))
  (bi (nble (zcM c) n) 0 (Nat.shiftRight a n))) a n
def shC(left:Bool)(c d:Nat):Box (AV→AV→Hp→Kont→RL) :=
  ⟨fun a b H k=>bi (nbeq a.tag c) (bi (nbeq b.tag d) (bi (zbb d b.p) (zab 9) (k H (mk1 c (bi left (shlN c a.p b.p) (shrN c a.p b.p))))) (zab 9)) (zab 9)⟩
def zgF(want:Bool)(n m:Nat):Box (AV→AV→Hp→Kont→RL):=⟨fun a b H c =>
  bi (isNil a n)
    (bi (isNil b n) (c H (bV want)) (bi (nbeq b.tag m) (c H (bV (nb want))) (zab 9)))
    (bi (nbeq a.tag m) (bi (isNil b n) (c H (bV (nb want))) (zab 9)) (zab 9))⟩
def zf6(want:Bool):Box (AV→AV→Hp→Kont→RL):=⟨fun a b H c=>bi (nbeq a.tag 8) (bi (nbeq b.tag 8) (c H (bV (bi want (nbeq a.p b.p) (nb (nbeq a.p b.p))))) (zab 9)) (zab 9)⟩
def zgG(want:Bool):Box (AV→AV→Hp→Kont→RL):=⟨fun a b H c=>bi (nbeq a.tag 9) (bi (nbeq b.tag 9)
  (c H (bV (bi want (bi (nbeq a.q b.q) (nbeq a.p b.p) false) (nb (bi (nbeq a.q b.q) (nbeq a.p b.p) false))))) (zab 9)) (zab 9)⟩
def catC:Box (AV→AV→Hp→Kont→RL):=⟨fun a b H c=>bi (nbeq a.tag 9) (bi (nbeq b.tag 9) (bi (nble (Nat.add a.q b.q) 1000000)
  (c H ⟨9,Nat.add (Nat.mul a.p (Nat.pow 256 b.q)) b.p,Nat.add a.q b.q,0,0,[]⟩) (zab 9)) (zab 9)) (zab 9)⟩
def zmT(ap aq bp bq:Nat):Bool :=
  bi (nble (Nat.succ (Nat.mul ap (Nat.pow 256 bq))) (Nat.mul bp (Nat.pow 256 aq))) true
    (bi (nbeq (Nat.mul ap (Nat.pow 256 bq)) (Nat.mul bp (Nat.pow 256 aq))) (nble (Nat.succ aq) bq) false)
def zbp(a b:AV):Bool:=gt2 (fun ap aq=>gt2 (fun bp bq=>zmT ap aq bp bq) b.p b.q) a.p a.q
def zei(f:AV→AV→Bool):Box (AV→AV→Hp→Kont→RL):=⟨fun a b H c=>bi (nbeq a.tag 9) (bi (nbeq b.tag 9) (c H (bV (f a b))) (zab 9)) (zab 9)⟩
def zjH(tag off:Nat):Box (List AV→List AV→Option Bool):=⟨fun x y=>bi (nbeq (nthL x off).tag tag) (bi (nbeq (nthL y off).tag tag)
  (some (bi (nbeq (nthL x off).q (nthL y off).q) (nbeq (nthL x off).p (nthL y off).p) false)) none) none⟩
def zo2(d:TypeDesc)(sub:Option (Box (List AV→List AV→Option Bool)))(off sz:Nat):Option (Box (List AV→List AV→Option Bool)):=match d with
  | .int k=>some (zjH (zap k) off)
  | .bool=>some (zjH 8 off)
  | .string=>some (zjH 9 off)
  | .struct _=>om sub none fun g=>some ⟨fun x y=>om (zcy (zbJ x off) sz) none fun x'=>om (zcy (zbJ y off) sz) none fun y'=>g.run x' y'⟩
  | _=>none
def eqFs(ih:TypeId→Option (Box (List AV→List AV→Option Bool)))(l:List Field):Option (Box (List AV→List AV→Option Bool)):=match l with
  | []=>some ⟨fun _ _=>some true⟩
  | f::l=>bi (f.name == "_") none (om (szB P f.type).run none fun sz=>om (tyB P f.type).run none fun d=>om (zo2 d (ih f.type) f.offset sz) none fun g=>om (eqFs ih l) none fun r =>
      some ⟨fun x y=>om (g.run x y) none fun b=>om (r.run x y) none fun b'=>some (bi b b' false)⟩)
def eqTB(fuel:Nat):TypeId→Option (Box (List AV→List AV→Option Bool)) :=
  Nat.rec (motive:=fun _=>TypeId→Option (Box (List AV→List AV→Option Bool))) (fun _=>none)
    (fun _ ih t=>match (tyB P t).run with | some (.struct fs)=>bi (P.stoodInHeld t) none (eqFs P ih fs.toList) | _=>none) fuel
def zgH(want:Bool)(g:Box (List AV→List AV→Option Bool)):Box (AV→AV→Hp→Kont→RL):=⟨fun a b H c=>bi (nbeq a.tag 15) (bi (nbeq b.tag 15)
  (om (g.run a.cs b.cs) (zab 9) fun e=>c H (bV (bi want e (nb e)))) (zab 9)) (zab 9)⟩
def badB2:Box (AV→AV→Hp→Kont→RL):=⟨fun _ _ _ _=>zab 9⟩
def za4{α:Type}(n:Nat)(l:List α):List α:=Nat.rec (motive:=fun _=>List α→List α) (fun _=>[]) (fun _ ih l=>List.rec (motive:=fun _=>List α) [] (fun c t _=>c::ih t) l) n l
def putN{α:Type}(x:α)(n:Nat)(l:List α):List α:=Nat.rec (motive:=fun _=>List α→List α) (fun l=>List.rec (motive:=fun _=>List α) [] (fun _ t _=>x::t) l) (fun _ ih l=>List.rec (motive:=fun _=>List α) [] (fun c t _=>c::ih t) l) n l
def catO{α:Type}(l:List (Option (List α))):Option (List α):=List.rec (motive:=fun _=>Option (List α)) (some []) (fun o _ ih=>om o none fun x=>om ih none fun y=>some (appL x y)) l
def zff(fuel:Nat):TypeId→Option (List TypeId):=Nat.rec (motive:=fun _=>TypeId→Option (List TypeId)) (fun _=>none)
  (fun _ ih t=>match (tyB P t).run with
    | some (.struct fs)=>catO (fs.toList.map fun f=>ih f.type)
    | some (.array n e)=>om (ih e) none fun l=>some (repL n l)
    | some _=>some [t]
    | none=>none) fuel
def kTag(t:TypeId):Option Nat:=match (tyB P t).run with
  | some (.int k)=>some (zap k)
  | some .bool=>some 8
  | some .string=>some 9
  | some (.slice e)=>om (szB P e).run none fun n=>some (Nat.add 32 n)
  | _=>none
def zjI(l:List TypeId):Option (List Nat):=List.rec (motive:=fun _=>Option (List Nat)) (some []) (fun t _ ih=>om (kTag P t) none fun k=>om ih none fun ks=>some (k::ks)) l
def ksB(t:TypeId):Box (Option (List Nat)):=⟨om (zff P 20 t) none (zjI P)⟩
def zax(k:Nat)(c:AV):Bool:=bi (nble 32 k) (bi (nbeq c.tag 24) (nbeq c.r (Nat.sub k 32)) false) (nbeq c.tag k)
def zdW(ks:List Nat)(cs:List AV):Nat→Bool:=List.rec (motive:=fun _=>Nat→Bool) (fun _=>true) (fun k _ ih j=>bi (zax k (nthL cs j)) (ih (Nat.succ j)) false) ks
def canC(k:Nat)(c:AV):AV:=bi (nble k 8) (mk1 k c.p) (bi (nbeq k 9) ⟨9,c.p,c.q,0,0,[]⟩ ⟨24,c.p,0,Nat.sub k 32,0,c.cs⟩)
def zcN(ks:List Nat)(cs:List AV):Nat→List AV:=List.rec (motive:=fun _=>Nat→List AV) (fun _=>[]) (fun k _ ih j=>canC k (nthL cs j)::ih (Nat.succ j)) ks
def zbE(agg:Bool)(l:List AV):AV:=bi agg (aggV l) (nthL l 0)
def isL(B:AB):Bool:=bi (nbeq B.kind 6) true (nbeq B.kind 7)
def zhz(agg:Bool)(ks:List Nat)(cs:List AV)(q:Nat)(H:Hp)(c:Kont):RL:=bi (zdW ks cs q) (c H (zbE agg (zcN ks cs q))) (zab 201)
def zjJ(agg:Bool)(sz:Nat)(ko:Option (List Nat)):Box (AV→Hp→Kont→RL):=⟨fun a H c=>om ko (zab 201) fun ks=>bi (nb (nbeq (lenL ks) (bi agg sz 1))) (zab 201) <|
  bi (nbeq a.tag 26) (zhz agg ks (cellsOf (nthL a.cs 0)) a.q H c)
    (bi (nbeq a.tag 27) (bi (isL (hget H a.p)) (bi (nbeq a.s (hget H a.p).t) (zhz agg ks (cellsOf (nthL (hget H a.p).cs a.r)) a.q H c) (zab 201)) (zab 201)) (zab 201))⟩
def zmU(agg:Bool)(sz:Nat)(ko:Option (List Nat)):Box (AV→AV→Hp→Kont→RL):=⟨fun a x H c=>om ko (zab 202) fun ks=>bi (nb (bi agg true (nbeq sz 1))) (zab 202) <|
  bi (nbeq a.tag 27) (bi (nbeq a.q 0) (bi (nbeq a.s sz) (bi (nbeq (hget H a.p).kind 6) (bi (nbeq (hget H a.p).t sz) (bi (nbeq (lenL ks) sz) (bi (nbeq (lenL (cellsOf x)) sz) (bi (zdW ks (cellsOf x) 0)
    (setC H a.p ⟨6,sz,(hget H a.p).e,putN (zbE agg (zcN ks (cellsOf x) 0)) a.r (hget H a.p).cs⟩ udV c) (zab 202)) (zab 202)) (zab 202)) (zab 202)) (zab 202)) (zab 202)) (zab 202)) (zab 202)⟩
def nilY:Box (AV→Hp→Kont→RL):=⟨fun v H c=>bi (bi (nbeq v.tag 26) true (nbeq v.tag 27)) (c H v) (zab 203)⟩
def zes(off:Nat):Box (AV→Hp→Kont→RL):=⟨fun v H c=>bi (nbeq v.tag 26) (c H ⟨26,0,Nat.add v.q off,0,0,[nthL v.cs 0]⟩) (bi (nbeq v.tag 27) (c H ⟨27,v.p,Nat.add v.q off,v.r,v.s,[]⟩) (zab 204))⟩
def ixT(i:AV):Bool:=bi (nbeq i.tag 3) true (bi (nble 4 i.tag) (nble i.tag 7) false)
def zjK(sz:Nat):Box (AV→AV→Hp→Kont→RL):=⟨fun x i H c=>bi (ixT i)
  (bi (nbeq x.tag 24) (bi (nbeq x.r sz) (bi (nble (Nat.succ i.p) (lenL x.cs)) (c H ⟨26,0,0,0,0,[nthL x.cs i.p]⟩) (zab 205)) (zab 205))
    (bi (nbeq x.tag 25) (bi (isL (hget H x.q)) (bi (nbeq (hget H x.q).t sz) (bi (nble (Nat.succ i.p) x.r) (c H ⟨27,x.q,0,i.p,sz,[]⟩) (zab 205)) (zab 205)) (zab 205)) (zab 205))) (zab 205)⟩
def lenY:Box (AV→Hp→Kont→RL):=⟨fun v H c=>bi (nbeq v.tag 24) (c H (mk1 3 (lenL v.cs))) (bi (nbeq v.tag 25) (bi (isL (hget H v.q)) (c H (mk1 3 v.r)) (zab 206)) (zab 206))⟩
def zgI(want:Bool):Box (AV→AV→Hp→Kont→RL):=⟨fun a b H c=>bi (isNil b 1) (bi (bi (nbeq a.tag 24) true (nbeq a.tag 25)) (c H (bV (bi want (nbeq a.p 0) (nb (nbeq a.p 0))))) (zab 207)) (zab 207)⟩
def cutY(sz:Nat)(hasHi:Bool):Box (AV→AV→AV→Hp→Kont→RL):=⟨fun x l h H c=>bi (nbeq l.tag 3)
  (bi (bi (nbeq x.tag 24) (nbeq x.r sz) false) ((fun hi:AV=>bi (nbeq hi.tag 3) (bi (nble hi.p (lenL x.cs)) (bi (nble l.p hi.p) (c H ⟨24,x.p,0,x.r,0,zbJ (za4 hi.p x.cs) l.p⟩) (zab 208)) (zab 208)) (zab 208)) (bi hasHi h (mk1 3 (lenL x.cs))))
    (bi (nbeq x.tag 25) (bi (isL (hget H x.q)) ((fun hi:AV=>bi (nbeq hi.tag 3) (bi (nbeq l.p 0) (bi (nble hi.p x.r) (c H ⟨25,x.p,x.q,hi.p,0,[]⟩) (zab 208)) (zab 208)) (zab 208)) (bi hasHi h (mk1 3 x.r))) (zab 208)) (zab 208))) (zab 208)⟩
def zjL(sz:Nat):Box (List AV→Hp→Kont→RL):=⟨fun vs H c=>(fun x l h m:AV=>bi (bi (nbeq l.tag 3) (bi (nbeq h.tag 3) (nbeq m.tag 3) false) false)
  (bi (bi (nbeq x.tag 24) (nbeq x.r sz) false) (bi (nbeq h.p m.p) (bi (nble h.p (lenL x.cs)) (bi (nble l.p h.p) (c H ⟨24,x.p,0,x.r,1,zbJ (za4 h.p x.cs) l.p⟩) (zab 209)) (zab 209)) (zab 209)) (zab 209)) (zab 209)) (nthL vs 0) (nthL vs 1) (nthL vs 2) (nthL vs 3)⟩
def frzB(H:Hp)(b:Nat):Hp:=hset H b ⟨7,(hget H b).t,(hget H b).e,(hget H b).cs⟩
def frzC(ih:TypeId→Nat→List AV→Hp→Option (List AV × Hp))(t:TypeId)(c:AV)(H:Hp):Option (AV × Hp):=match (tyB P t).run with
  | some (.slice e)=>om (szB P e).run none fun sz=>bi (nbeq c.tag 24) (bi (nbeq c.r sz) (some (⟨24,c.p,0,sz,0,c.cs⟩,H)) none) (bi (isNil c 1) (some (⟨24,0,0,sz,0,[]⟩,H))
      (bi (nbeq c.tag 25) (bi (bi (nble H.lim c.q) (nble (Nat.succ c.q) H.n) false) (bi (isL (hget H c.q)) (bi (nbeq (hget H c.q).t sz) (some (⟨24,bi (nbeq c.p 0) 0 1,0,sz,0,za4 c.r (hget H c.q).cs⟩,frzB H c.q)) none) none) none)
        (bi (nbeq c.tag 11) (bi (nbeq (hget H c.p).kind 1) (bi (nble 1 sz) (bi (nble c.r 100000) (om (zcy (zbJ (hget H c.p).cs c.q) (Nat.mul c.r sz)) none fun cells =>
          om (ih e c.r cells (hset H c.p noB)) none fun x=>bi (nble H.lim c.p) (some (⟨24,1,0,sz,0,x.1⟩,x.2)) none) none) none) none) none)))
  | some (.pointer _)=>bi (isNil c 0) (some (c,H)) none
  | some (.map _ _)=>bi (isNil c 2) (some (c,H)) none
  | some (.func _ _ _)=>bi (isNil c 3) (some (c,H)) none
  | _=>om (kTag P t) none fun k=>bi (nbeq c.tag k) (some (canC k c,H)) none
def frzL(ih:TypeId→Nat→List AV→Hp→Option (List AV × Hp))(ts:List TypeId):List AV→Hp→Option (List AV × Hp):=List.rec (motive:=fun _=>List AV→Hp→Option (List AV × Hp))
  (fun cs H=>List.rec (motive:=fun _=>Option (List AV × Hp)) (some ([],H)) (fun _ _ _=>none) cs)
  (fun t _ ihl cs H=>List.rec (motive:=fun _=>Option (List AV × Hp)) none (fun c cs _=>om (frzC P ih t c H) none fun x=>om (ihl cs x.2) none fun y=>some (x.1::y.1,y.2)) cs) ts
def frzE(fuel:Nat):TypeId→Nat→List AV→Hp→Option (List AV × Hp):=Nat.rec (motive:=fun _=>TypeId→Nat→List AV→Hp→Option (List AV × Hp)) (fun _ _ _ _=>none)
  (fun _ ih t n=>om (zff P 20 t) (fun _ _=>none) fun ts=>om (szB P t).run (fun _ _=>none) fun sz=>bi (bi (nbeq (lenL ts) sz) (bi (zaC P t) true (nbeq sz 1)) false) (Nat.rec (motive:=fun _=>List AV→Hp→Option (List AV × Hp)) (fun cs H=>List.rec (motive:=fun _=>Option (List AV × Hp)) (some ([],H)) (fun _ _ _=>none) cs)
    (fun _ ihn cs H=>om (zcy cs (lenL ts)) none fun x=>om (frzL P ih ts x H) none fun y=>om (ihn (zbJ cs (lenL ts)) y.2) none fun z=>some (zbE (zaC P t) y.1::z.1,z.2)) n) (fun _ _=>none)) fuel
def ziO(t:TypeId)(sz:Nat)(H:Hp)(y:AV):Option (List AV × Hp) :=
  bi (nbeq y.tag 24) (bi (nbeq y.r sz) (some (y.cs,H)) none) (bi (isNil y 1) (some ([],H)) (bi (nbeq y.tag 25) (bi (isL (hget H y.q)) (bi (nbeq (hget H y.q).t sz) (some (za4 y.r (hget H y.q).cs,H)) none) none)
    (bi (nbeq y.tag 11) (bi (nbeq (hget H y.p).kind 1) (om (zcy (zbJ (hget H y.p).cs y.q) (Nat.mul y.r sz)) none fun cells=>frzE P 20 t y.r cells H) none) none)))
def zfg(sz:Nat)(p:Nat)(cs news:List AV)(H:Hp)(c:Kont):RL:=bi (nble 1 sz) (bi (nble (Nat.add (lenL cs) (lenL news)) 100000)
  (newC H ⟨6,sz,0,appL cs news⟩ (fun b=>⟨25,bi (nbeq (lenL news) 0) p 1,b,Nat.add (lenL cs) (lenL news),0,[]⟩) c) (zab 211)) (zab 211)
def zeE(t:TypeId)(sz bt:Nat):Box (AV→AV→Hp→Kont→RL):=⟨fun x y H c=>om (ziO P t sz H y) (zab 212) fun z =>
  bi (nbeq x.tag 25) (bi (nbeq (hget z.2 x.q).kind 6) (bi (nbeq (hget z.2 x.q).t sz) (bi (bi (nble z.2.lim x.q) (nble (Nat.succ x.q) z.2.n) false) (zfg sz x.p (za4 x.r (hget z.2 x.q).cs) z.1 (hset z.2 x.q noB) c) (zab 212)) (zab 212)) (zab 212))
    (bi (nbeq x.tag 24) (bi (nbeq x.s 1) (bi (nbeq (lenL x.cs) 0) (zfg sz (bi (nbeq x.p 0) 0 2) [] z.1 z.2 c) (zab 212)) (zab 212)) (bi (isNil x 1) (zfg sz 0 [] z.1 z.2 c) (zab 212)))⟩
def orY1(f g:Box (AV→Hp→Kont→RL)):Box (AV→Hp→Kont→RL):=⟨fun a H c=>bi (nble a.tag 23) (f.run a H c) (g.run a H c)⟩
def orY2(f g:Box (AV→AV→Hp→Kont→RL)):Box (AV→AV→Hp→Kont→RL):=⟨fun a b H c=>bi (nble a.tag 23) (f.run a b H c) (g.run a b H c)⟩
def orY3(f g:Box (AV→AV→AV→Hp→Kont→RL)):Box (AV→AV→AV→Hp→Kont→RL):=⟨fun a b d H c=>bi (nble a.tag 23) (f.run a b d H c) (g.run a b d H c)⟩
def orYN(f g:Box (List AV→Hp→Kont→RL)):Box (List AV→Hp→Kont→RL):=⟨fun a H c=>bi (nble (nthL a 0).tag 23) (f.run a H c) (g.run a H c)⟩
def zgJ(op:BinOp):Box (AV→AV→Hp→Kont→RL):=match op with
  | .eql=>zgG true
  | .neq=>zgG false
  | .lss=>zei zbp
  | .gtr=>zei fun a b=>zbp b a
  | .leq=>zei fun a b=>nb (zbp b a)
  | .geq=>zei fun a b=>nb (zbp a b)
  | .add=>catC
  | _=>badB2
def zet(op:BinOp)(n m:Nat):Box (AV→AV→Hp→Kont→RL):=match op with | .eql=>zgF true n m | .neq=>zgF false n m | _=>badB2
def zf7(op:BinOp):Box (AV→AV→Hp→Kont→RL):=match op with | .eql=>zf6 true | .neq=>zf6 false | _=>badB2
def zgK(op:BinOp)(t:TypeId):Box (AV→AV→Hp→Kont→RL):=bi (P.eqGuardType P.depth t) badB2 (om (eqTB P 20 t) badB2 fun g=>match op with | .eql=>zgH true g | .neq=>zgH false g | _=>badB2)
def ziP(op:BinOp)(f:Box (AV→AV→Hp→Kont→RL)):Box (AV→AV→Hp→Kont→RL):=match op with
  | .lss=>⟨fun a b H c=>bi (nble a.tag 20) (f.run a b H c) (bi (bi (nbeq b.tag 3) (nbeq b.p 0) false) (bi (nbeq a.tag 21) (c H (bV true)) (bi (nbeq a.tag 22) (c H (bV false)) (zab 9))) (zab 9))⟩
  | .geq=>⟨fun a b H c=>bi (nble a.tag 20) (f.run a b H c) (bi (bi (nbeq b.tag 3) (nbeq b.p 0) false) (bi (nbeq a.tag 21) (c H (bV false)) (bi (nbeq a.tag 22) (c H (bV true)) (zab 9))) (zab 9))⟩
  | .gtr=>⟨fun a b H c=>bi (nble a.tag 20) (f.run a b H c) (bi (nbeq a.tag 22) (bi (nbeq b.tag 3) (c H (mk1 23 1)) (zab 9)) (zab 9))⟩
  | _=>f
def zgL(op:BinOp)(k:IntKind):Box (AV→AV→Hp→Kont→RL):=om (intC op (zap k)) badB2 fun f=>bi (nbeq (zap k) 3) (ziP op f) f
def zgM(op:BinOp)(t:TypeId):Box (AV→AV→Hp→Kont→RL):=match (tyB P t).run with
  | some (.int k)=>zgL op k
  | some .string=>zgJ op
  | some .bool=>zf7 op
  | some (.pointer _)=>zet op 0 10
  | some (.slice _)=>orY2 (zet op 1 11) (match op with | .eql=>zgI true | .neq=>zgI false | _=>badB2)
  | some (.map _ _)=>zet op 2 12
  | some (.func _ _ _)=>zet op 3 13
  | some (.struct _)=>zgK P op t
  | _=>badB2
def zh0(left:Bool)(t ty:TypeId):Box (AV→AV→Hp→Kont→RL):=match (tyB P t).run,(tyB P ty).run with
  | some (.int k),some (.int d)=>shC left (zap k) (zap d)
  | _,_=>badB2
def binC(op:BinOp)(t:TypeId)(ty:TypeId):Box (AV→AV→Hp→Kont→RL):=match op with
  | .shl=>zh0 P true t ty
  | .shr=>zh0 P false t ty
  | op=>zgM P op t
def unC(op:UnOp)(t:TypeId):Box (AV→Hp→Kont→RL):=match op,(tyB P t).run with
  | .not,_=>⟨fun v H c=>bi (nbeq v.tag 8) (c H (mk1 8 (Nat.sub 1 v.p))) (zab 10)⟩
  | .neg,some (.int k)=>⟨fun v H c=>bi (nbeq v.tag (zap k)) (c H (mk1 (zap k) (negN (zap k) v.p))) (zab 10)⟩
  | .xor,some (.int k)=>⟨fun v H c=>bi (nbeq v.tag (zap k)) (c H (mk1 (zap k) (Nat.sub (Nat.pred (kMod (zap k))) v.p))) (zab 10)⟩
  | _,_=>⟨fun _ _ _=>zab 10⟩
def cnvN(a b n:Nat):Nat:=gt (fun n=>bi (zbb a n) (Nat.mod (Nat.add n (Nat.sub (Nat.mul (kMod b) (kMod a)) (kMod a))) (kMod b)) (Nat.mod n (kMod b))) n
def z0Q(l:List AV):Option Nat:=List.rec (motive:=fun _=>Nat→Option Nat) (fun n=>some n) (fun v _ ih n=>bi (nbeq v.tag 4) (ih (Nat.add (Nat.mul n 256) v.p)) none) l 0
def b2sC:Box (AV→Hp→Kont→RL):=⟨fun v H c=>bi (isNil v 1) (c H ⟨9,0,0,0,0,[]⟩)
  (bi (nbeq v.tag 11) (bi (nbeq (hget H v.p).kind 1) (om (zcy (zbJ (hget H v.p).cs v.q) v.r) (zab 11) fun l=>om (z0Q l) (zab 11) fun n=>c H ⟨9,n,v.r,0,0,[]⟩) (zab 11)) (zab 11))⟩
def isU8(e:TypeId):Bool:=match (tyB P e).run with | some (.int .u8)=>true | _=>false
def ziQ(a b:TypeId):Box (AV→Hp→Kont→RL):=match (tyB P a).run,(tyB P b).run with
  | some (.int ka),some (.int kb)=>⟨fun v H c=>bi (nbeq v.tag (zap ka)) (c H (mk1 (zap kb) (cnvN (zap ka) (zap kb) v.p))) (zab 11)⟩
  | some .string,some .string=>⟨fun v H c=>bi (nbeq v.tag 9) (c H v) (zab 11)⟩
  | some (.slice e),some .string=>bi (isU8 P e) b2sC ⟨fun _ _ _=>zab 11⟩
  | _,_=>⟨fun _ _ _=>zab 11⟩
def zgh(pl:List (Nat × Nat)):List AV→List AV→Option (List AV) :=
  List.rec (motive:=fun _=>List AV→List AV→Option (List AV)) (fun _ cs=>some cs)
    (fun oz _ ih vs cs=>List.rec (motive:=fun _=>Option (List AV)) none
      (fun v vs _=>bi (zaO v) (bi (nbeq (lenL (cellsOf v)) oz.2) (om (putC oz.1 (cellsOf v) cs) none fun cs=>ih vs cs) none) none) vs) pl
def zbS(f:Nat→Option (Nat × Nat))(l:List Nat):Option (List (Nat × Nat)):=match l with
  | []=>some []
  | i::l=>om (f i) none fun x=>om (zbS f l) none fun r=>some (x::r)
def zgN(pl:List (Nat × Nat))(z:List AV):Box (List AV→Hp→Kont→RL):=⟨fun vs H c=>om (zgh pl vs z) (zab 4) fun cs=>c H (aggV cs)⟩
def slV(b off len s:Nat):AV:=⟨11,b,off,len,s,[]⟩
def exS(c:Nat):Nat:=Nat.succ (Nat.mul 2 c)
def lbS(c:Nat):Nat:=Nat.mul 2 c
def isEx(s:Nat):Bool:=nbeq (Nat.land s 1) 1
def capS(s:Nat):Nat:=Nat.div s 2
def zg7(pl:List (Nat × Nat))(z:List AV)(len:Nat):Box (List AV→Hp→Kont→RL) :=
  ⟨fun vs H c=>om (zgh pl vs z) (zab 5) fun cs=>newC H (zbt cs 1) (fun b=>slV b 0 len (exS len)) c⟩
def zdi(z:List AV):Box (AV→AV→Hp→Kont→RL):=⟨fun l m H c=>bi (nbeq l.tag 3) (bi (nbeq m.tag 3) (bi (nble l.p m.p) (bi (nble m.p 100000)
  (newC H (zbt (repC m.p z) 1) (fun b=>slV b 0 l.p (exS m.p)) c) (zab 12)) (zab 12)) (zab 12)) (zab 12)⟩
def ixOk(v:AV)(n:Nat):Bool:=bi (nble v.tag 7) (bi (nble v.p n) (nb (zbb v.tag v.p)) false) false
def cutV(sz:Nat)(x:AV)(l h s:Nat):AV:=slV x.p (Nat.add x.q (Nat.mul l sz)) (Nat.sub h l) s
def cutC(sz:Nat)(hasHi:Bool):Box (AV→AV→AV→Hp→Kont→RL):=⟨fun x l h H c =>
  bi (nbeq x.tag 11)
    ((fun hi:AV=>bi (ixOk hi (capS x.s)) (bi (ixOk l hi.p) (bi (bi (nbeq l.p 0) true (nble (Nat.succ l.p) (capS x.s)))
      (c H (cutV sz x l.p hi.p (bi (isEx x.s) (exS (Nat.sub (capS x.s) l.p)) (lbS (Nat.sub (capS x.s) l.p))))) (zab 13)) (zab 13)) (zab 13)) (bi hasHi h (mk1 3 x.r)))
    (bi (isNil x 1) (bi (ixOk l 0) (bi (ixOk (bi hasHi h (mk1 3 0)) 0) (c H x) (zab 13)) (zab 13)) (zab 13))⟩
def zjM(sz:Nat):Box (List AV→Hp→Kont→RL):=⟨fun vs H c=>(fun x l h m:AV=>bi (nbeq x.tag 11)
    (bi (ixOk m (capS x.s)) (bi (ixOk h m.p) (bi (ixOk l h.p) (bi (bi (nbeq l.p 0) true (nble (Nat.succ l.p) m.p))
      (c H (cutV sz x l.p h.p (exS (Nat.sub m.p l.p)))) (zab 13)) (zab 13)) (zab 13)) (zab 13)) (zab 13)) (nthL vs 0) (nthL vs 1) (nthL vs 2) (nthL vs 3)⟩
def zgO(n sz:Nat)(hasHi:Bool):Box (AV→AV→AV→Hp→Kont→RL):=⟨fun x l h H c =>
  bi (nbeq x.tag 10) ((fun hi:AV=>bi (ixOk hi n) (bi (ixOk l hi.p) (bi (bi (nbeq l.p 0) true (nble (Nat.succ l.p) n))
      (c H (cutV sz x l.p hi.p (exS (Nat.sub n l.p)))) (zab 13)) (zab 13)) (zab 13)) (bi hasHi h (mk1 3 n))) (zab 13)⟩
def zrg(x:AV)(l h:Nat):AV:=⟨9,Nat.mod (Nat.div x.p (Nat.pow 256 (Nat.sub x.q h))) (Nat.pow 256 (Nat.sub h l)),Nat.sub h l,0,0,[]⟩
def zgP(hasHi:Bool):Box (AV→AV→AV→Hp→Kont→RL):=⟨fun x l h H c =>
  bi (nbeq x.tag 9) ((fun hi:AV=>bi (ixOk hi x.q) (bi (ixOk l hi.p) (c H (zrg x l.p hi.p)) (zab 13)) (zab 13)) (bi hasHi h (mk1 3 x.q))) (zab 13)⟩
def zdy:Operand:=.const (.int .i64 0)
def zgQ(t:TypeId)(x:Operand)(lo hi mx:Option Operand):OpC:=match (tyB P t).run,mx with
  | some (.slice e),none=>om (szB P e).run (badC 13) fun sz=>bi (nbeq sz 0) (badC 13) (.c3 x (lo.getD zdy) (hi.getD zdy) (orY3 (cutC sz hi.isSome) (cutY sz hi.isSome)))
  | some (.slice e),some m=>om (szB P e).run (badC 13) fun sz=>om hi (badC 13) fun h=>.cN [x,lo.getD zdy,h,m] (orYN (zjM sz) (zjL sz))
  | some .string,none=>.c3 x (lo.getD zdy) (hi.getD zdy) (zgP hi.isSome)
  | some (.array n e),none=>om (szB P e).run (badC 13) fun sz=>.c3 x (lo.getD zdy) (hi.getD zdy) (zgO n sz hi.isSome)
  | _,_=>badC 13
def zeu(off:Nat):Box (AV→Hp→Kont→RL):=⟨fun v H c=>bi (nbeq v.tag 10) (c H (ptrV v.p (Nat.add v.q off))) (zab 14)⟩
def zh1(agg:Bool)(off sz:Nat)(cs:List AV)(H:Hp)(c:Kont)(n:Nat):RL:=bi agg (om (zcy (zbJ cs off) sz) (zab n) fun l=>c H (aggV l)) (zfe (nthL cs off) H c n)
def zig(agg:Bool)(off sz:Nat):Box (AV→Hp→Kont→RL):=⟨fun v H c=>bi (nbeq v.tag 15) (zh1 agg off sz v.cs H c 15) (zab 15)⟩
def zjN(sz:Nat):Box (AV→AV→Hp→Kont→RL):=⟨fun x i H c=>bi (nbeq x.tag 11) (bi (ixOk i (Nat.pred x.r)) (bi (nbeq x.r 0) (zab 16) (c H (ptrV x.p (Nat.add x.q (Nat.mul i.p sz))))) (zab 16)) (zab 16)⟩
def zih(n sz:Nat):Box (AV→AV→Hp→Kont→RL):=⟨fun x i H c=>bi (nbeq x.tag 10) (bi (ixOk i (Nat.pred n)) (bi (nbeq n 0) (zab 16) (c H (ptrV x.p (Nat.add x.q (Nat.mul i.p sz))))) (zab 16)) (zab 16)⟩
def zii(agg:Bool)(n sz:Nat):Box (AV→AV→Hp→Kont→RL):=⟨fun x i H c=>bi (nbeq x.tag 15) (bi (ixOk i (Nat.pred n)) (bi (nbeq n 0) (zab 17) (zh1 agg (Nat.mul i.p sz) sz x.cs H c 17)) (zab 17)) (zab 17)⟩
def zbf(x:AV)(i:Nat):Nat:=gt2 (fun p q=>gt (fun i=>Nat.mod (Nat.div p (Nat.pow 256 (Nat.sub (Nat.pred q) i))) 256) i) x.p x.q
def ixStrC:Box (AV→AV→Hp→Kont→RL):=⟨fun x i H c=>bi (nbeq x.tag 9) (bi (ixOk i (Nat.pred x.q)) (bi (nbeq x.q 0) (zab 17) (c H (mk1 4 (zbf x i.p)))) (zab 17)) (zab 17)⟩
def keyA(kt:Nat)(k:AV):Bool:=bi (nble 32 kt) (bi (nbeq k.tag 15) (bi (nbeq (lenL k.cs) (Nat.div (Nat.sub kt 32) 8)) (allL (fun c=>nbeq c.tag (Nat.mod kt 8)) k.cs) false) false) (nbeq k.tag kt)
def zgi(x:List AV):List AV→Bool:=List.rec (motive:=fun _=>List AV→Bool) (fun y=>List.rec (motive:=fun _=>Bool) true (fun _ _ _=>false) y) (fun a _ ih y=>List.rec (motive:=fun _=>Bool) false (fun b y _=>bi (nbeq a.p b.p) (ih y) false) y) x
def zcD(kt:Nat)(a b:AV):Bool:=bi (nble 32 kt) (zgi a.cs b.cs) (bi (nbeq a.p b.p) (nbeq a.q b.q) false)
def zcp(kt:Nat)(k:AV)(es:List AV):Option AV:=List.rec (motive:=fun _=>Option AV) none (fun e _ ih=>bi (zcD kt (nthL e.cs 0) k) (some (nthL e.cs 1)) ih) es
def entV(b:Nat)(k v:AV):AV:=⟨16,b,0,0,0,[k,v]⟩
def updE(kt:Nat)(k v:AV)(es:List AV):List AV:=List.rec (motive:=fun _=>List AV) [] (fun e es ih=>bi (zcD kt (nthL e.cs 0) k) (entV e.p k v::es) (e::ih)) es
def delE(kt:Nat)(k:AV)(es:List AV):List AV:=List.rec (motive:=fun _=>List AV) [] (fun e es ih=>bi (zcD kt (nthL e.cs 0) k) es (e::ih)) es
def zfI(t:TypeId):Option Nat:=match (tyB P t).run with
  | some (.int k)=>some (zap k)
  | some .string=>some 9
  | some (.array n e)=>(match (tyB P e).run,(szB P e).run with
    | some (.int k),some 1=>some (Nat.add 32 (Nat.add (Nat.mul 8 n) (zap k)))
    | _,_=>none)
  | _=>none
def zeR(ok:Bool)(o:Option AV)(z:AV):AV:=om o (bi ok (tupV [z,bV false]) z) fun v=>bi ok (tupV [v,bV true]) v
def zfs(kt:Nat)(z:AV)(ok:Bool):Box (AV→AV→Hp→Kont→RL):=⟨fun m k H c =>
  bi (nbeq m.tag 12) (bi (nbeq (hget H m.p).kind 2) (bi (nbeq (hget H m.p).t kt) (bi (keyA kt k) (c H (zeR ok (zcp kt k (hget H m.p).cs) z)) (zab 18)) (zab 18)) (zab 18))
    (bi (isNil m 2) (bi (keyA kt k) (c H (zeR ok none z)) (zab 18)) (zab 18))⟩
def hasE(kt:Nat)(k:AV)(es:List AV):Bool:=om (zcp kt k es) false fun _=>true
def getE(kt:Nat)(k:AV)(es:List AV):AV:=om (zcp kt k es) unkV fun v=>v
def clkE(kt:Nat)(k:AV)(e:Nat)(es:List AV):Nat:=om (zcp kt k es) (Nat.succ e) fun _=>e
def putE(kt:Nat)(k v:AV)(e:Nat)(es:List AV):List AV:=om (zcp kt k es) (appL es [entV e k v]) fun _=>updE kt k v es
def zd5(B:AB)(k v:AV):AB:=⟨2,B.t,clkE B.t k B.e B.cs,putE B.t k v B.e B.cs⟩
def tyE(agg:Bool)(ks:List Nat)(u:AV):Bool:=bi (zdW ks (cellsOf u) 0) (bi (nbeq (lenL (cellsOf u)) (lenL ks)) (bi agg (nbeq u.tag 15) (bi (nbeq u.tag 15) false (nbeq (lenL ks) 1))) false) false
def canE(agg:Bool)(ks:List Nat)(u:AV):AV:=zbE agg (zcN ks (cellsOf u) 0)
def zjO(kt:Nat)(z:AV)(ok agg:Bool)(ko:Option (List Nat)):Box (AV→AV→Hp→Kont→RL):=om ko (zfs kt z ok) fun ks=>⟨fun m k H c=>bi (bi (nbeq m.tag 12) (nbeq m.q 1) false)
  (bi (nbeq (hget H m.p).kind 2) (bi (nbeq (hget H m.p).t kt) (bi (keyA kt k) (bi (hasE kt k (hget H m.p).cs)
    (bi (tyE agg ks (getE kt k (hget H m.p).cs)) (c H (zeR ok (some (canE agg ks (getE kt k (hget H m.p).cs))) z)) (zab 181)) (c H (zeR ok none z))) (zab 18)) (zab 18)) (zab 18))
  ((zfs kt z ok).run m k H c)⟩
def zkV(kt:Nat):Box (AV→AV→AV→Hp→Kont→RL):=⟨fun m k v H c =>
  bi (nbeq m.tag 12) (bi (nbeq (hget H m.p).kind 2) (bi (nbeq (hget H m.p).t kt) (bi (keyA kt k) (setC H m.p (zd5 (hget H m.p) k v) udV c) (zab 19)) (zab 19)) (zab 19)) (zab 19)⟩
def delC(kt:Nat):Box (AV→AV→Hp→Kont→RL):=⟨fun m k H c =>
  bi (nbeq m.tag 12) (bi (nbeq (hget H m.p).kind 2) (bi (nbeq (hget H m.p).t kt) (bi (keyA kt k) (setC H m.p ⟨2,(hget H m.p).t,(hget H m.p).e,delE kt k (hget H m.p).cs⟩ (tupV []) c) (zab 33)) (zab 33)) (zab 33)) (zab 33)⟩
def zjP(kt:Nat)(k:AV)(es:List AV):Nat:=List.rec (motive:=fun _=>Nat) 0 (fun e _ ih=>bi (zcD kt (nthL e.cs 0) k) e.p ih) es
def zkW(kt:Nat)(z:AV):Box (AV→AV→Hp→Kont→RL):=⟨fun m k H c =>
  bi (nbeq m.tag 12) (bi (nbeq (hget H m.p).kind 2) (bi (nbeq (hget H m.p).t kt) (bi (keyA kt k) (bi (nble (hget H m.p).e 1000000)
    (om (zcp kt k (hget H m.p).cs) (setC H m.p (zd5 (hget H m.p) k z) (tupV [z,mk1 3 (hget H m.p).e]) c)
      fun v=>setC H m.p (zd5 (hget H m.p) k v) (tupV [v,mk1 3 (zjP kt k (hget H m.p).cs)]) c) (zab 191)) (zab 191)) (zab 191)) (zab 191)) (zab 191)⟩
def setN(n:Nat)(v:AV)(es:List AV):Option (List AV):=List.rec (motive:=fun _=>Option (List AV)) none (fun e t ih=>bi (nbeq e.p n) (some (entV e.p (nthL e.cs 0) v::t)) (om ih none fun l=>some (e::l))) es
def entStC:Box (AV→AV→AV→Hp→Kont→RL):=⟨fun m s v H c =>
  bi (nbeq m.tag 12) (bi (nbeq (hget H m.p).kind 2) (bi (nbeq s.tag 3) (bi (nble s.p 1000000) (om (setN s.p v (hget H m.p).cs) (zab 192) fun es=>setC H m.p ⟨2,(hget H m.p).t,(hget H m.p).e,es⟩ udV c) (zab 192)) (zab 192)) (zab 192)) (zab 192)⟩
def zfJ(i:Nat):Box (AV→Hp→Kont→RL):=⟨fun v H c=>bi (nbeq v.tag 16) (bi (nble (Nat.succ i) (lenL v.cs)) (c H (nthL v.cs i)) (zab 27)) (zab 27)⟩
def zjQ(m:AV)(e:Nat)(seen:List AV):AB:=⟨3,0,e,[m,tupV seen]⟩
def rangeC:Box (AV→Hp→Kont→RL):=⟨fun m H c=>bi (nbeq m.tag 12) (bi (nbeq (hget H m.p).kind 2) (newC H (zjQ m (hget H m.p).e []) ptr0 c) (zab 28))
  (bi (isNil m 2) (newC H (zjQ m 0 []) ptr0 c) (zab 28))⟩
def memN(n:Nat)(l:List AV):Bool:=List.rec (motive:=fun _=>Bool) false (fun a _ ih=>bi (nbeq a.p n) true ih) l
def ziR(seen es:List AV):List AV:=List.rec (motive:=fun _=>List AV) [] (fun e _ ih=>bi (memN e.p seen) ih (e::ih)) es
def zjR(it:Nat)(B:AB)(H:Hp)(c:Kont)(l:List AV):RL :=
  fmL l fun e=>setC H it (zjQ (nthL B.cs 0) B.e (appL (nthL B.cs 1).cs [mk1 3 e.p])) (tupV [bV true,nthL e.cs 0,nthL e.cs 1]) c
def nextC:Box (AV→Hp→Kont→RL):=⟨fun v H c=>bi (nbeq v.tag 10) (bi (nbeq v.q 0) ((fun B:AB=>bi (nbeq B.kind 3)
  (bi (nbeq (nthL B.cs 0).tag 17) (c H (tupV [bV false])) (bi (nbeq (nthL B.cs 0).tag 12) ((fun M:AB=>bi (nbeq M.kind 2) (bi (nbeq M.e B.e)
    ((fun l:List AV=>List.rec (motive:=fun _=>RL) (c H (tupV [bV false])) (fun _ _ _=>zjR v.p B H c l) l) (ziR (nthL B.cs 1).cs M.cs)) (zab 29)) (zab 29)) (hget H (nthL B.cs 0).p)) (zab 29))) (zab 29)) (hget H v.p)) (zab 29)) (zab 29)⟩
def zev(l:List AV):Nat:=List.rec (motive:=fun _=>Nat→Nat) (fun n=>n) (fun a _ ih _=>ih a.p) l 0
def zpo(n:Nat)(es:List AV):Option (List AV):=List.rec (motive:=fun _=>Option (List AV)) none (fun e _ ih=>bi (nbeq e.p n) (some e.cs) ih) es
def entryC:Box (AV→Hp→Kont→RL):=⟨fun v H c=>bi (nbeq v.tag 10) (bi (nbeq v.q 0) ((fun B:AB=>bi (nbeq B.kind 3)
  (bi (nbeq (nthL B.cs 0).tag 12) ((fun M:AB=>bi (nbeq M.kind 2) (bi (nbeq M.e B.e)
    (List.rec (motive:=fun _=>RL) (zab 38) (fun _ _ _=>om (zpo (zev (nthL B.cs 1).cs) M.cs) (zab 38) fun l=>c H (tupV l)) (nthL B.cs 1).cs) (zab 38)) (zab 38)) (hget H (nthL B.cs 0).p)) (zab 38)) (zab 38)) (hget H v.p)) (zab 38)) (zab 38)⟩
def strL(p q:Nat):List AV:=Nat.rec (motive:=fun _=>List AV) [] (fun i ih=>mk1 4 (Nat.mod (Nat.div p (Nat.pow 256 i)) 256)::ih) q
def zmV(sz:Nat)(u8:Bool)(H:Hp)(y:AV):Option (Nat × List AV) :=
  bi (nbeq y.tag 11) (bi (nbeq (hget H y.p).kind 1) (om (zcy (zbJ (hget H y.p).cs y.q) (Nat.mul y.r sz)) none fun l=>some (y.r,l)) none)
    (bi (nbeq y.tag 17) (bi (nbeq y.p 1) (some (0,[])) none) (bi (nbeq y.tag 9) (bi u8 (some (y.q,strL y.p y.q)) none) none))
def zij(sz:Nat)(H:Hp)(cs:List AV)(n:Nat)(c:Kont):RL:=newC H ⟨1,sz,0,cs⟩ (fun b=>slV b 0 n (lbS n)) c
def zrh(sz:Nat)(x:AV)(H:Hp)(cs:List AV)(n:Nat)(c:Kont):RL :=
  bi (nbeq x.q 0) (bi (nbeq (Nat.mul x.r sz) (lenL (hget H x.p).cs)) (bi (nbeq (hget H x.p).e 0) (bi (nbeq (hget H x.p).t sz) (setC H x.p noB udV fun H _=>zij sz H cs n c) (zab 24)) (zab 24)) (zab 24)) (zab 24)
def zpp(sz:Nat)(x:AV)(n:Nat)(new:List AV)(H:Hp)(c:Kont):RL :=
  bi (nbeq (hget H x.p).kind 1)
    (bi (nble n (capS x.s))
      (om (putC (Nat.add x.q (Nat.mul x.r sz)) new (hget H x.p).cs) (zab 22) fun cs=>setC H x.p ⟨1,(hget H x.p).t,(hget H x.p).e,cs⟩ (slV x.p x.q n x.s) c)
      (om (zcy (zbJ (hget H x.p).cs x.q) (Nat.mul x.r sz)) (zab 23) fun old=>bi (isEx x.s) (zij sz H (appL old new) n c) (zrh sz x H (appL old new) n c)))
    (zab 25)
def zgR(sz:Nat)(u8:Bool):Box (AV→AV→Hp→Kont→RL):=⟨fun x y H c=>om (zmV sz u8 H y) (zab 21) fun nw =>
  bi (nbeq x.tag 11) (bi (nble (Nat.add x.r nw.1) 100000) (zpp sz x (Nat.add x.r nw.1) nw.2 H c) (zab 26))
    (bi (isNil x 1) (bi (nbeq nw.1 0) (c H x) (bi (nble nw.1 100000) (zij sz H nw.2 nw.1 c) (zab 26))) (zab 26))⟩
def zj2(tys:Array TypeId)(x y:Operand):OpC:=match tys[0]?,tys[1]? with
  | some t,some ty=>(match (tyB P t).run,(tyB P ty).run with
    | some (.slice _),some (.int _)=>badC 20
    | some (.slice e),some _=>om (szB P e).run (badC 20) fun sz=>om (btB P e).run (badC 20) fun bt=>om (zeB P e).run (badC 20) fun z =>
      bi (bi (nble bt 1000000) (bi (nble 1 bt) (nbeq (lenL (cellsOf z)) sz) false) false) (.c2 x y ⟨fun a b H c=>bi (bi (nble 24 a.tag) true (nble 24 b.tag)) ((zeE P e sz bt).run a b H c) ((zgR sz (bi (isU8 P e) (nbeq sz 1) false)).run a b H c)⟩) (badC 20)
    | _,_=>badC 20)
  | _,_=>badC 20
def lenK(n:Nat)(H:Hp)(c:Kont):RL:=bi (nble n 4611686018427387904) (c H (mk1 3 n)) (zab 31)
def lenC(t:TypeId):Box (AV→Hp→Kont→RL):=match (tyB P t).run with
  | some .string=>⟨fun v H c=>bi (nbeq v.tag 9) (lenK v.q H c) (zab 31)⟩
  | some (.slice _)=>orY1 ⟨fun v H c=>bi (nbeq v.tag 11) (lenK v.r H c) (bi (isNil v 1) (lenK 0 H c) (bi (nbeq v.tag 23) (bi (bi (nbeq v.p (Nat.add 32 t)) (nble t 3999) false) (c H (mk1 22 0)) (zab 31)) (zab 31)))⟩ lenY
  | some (.map _ _)=>⟨fun v H c=>bi (nbeq v.tag 12) (bi (nbeq (hget H v.p).kind 2) (lenK (lenL (hget H v.p).cs) H c) (zab 31)) (bi (isNil v 2) (lenK 0 H c) (zab 31))⟩
  | some (.array n _)=>⟨fun _ H c=>lenK n H c⟩
  | some (.pointer p)=>(match (tyB P p).run with | some (.array n _)=>⟨fun _ H c=>lenK n H c⟩ | _=>⟨fun _ _ _=>zab 31⟩)
  | _=>⟨fun _ _ _=>zab 31⟩
def zct(isMax:Bool)(c:Nat):Box (AV→AV→Hp→Kont→RL):=int2 c ⟨fun a b=>mk1 c (bi (nble (biased c a) (biased c b)) (bi isMax b a) (bi isMax a b))⟩
def zm0(k:Nat):Box (AV→AV→AV→Hp→Kont→RL):=⟨fun a b d H c=>(zct false k).run a b H fun H v=>(zct false k).run v d H c⟩
def zc3(b:Builtin)(args:List Operand)(tys:Array TypeId)(ty:TypeId):OpC:=match b,args with
  | .append,[x,y]=>zj2 P tys x y
  | .len,[x]=>(match tys[0]? with | some t=>.c1 x (lenC P t) | none=>badC 31)
  | .min,[x,y]=>(match (tyB P ty).run with | some (.int k)=>.c2 x y (zct false (zap k)) | _=>badC 32)
  | .max,[x,y]=>(match (tyB P ty).run with | some (.int k)=>.c2 x y (zct true (zap k)) | _=>badC 32)
  | .delete,[m,x]=>(match tys[0]? with | some t=>(match (tyB P t).run with | some (.map kt _)=>om (zfI P kt) (badC 33) fun n=>.c2 m x (delC n) | _=>badC 33) | none=>badC 33)
  | .min,[x,y,z]=>(match (tyB P ty).run with | some (.int k)=>.c3 x y z (zm0 (zap k)) | _=>badC 32)
  | _,_=>badC 34
def zgj(f n:Nat):Box (List AV→Hp→Kont→RL):=⟨fun vs H c=>c H ⟨13,f,n,0,0,vs⟩⟩
def opOf(o:Oper):OpC:=match o.op with
  | .move x | .assign x=>.c1 x zmz
  | .pick a b d=>.c3 a b d pickC
  | .alloc t=>om (zeB P t).run (badC 3) fun z=>.c0 (zmR z)
  | .box _ x=>.c1 x boxC
  | .build t parts=>om (zeB P t).run (badC 4) fun z=>(match (tyB P t).run with
    | some (.struct fs)=>om (fs.toList.mapM fun f=>(P.info? f.type).map fun i=>(f.offset,i.size)) (badC 4) fun pls=>om (zbS (fun i=>pls.toArray[i]?) (parts.toList.map (·.1))) (badC 4) fun pl=>.cN (parts.toList.map (·.2)) (zgN pl (cellsOf z))
    | some (.array _ e)=>om (szB P e).run (badC 4) fun sz=>om (zbS (fun i=>some (i * sz,sz)) (parts.toList.map (·.1))) (badC 4) fun pl=>.cN (parts.toList.map (·.2)) (zgN pl (cellsOf z))
    | _=>badC 4)
  | .buildSlice t len parts=>(match (tyB P t).run with
    | some (.slice e)=>om (szB P e).run (badC 5) fun sz=>om (zeB P e).run (badC 5) fun z=>om (zbS (fun i=>some (i * sz,sz)) (parts.toList.map (·.1))) (badC 5) fun pl=>bi (bi (nble (Nat.mul len sz) 100000) (nbeq (lenL (cellsOf z)) sz) false)
        (.cN (parts.toList.map (·.2)) (zg7 pl (repC len (cellsOf z)) len)) (badC 5)
    | _=>badC 5)
  | .load t a=>om (tyB P t).run (badC 6) fun _=>om (szB P t).run (badC 6) fun sz=>.c1 a (orY1 (bi (zaC P t) (zjG sz) load1) (zjJ (zaC P t) sz (ksB P t).run))
  | .store t a x=>om (szB P t).run (badC 7) fun sz=>.c2 a x (orY2 (zmS sz) (zmU (zaC P t) sz (ksB P t).run))
  | .nilCheck x=>.c1 x (orY1 nilC nilY)
  | .binOp op t x y ty=>.c2 x y (binC P op t ty)
  | .unOp op t x=>.c1 x (unC P op t)
  | .convert a b x=>.c1 x (ziQ P a b)
  | .makeFunc fn first cap=>(match fn with | .func f=>.cN (first.toList++cap.toList) (zgj f (lenL first.toList)) | _=>badC 36)
  | .makeMap t r=>(match r,(tyB P t).run with | none,some (.map kt _)=>om (zfI P kt) (badC 37) fun n=>.c0 ⟨fun H c=>newC H ⟨2,n,0,[]⟩ (mk1 12) c⟩ | _,_=>badC 37)
  | .makeSlice t l m=>(match (tyB P t).run with
    | some (.slice e)=>om (szB P e).run (badC 12) fun sz=>om (btB P e).run (badC 12) fun bt=>om (zeB P e).run (badC 12) fun z=>bi (bi (nble bt 1000000) (nbeq (lenL (cellsOf z)) sz) false) (.c2 l m (zdi (cellsOf z))) (badC 12)
    | _=>badC 12)
  | .slice t x lo hi mx=>zgQ P t x lo hi mx
  | .fieldAddr t x f=>(match (tyB P t).run with
    | some (.struct fs)=>om (fs[f]?) (badC 14) fun fd=>om (szB P fd.type).run (badC 14) fun sz=>bi (nbeq sz 0) (badC 14) (.c1 x (orY1 (zeu fd.offset) (zes fd.offset)))
    | _=>badC 14)
  | .field t x f=>(match (tyB P t).run with
    | some (.struct fs)=>om (fs[f]?) (badC 15) fun fd=>om (szB P fd.type).run (badC 15) fun sz=>om (tyB P fd.type).run (badC 15) fun _=>.c1 x (zig (zaC P fd.type) fd.offset sz)
    | _=>badC 15)
  | .indexAddr t x i=>(match (tyB P t).run with
    | some (.slice e)=>om (szB P e).run (badC 16) fun sz=>.c2 x i (orY2 (zjN sz) (zjK sz))
    | some (.array n e)=>om (szB P e).run (badC 16) fun sz=>.c2 x i (zih n sz)
    | _=>badC 16)
  | .index t x i=>(match (tyB P t).run with
    | some .string=>.c2 x i ixStrC
    | some (.array n e)=>om (szB P e).run (badC 17) fun sz=>om (tyB P e).run (badC 17) fun _=>.c2 x i (zii (zaC P e) n sz)
    | _=>badC 17)
  | .lookup t m k ok=>(match (tyB P t).run with
    | some (.map kt e)=>om (zfI P kt) (badC 18) fun n=>om (zeB P e).run (badC 18) fun z=>.c2 m k (zjO n z ok (zaC P e) (ksB P e).run)
    | _=>badC 18)
  | .mapUpdate t m k x | .insert t m k x=>(match (tyB P t).run with
    | some (.map kt _)=>om (zfI P kt) (badC 19) fun n=>.c3 m k x (zkV n)
    | _=>badC 19)
  | .mapEntry t m k=>(match (tyB P t).run with
    | some (.map kt e)=>om (zfI P kt) (badC 191) fun n=>om (zeB P e).run (badC 191) fun z=>.c2 m k (zkW n z)
    | _=>badC 191)
  | .entryStore _ m s x=>.c3 m s x entStC
  | .extract x i=>.c1 x (zfJ i)
  | .range t x=>(match (tyB P t).run with | some (.map _ _)=>.c1 x rangeC | _=>badC 28)
  | .next it str=>bi str (badC 29) (.c1 it nextC)
  | .entry it=>.c1 it entryC
  | .call c=>(match c.callee with
    | .value f=>.call f c.args.toList
    | .builtin b=>zc3 P b c.args.toList c.argTypes o.type
    | _=>badC 344)
  | _=>badC 35
def getO(o:Operand):Box (Fr→AV):=match o with
  | .tmp t=>getB t
  | .const v=>⟨fun _=>avOf v⟩
  | .global g=>bi (nble (Nat.succ g) P.globals.size) ⟨fun _=>ptrV g 0⟩ ⟨fun _=>unkV⟩
  | .func f=>⟨fun _=>mk1 13 f⟩
def zbT(l:List Operand):Box (Fr→List AV):=match l with
  | []=>⟨fun _=>[]⟩
  | o::l=>⟨fun T=>(getO P o).run T::(zbT l).run T⟩
def putK(N:Nat)(d:Option Nat)(k:BR):Box (Rec→Fr→Kont):=match d with
  | some d=>bi (nble (Nat.succ d) N) ⟨fun r T H v=>k.run r ((setB d).run T v) H⟩ ⟨fun _ _ _ _=>zab 41⟩
  | none=>⟨fun r T H _=>k.run r T H⟩
def runC(x:OpC)(kv:Box (Rec→Fr→Kont)):BR:=match x with
  | .c0 f=>⟨fun r T H=>f.run H (kv.run r T)⟩
  | .c1 x f=>⟨fun r T H=>f.run ((getO P x).run T) H (kv.run r T)⟩
  | .c2 x y f=>⟨fun r T H=>f.run ((getO P x).run T) ((getO P y).run T) H (kv.run r T)⟩
  | .c3 x y z f=>⟨fun r T H=>f.run ((getO P x).run T) ((getO P y).run T) ((getO P z).run T) H (kv.run r T)⟩
  | .cN xs f=>⟨fun r T H=>f.run ((zbT P xs).run T) H (kv.run r T)⟩
  | .call x xs=>⟨fun r T H=>fmL (r ((getO P x).run T) ((zbT P xs).run T) H) fun c=>bi (nbeq c.ok 1) (kv.run r T c.H c.v) (zab c.why)⟩
def opK(N:Nat)(o:Oper)(k:BR):BR:=runC P (opOf P o) (putK N o.dst k)
def opG(N:Nat)(all:Array Oper)(o:Oper)(k:BR):BR:=match o.guard with
  | none=>opK P N o k
  | some (j,want)=>match (all[j]?).bind (·.dst) with
    | some d=>bi (nble (Nat.succ d) N) ⟨fun r T H=>bi (nbeq ((getB d).run T).tag 8) (bi (nbeq ((getB d).run T).p (bi want 1 0)) ((opK P N o k).run r T H) ((putK N o.dst k).run r T H udV)) (bi (nbeq ((getB d).run T).tag 19) ((putK N o.dst k).run r T H udV) (zab 40))⟩ ⟨fun _ _ _=>zab 40⟩
    | none=>⟨fun _ _ _=>zab 40⟩
def opsK(N:Nat)(all:Array Oper)(l:List Oper)(k:BR):BR:=match l with
  | []=>k
  | o::l=>opG P N all o (opsK N all l k)
def eqA(n:Nat):AV→AV→Bool:=Nat.rec (motive:=fun _=>AV→AV→Bool) (fun _ _=>false)
  (fun _ ih a b=>bi (nbeq a.tag b.tag) (bi (nbeq a.p b.p) (bi (nbeq a.q b.q) (bi (nbeq a.r b.r) (bi (nbeq a.s b.s)
    (List.rec (motive:=fun _=>List AV→Bool) (fun l=>List.rec (motive:=fun _=>Bool) true (fun _ _ _=>false) l) (fun x _ ihl l=>List.rec (motive:=fun _=>Bool) false (fun y l _=>bi (ih x y) (ihl l) false) l) a.cs b.cs) false) false) false) false) false) n
def runD(x:OpC):Box (Rec→Fr→Hp→Kont→RL):=match x with
  | .c0 f=>⟨fun _ _ H c=>f.run H c⟩
  | .c1 x f=>⟨fun _ T H c=>f.run ((getO P x).run T) H c⟩
  | .c2 x y f=>⟨fun _ T H c=>f.run ((getO P x).run T) ((getO P y).run T) H c⟩
  | .c3 x y z f=>⟨fun _ T H c=>f.run ((getO P x).run T) ((getO P y).run T) ((getO P z).run T) H c⟩
  | .cN xs f=>⟨fun _ T H c=>f.run ((zbT P xs).run T) H c⟩
  | .call x xs=>⟨fun r T H c=>fmL (r ((getO P x).run T) ((zbT P xs).run T) H) fun q=>bi (nbeq q.ok 1) (c q.H q.v) (zab q.why)⟩
def zdb(l:List Operand):List Nat:=match l with
  | []=>[]
  | .tmp t::l=>t::zdb l
  | _::l=>zdb l
def opsC(x:OpC):List Operand:=match x with
  | .c0 _=>[]
  | .c1 x _=>[x]
  | .c2 x y _=>[x,y]
  | .c3 x y z _=>[x,y,z]
  | .cN xs _=>xs
  | .call x xs=>x::xs
def zcO(o:Oper):Nat:=match o.op with
  | .move _ | .pick .. | .load .. | .nilCheck _ | .binOp .. | .unOp .. | .convert .. | .makeFunc .. | .slice .. | .fieldAddr .. | .field .. | .indexAddr .. | .index .. | .lookup .. | .extract .. | .build ..=>0
  | .alloc _ | .buildSlice .. | .makeSlice ..=>1
  | .call c=>(match c.callee with | .builtin .len | .builtin .min | .builtin .max=>0 | _=>2)
  | _=>2
structure DI where
  i:Nat
  cls:Nat
  d:Nat
  rd:List Nat
  dm:Nat
  ok:Bool
  x:Box (Rec→Fr→Hp→Kont→RL)
  g:List Nat
def dmOf(l:List Edge):Nat:=match l with
  | []=>0
  | e::l=>bi (Region.binds .any e) (Nat.lor (Nat.pow 2 e.on) (dmOf l)) (dmOf l)
def dOf(d:Option Nat):Nat:=match d with | some d=>d | none=>512
def gdOf(all:Array Oper)(o:Oper):List Nat:=match o.guard with
  | none=>[]
  | some (j,_)=>match (all[j]?).bind (·.dst) with | some d=>[d] | none=>[]
def runG(all:Array Oper)(o:Oper):Box (Rec→Fr→Hp→Kont→RL):=match o.guard with
  | none=>runD P (opOf P o)
  | some (j,want)=>match (all[j]?).bind (·.dst) with
    | some d=>⟨fun r T H c=>bi (nbeq ((getB d).run T).tag 8) (bi (nbeq ((getB d).run T).p (bi want 1 0)) ((runD P (opOf P o)).run r T H c) (c H udV)) (bi (nbeq ((getB d).run T).tag 19) (c H udV) (zab 40))⟩
    | none=>⟨fun _ _ _ _=>zab 40⟩
def okOf(N:Nat)(all:Array Oper)(o:Oper):Bool :=
  bi (allL (fun d=>nble (Nat.succ d) N) (gdOf all o)) (match o.dst with | some d=>bi (nble (Nat.succ d) N) (nble (Nat.succ d) 511) false | none=>nbeq (zcO o) 2) false
def diOf(N:Nat)(all:Array Oper)(i:Nat)(o:Oper):DI:=⟨i,zcO o,dOf o.dst,appL (gdOf all o) (zdb (opsC (opOf P o))),dmOf o.after.toList,okOf N all o,runG P all o,gdOf all o⟩
def zft(N:Nat)(all:Array Oper)(i:Nat)(l:List Oper):List DI:=match l with
  | []=>[]
  | o::l=>diOf P N all i o::zft N all (Nat.succ i) l
def zdj(m i:Nat):Bool:=nbeq (Nat.land (Nat.shiftRight m i) 1) 1
def subB(a b:Nat):Bool:=nbeq (Nat.land a b) a
def zfu(c dn:Nat)(l:List DI):Option DI:=List.rec (motive:=fun _=>Option DI) none (fun a _ ih=>bi (nbeq a.cls c) (bi (zdj dn a.i) ih (bi (subB a.dm dn) (some a) ih)) ih) l
def zjS(dn:Nat)(l:List DI):Option DI:=om (zfu 1 dn l) (om (zfu 0 dn l) (zfu 2 dn l) some) some
def zew(fuel:Nat)(l:List DI):Nat→List DI:=Nat.rec (motive:=fun _=>Nat→List DI) (fun _=>[]) (fun _ ih dn=>om (zjS dn l) [] fun a=>a::ih (Nat.lor dn (Nat.pow 2 a.i))) fuel
def zpq(full:Nat)(l:List DI):Nat→Nat→Bool:=List.rec (motive:=fun _=>Nat→Nat→Bool) (fun dn _=>subB full dn)
  (fun a _ ih dn sn=>bi (zdj dn a.i) false (bi (subB a.dm dn) (bi (bi (nbeq sn 0) true (nb (nbeq (Nat.land a.dm sn) 0)))
    (ih (Nat.lor dn (Nat.pow 2 a.i)) (bi (nbeq a.cls 2) (Nat.pow 2 a.i) (bi (nbeq sn 0) 0 (Nat.lor sn (Nat.pow 2 a.i))))) false) false)) l
def memT(d:Nat)(l:List Nat):Bool:=List.rec (motive:=fun _=>Bool) false (fun x _ ih=>bi (nbeq x d) true ih) l
def zm1(a b:DI):Bool:=bi (nbeq a.d 512) true
  (bi (bi (memT a.d b.rd) (bi (zdj b.dm a.i) true (bi (nbeq a.cls 2) (bi (zdj a.dm b.i) true (nbeq a.i b.i)) false)) true) (bi (nbeq a.i b.i) true (nb (nbeq a.d b.d))) false)
def okD(n:Nat)(l:List DI):Bool:=bi (zpq (Nat.pred (Nat.pow 2 n)) l 0 0) (bi (allL (fun a=>bi a.ok (nble (Nat.succ a.i) n) false) l) (allL (fun a=>allL (zm1 a) l) l) false) false
def chk(l:List DI):Nat→List DI:=List.rec (motive:=fun _=>Nat→List DI) (fun _=>[]) (fun b _ ih E=>bi (zdj E b.i) (ih (Nat.lor E b.dm)) (bi (nbeq b.cls 0) (b::ih E) (ih E))) l
def recK(l:List DI):Box (Rec→Fr→Hp→RL→RL):=match l with
  | []=>⟨fun _ _ _ L=>L⟩
  | a::l=>⟨fun r T H L=>a.x.run r T H fun _ v=>bi (eqA 1000 v ((getB a.d).run T)) ((recK l).run r T H L) (zab 90)⟩
def zm2(g:List Nat)(x:BR):BR:=match g with
  | [d]=>⟨fun r T H=>bi (nbeq ((getB d).run T).tag 8)
      (bi (nbeq ((getB d).run T).p 1) (x.run r ((setB d).run T ⟨8,1,((getB d).run T).q,((getB d).run T).r,((getB d).run T).s,((getB d).run T).cs⟩) H)
        (bi (nbeq ((getB d).run T).p 0) (x.run r ((setB d).run T ⟨8,0,((getB d).run T).q,((getB d).run T).r,((getB d).run T).s,((getB d).run T).cs⟩) H) (zab 40)))
      (x.run r T H)⟩
  | _=>x
def dgo(k:BR)(done:List DI)(l:List DI):BR:=match l with
  | []=>k
  | a::l=>zm2 a.g (bi (nbeq a.cls 0) ⟨fun r T H=>a.x.run r T H fun H v=>(dgo k (a::done) l).run r ((setB a.d).run T v) H⟩
      ⟨fun r T H=>a.x.run r T H fun H v=>(recK (chk done (bi (nbeq a.cls 2) a.dm 0))).run r ((setB a.d).run T v) H ((dgo k (a::done) l).run r ((setB a.d).run T v) H)⟩)
def ziS(N:Nat)(all:Array Oper)(k:BR):BR :=
  bi (okD all.size (zew all.size (zft P N all 0 all.toList) 0)) (dgo k [] (zew all.size (zft P N all 0 all.toList) 0)) ⟨fun _ _ _=>zab 51⟩
def zo3:Nat:=100000
def blkR(i:Nat)(k:BR)(r:Rec)(l:RL):RL:=fmL l fun x=>bi (bi (nbeq x.tag 0) true (bi (nbeq x.tag 1) (nbeq x.i i) false)) (k.run r x.T x.H) [x]
def zm3(b:Run)(r:Rec)(n:Nat):Fr→Hp→RL:=Nat.rec (motive:=fun _=>Fr→Hp→RL) (fun _ _=>zab 98) (fun _ ih T H=>fmL (b r T H) fun x=>bi (nbeq x.tag 0) (ih x.T x.H) [x]) n
def mapI(l:List Nat):List AV:=List.rec (motive:=fun _=>List AV) [] (fun d _ ih=>mk1 3 d::ih) l
def mapP(l:List AV):List Nat:=List.rec (motive:=fun _=>List Nat) [] (fun a _ ih=>a.p::ih) l
def zeS(f:Nat)(rp:List Nat):AV:=⟨0,f,0,0,0,mapI rp⟩
def yldV(b:Nat):AV:=⟨14,b,0,0,0,[]⟩
def endL(k:BR)(r:Rec)(T:Fr)(b:Nat)(H:Hp):RL:=(fun B:AB=>bi (nbeq B.kind 5) (bi (nbeq B.t 1) (zab 61)
  (setC H b ⟨5,3,B.e,B.cs⟩ udV fun H _=>bi (nbeq B.e 0) (k.run r T H) (bi (nbeq B.e 1) [⟨2,0,T,H⟩] [⟨1,Nat.sub B.e 2,T,H⟩]))) (zab 61)) (hget H b)
def ziT(f:Nat)(rp:List Nat)(g:Operand)(k:BR)(r:Rec)(T:Fr)(H:Hp):RL :=
  newC H ⟨5,0,0,[zeS f rp,encF (noMk T)]⟩ yldV fun H' _=>bi (nbeq ((getO P g).run T).tag 13) (fmL (r ((getO P g).run T) [yldV H.n] H') fun c=>bi (nbeq c.ok 1) (endL k r T H.n c.H) (zab c.why)) (zab 62)
def comp(N:Nat)(inr:Bool)(f:Nat)(rp:List Nat)(c:Code)(k:BR):BR:=match c with
  | .skip=>k
  | .label _=>k
  | .ret=>⟨fun _ T H=>[⟨2,0,T,H⟩]⟩
  | .exit i=>⟨fun _ T H=>[⟨1,i,T,H⟩]⟩
  | .seq a b=>comp N inr f (0::rp) a (comp N inr f (1::rp) b k)
  | .cond c a b=>⟨fun r T H=>bi (nbeq ((getO P c).run T).tag 8) (bi (nbeq ((getO P c).run T).p 1) ((comp N inr f (0::rp) a k).run r T H) ((comp N inr f (1::rp) b k).run r T H))
      (bi (bi (nbeq ((getO P c).run T).tag 23) (nbeq ((getO P c).run T).p 1) false) (appL ((comp N inr f (0::rp) a k).run r T H) ((comp N inr f (1::rp) b k).run r T H)) (zab 50))⟩
  | .block i c=>⟨fun r T H=>blkR i k r ((comp N inr f (0::rp) c zb0).run r T H)⟩
  | .loop c=>⟨fun r T H=>zm3 (comp N inr f (0::rp) c zb0).run r zo3 T H⟩
  | .region _ ops draw=>bi draw (ziS P N ops k) (opsK P N ops ops.toList k)
  | .scope c=>comp N inr f (0::rp) c k
  | .rangeFunc g _ _ _=>bi inr ⟨fun r T H=>ziT P f rp g k r T H⟩ ⟨fun r T H=>newC H ⟨4,0,0,[]⟩ yldV fun H' _=>ziT P f rp g k r (zcF T H.n) H'⟩
  | _=>⟨fun _ _ _=>zab 52⟩
def kidC(d:Nat)(c:Code):Option Code:=match c,d with
  | .seq a _,0=>some a
  | .seq _ b,1=>some b
  | .cond _ a _,0=>some a
  | .cond _ _ b,1=>some b
  | .block _ c,0=>some c
  | .loop c,0=>some c
  | .scope c,0=>some c
  | .rangeFunc _ _ a _,0=>some a
  | .rangeFunc _ _ _ b,1=>some b
  | _,_=>none
def zgS(c:Code)(rp:List Nat):Option Code:=match rp with
  | []=>some c
  | d::rp=>(zgS c rp).bind (kidC d)
structure LC where
  ps:List Nat
  as:BR
  body:BR
def zjT(f:Nat)(rp:List Nat):Box (Option LC):=⟨match P.funcs[f]? with
  | some fn=>(match fn.body with
    | some c=>(match zgS c rp with
      | some (.rangeFunc _ ps as body)=>bi (allL (fun p=>nble (Nat.succ p) fn.ntmps) ps.toList) (some ⟨ps.toList,comp P fn.ntmps true f (0::rp) as zb0,comp P fn.ntmps true f (1::rp) body zb0⟩) none
      | _=>none)
    | none=>none)
  | none=>none⟩
def zar(i:Nat)(l:List AV)(T:Fr):Fr:=List.rec (motive:=fun _=>Nat→Fr→Fr) (fun _ T=>T) (fun a _ ih i T=>ih (Nat.succ i) ((setB i).run T a)) l i T
def zf8(x:ResultVar):Box (Fr→Hp→Option AV):=match x with
  | .tmp t=>⟨fun T _=>some ((getB t).run T)⟩
  | .cell t ty=>om (tyB P ty).run ⟨fun _ _=>none⟩ fun _=>om (szB P ty).run ⟨fun _ _=>none⟩ fun sz=>bi (zaC P ty)
      ⟨fun T H=>bi (nbeq ((getB t).run T).tag 10) (bi (nbeq (hget H ((getB t).run T).p).kind 1) (om (zcy (zbJ (hget H ((getB t).run T).p).cs ((getB t).run T).q) sz) none fun cs=>some (aggV cs)) none) none⟩
      ⟨fun T H=>bi (nbeq ((getB t).run T).tag 10) (bi (nbeq (hget H ((getB t).run T).p).kind 1) ((fun v:AV=>bi (nbeq v.tag 18) none (some v)) (nthL (hget H ((getB t).run T).p).cs ((getB t).run T).q)) none) none⟩
def zeF(l:List ResultVar):Box (Fr→Hp→Option (List AV)):=match l with
  | []=>⟨fun _ _=>some []⟩
  | x::l=>⟨fun T H=>om ((zf8 P x).run T H) none fun v=>om ((zeF l).run T H) none fun vs=>some (v::vs)⟩
def zbM(l:List ResultVar):Box (Fr→Hp→Option AV):=match l with
  | [x]=>zf8 P x
  | l=>⟨fun T H=>om ((zeF P l).run T H) none fun vs=>some (tupV vs)⟩
structure MS where
  v:List AV
  l:List (Nat × AB)
def matL(f:AV→List (Nat × AB)→Option (AV × List (Nat × AB)))(vs:List AV):List (Nat × AB)→Option MS :=
  List.rec (motive:=fun _=>List (Nat × AB)→Option MS) (fun l=>some ⟨[],l⟩) (fun v _ ih l=>om (f v l) none fun x=>om (ih x.2) none fun y=>some ⟨x.1::y.v,y.l⟩) vs
def matV(H:Hp)(n0:Nat)(fuel:Nat):AV→List (Nat × AB)→Option (AV × List (Nat × AB)) :=
  Nat.rec (motive:=fun _=>AV→List (Nat × AB)→Option (AV × List (Nat × AB))) (fun _ _=>none) (fun _ ih v l =>
    bi (bi (nble 10 v.tag) (nble v.tag 12) false)
      (bi (nble (Nat.succ v.p) n0) (some (v,l)) ((fun B:AB=>bi (bi (nbeq B.kind 1) true (nbeq B.kind 2)) (om (matL ih B.cs l) none fun y =>
        some (⟨v.tag,Nat.add n0 (lenL y.l),v.q,v.r,v.s,[]⟩,appL y.l [(v.p,⟨B.kind,B.t,B.e,y.v⟩)])) none) (hget H v.p)))
      (bi (bi (nble 13 v.tag) (nble v.tag 16) false) (bi (nbeq v.tag 14) none (om (matL ih v.cs l) none fun y=>some (⟨v.tag,v.p,v.q,v.r,v.s,y.v⟩,y.l))) (bi (bi (nbeq v.tag 18) true (nble 24 v.tag)) none (some (v,l))))) fuel
def hasN(n:Nat)(l:List (Nat × AB)):Bool:=List.rec (motive:=fun _=>Bool) false (fun a _ ih=>bi (nbeq a.1 n) true ih) l
def zfK(l:List (Nat × AB)):Bool:=List.rec (motive:=fun _=>Bool) true (fun a t ih=>bi (hasN a.1 t) false ih) l
def zbU(l:List (Nat × AB)):Hp→Hp:=List.rec (motive:=fun _=>Hp→Hp) (fun H=>H) (fun a _ ih H=>ih (hnew H a.2)) l
def matR(H0:Hp)(x:CRes):Option (AV × List (Nat × AB)):=bi (nbeq x.ok 1) (om (matV x.H H0.n 20 x.v []) none fun y=>bi (zfK y.2) (some y) none) none
def zm4(l:List (Nat × AB)):AV:=tupV (List.rec (motive:=fun _=>List AV) [] (fun a _ ih=>⟨a.2.kind,a.2.t,a.2.e,0,0,a.2.cs⟩::ih) l)
def zm5(x:AV × List (Nat × AB))(y:AV × List (Nat × AB)):Bool:=bi (eqA 20 x.1 y.1) (eqA 20 (zm4 x.2) (zm4 y.2)) false
def zgT(H0:Hp)(l:List CRes):List CRes:=List.rec (motive:=fun _=>List CRes) (zaG 80)
  (fun x t _=>om (matR H0 x) (zaG 81) fun m=>bi (allL (fun y=>om (matR H0 y) false fun m'=>zm5 m m') t) (bi (nble (Nat.add H0.n (lenL m.2)) 32766) [⟨1,0,m.1,zbU m.2 H0⟩] (zaG 83)) (zaG 82)) l
def ziU(H:Hp):Hp:=⟨H.t,H.n,H.n⟩
abbrev Native:=List AV→Hp→List CRes
structure FC where
  body:BR
  res:Box (Fr→Hp→Option AV)
  nat:Option Native
  mrg:Bool
variable (Nt:Nat→Option Native) (Mg:Nat→Bool)
def funB(f:Nat):Box (Option FC):=⟨match P.funcs[f]? with
  | some fn=>(match fn.body with | some c=>some ⟨comp P fn.ntmps false f [] c zb0,zbM P fn.results.toList,Nt f,Mg f⟩ | none=>none)
  | none=>none⟩
def tabF:Nd (Nd (Nd (Box (Option FC)))):=zmy fun i=>zmy fun j=>zmy fun k=>funB P Nt Mg (Nat.add (Nat.mul 64 i) (Nat.add (Nat.mul 8 j) k))
def fcOf(f:Nat):Option FC:=bi (nble 512 f) none (dsel (dsel (dsel (tabF P Nt Mg) (sh f 6)) (sh f 3)) f).run
def zfv(l:List AV):Hp→Option Hp:=List.rec (motive:=fun _=>Hp→Option Hp) (fun H=>some H) (fun a _ ih H=>bi (nble H.lim a.p) (bi (nbeq (hget H a.p).kind 4) (ih (hset H a.p noB)) none) none) l
def retR(fc:FC)(l:RL):List CRes:=fmL l fun x=>bi (bi (nbeq x.tag 0) true (nbeq x.tag 2)) (om (zfv (zaK x.T) x.H) (zaG 59) fun H=>om (fc.res.run x.T H) (zaG 54) fun v=>[⟨1,0,v,H⟩]) (zaG x.i)
def zgk(ps:List Nat)(args:List AV)(T:Fr):Fr:=List.rec (motive:=fun _=>List AV→Fr→Fr) (fun _ T=>T) (fun p _ ih args T=>List.rec (motive:=fun _=>Fr) T (fun a args _=>ih args ((setB p).run T a)) args) ps args T
def endR(b:Nat)(x:Res):List CRes:=(fun B:AB=>bi (nbeq B.kind 5) (bi (nble x.H.lim b)
  (bi (nbeq x.tag 0) [⟨1,0,bV true,hset x.H b ⟨5,0,0,B.cs⟩⟩] (bi (nbeq x.tag 1) [⟨1,0,bV false,hset x.H b ⟨5,2,Nat.add x.i 2,B.cs⟩⟩] (bi (nbeq x.tag 2) [⟨1,0,bV false,hset x.H b ⟨5,2,1,B.cs⟩⟩] (zaG x.i)))) (zaG 63)) (zaG 63)) (hget x.H b)
def begR(r:Rec)(body:BR)(b:Nat)(x:Res):List CRes:=(fun B:AB=>bi (nbeq x.tag 0) (bi (nbeq B.kind 5) (bi (nbeq B.t 0) (bi (nble x.H.lim b)
  (fmL (body.run r x.T (hset x.H b ⟨5,1,B.e,B.cs⟩)) fun y=>endR b y) (zaG 64)) (zaG 64)) (zaG 64)) (zaG x.i)) (hget x.H b)
def zjU(r:Rec)(b:Nat)(args:List AV)(H:Hp):List CRes:=(fun B:AB=>bi (nbeq B.kind 5)
  (om (zjT P (nthL B.cs 0).p (mapP (nthL B.cs 0).cs)).run (zaG 65) fun lc=>bi (nbeq (lenL args) (lenL lc.ps))
    (fmL (lc.as.run r (zgk lc.ps args (decF (nthL B.cs 1))) H) fun x=>begR r lc.body b x) (zaG 65)) (zaG 65)) (hget H b)
def ziV(fc:FC)(r:Rec)(l:List AV)(H:Hp):List CRes:=retR fc (fc.body.run r (zar 0 l noFr) H)
def zpr(fc:FC)(r:Rec)(l:List AV)(H:Hp):List CRes:=om fc.nat (bi fc.mrg (zgT H (ziV fc r l (ziU H))) (ziV fc r l H)) fun g=>g l H
def extR(v:AV)(args:List AV)(H:Hp):List CRes:=bi (nbeq (lenL v.cs) 0) (bi (allL (fun a=>nble a.tag 9) args) (om (Nt (Nat.add v.p 1000)) (zaG 56) fun g=>g args H) (zaG 56)) (zaG 56)
def zmW(r:Rec):Rec:=fun v args H=>bi (nbeq v.tag 14) (zjU P r v.p args H)
  (bi (nbeq v.tag 13) (om (zcy v.cs v.q) (zaG 57) fun fs=>om (fcOf P Nt Mg v.p) (extR Nt v args H) fun fc=>zpr fc r (appL fs (appL args (zbJ v.cs v.q))) H) (zaG 60))
def evN(n:Nat):Rec:=Nat.rec (motive:=fun _=>Rec) (fun _ _ _=>zaG 99) (fun _ ih=>zmW P Nt Mg ih) n
end
end
end Go.Eng
