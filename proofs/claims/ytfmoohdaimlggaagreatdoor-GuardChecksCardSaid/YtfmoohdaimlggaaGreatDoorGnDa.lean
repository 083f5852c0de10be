/- A part of the proof that the evaluator in GnC, and the driver in GnZ, answer as the model does; no conditions. -/
import Derived.Test.YtfmoohdaimlggaaGreatDoorGnSb
namespace Go.Eng
open Go.RowKit
variable {P:Program} {w0:World}
theorem zjV(n:Nat):∀ a b,eqA n a b=true→a=b:=by
  induction n with
  | zero=>intro a b h;cases h
  | succ n ih =>
    intro a b h
    have hl:∀ l l':List AV,(List.rec (motive:=fun _=>List AV→Bool) (fun l=>List.rec (motive:=fun _=>Bool) true (fun _ _ _=>false) l) (fun x _ ihl l=>List.rec (motive:=fun _=>Bool) false (fun y l _=>bi (eqA n x y) (ihl l) false) l) l l':Bool)=true→l=l':=by
      intro l
      induction l with
      | nil=>intro l' h;cases l' with
        | nil=>rfl
        | cons _ _=>cases h
      | cons x l ihl=>intro l' h;cases l' with
        | nil=>cases h
        | cons y l' =>
          obtain⟨h1,h2⟩:=zaw.1 h
          rw[ih x y h1,ihl l' h2]
    obtain⟨h1,h⟩:=zaw.1 (show bi (nbeq a.tag b.tag) _ false=true from h)
    obtain⟨h2,h⟩:=zaw.1 h
    obtain⟨h3,h⟩:=zaw.1 h
    obtain⟨h4,h⟩:=zaw.1 h
    obtain⟨h5,h⟩:=zaw.1 h
    have h6:=hl _ _ h
    obtain⟨at',ap,aq,ar,as',ac⟩:=a
    obtain⟨bt,bp,bq,br,bs,bc⟩:=b
    simp only at h1 h2 h3 h4 h5 h6
    rw[zaa.1 h1,zaa.1 h2,zaa.1 h3,zaa.1 h4,zaa.1 h5,h6]
def zbV(H:Hp)(g:Kont→RL):Prop:=(∃ n,∀ c,g c=zab n) ∨ ∃ v,∀ c,g c=c H v
section soft
variable {H:Hp}
theorem za0{n:Nat}:zbV H (fun _=>zab n):=.inl ⟨n,fun _=>rfl⟩
theorem za5{v:AV}:zbV H (fun c=>c H v):=.inr ⟨v,fun _=>rfl⟩
theorem zaA{b:Bool}{x y:Kont→RL}(hx:zbV H x)(hy:zbV H y):zbV H (fun c=>bi b (x c) (y c)):=by cases b<;>assumption
theorem zaN{α:Type}{o:Option α}{n:Kont→RL}{f:α→Kont→RL}(hn:zbV H n)(hf:∀ a,zbV H (f a)):zbV H (fun c=>om o (n c) (fun a=>f a c)):=by
  cases o with
  | none=>exact hn
  | some a=>exact hf a
end soft
def zcg(f:Box (AV→Hp→Kont→RL)):Prop:=∀ a H,zbV H (f.run a H)
def zbn(f:Box (AV→AV→Hp→Kont→RL)):Prop:=∀ a b H,zbV H (f.run a b H)
def zeT(f:Box (AV→AV→AV→Hp→Kont→RL)):Prop:=∀ a b d H,zbV H (f.run a b d H)
def zgl(f:Box (List AV→Hp→Kont→RL)):Prop:=∀ a H,zbV H (f.run a H)
def zdz(P:Program)(x:OpC):Prop:=∀ r T H,zbV H ((runD P x).run r T H)
theorem zaX{n:Nat}:zdz P (badC n):=fun _ _ _=>za0
theorem zby{α:Type}{o:Option α}{n:OpC}{f:α→OpC}(hn:zdz P n)(h:∀ a,zdz P (f a)):zdz P (om o n f):=by
  cases o with
  | none=>exact hn
  | some a=>exact h a
theorem zmX{b:Bool}{x y:OpC}(hx:zdz P x)(hy:zdz P y):zdz P (bi b x y):=by cases b<;>assumption
theorem zdH{x:Operand}{f:Box (AV→Hp→Kont→RL)}(h:zcg f):zdz P (.c1 x f):=fun _ _ H=>h _ H
theorem zeG{x y:Operand}{f:Box (AV→AV→Hp→Kont→RL)}(h:zbn f):zdz P (.c2 x y f):=fun _ _ H=>h _ _ H
theorem zgU{x y z:Operand}{f:Box (AV→AV→AV→Hp→Kont→RL)}(h:zeT f):zdz P (.c3 x y z f):=fun _ _ H=>h _ _ _ H
theorem ziW{x:List Operand}{f:Box (List AV→Hp→Kont→RL)}(h:zgl f):zdz P (.cN x f):=fun _ _ H=>h _ H
theorem za2{agg:Bool}{off sz n:Nat}{cs:List AV}{H:Hp}:zbV H (fun c=>zh1 agg off sz cs H c n):=by
  unfold zh1 zfe
  repeat (first | exact za0 | exact za5 | refine zaA ?_ ?_ | refine zaN ?_ fun _=>?_)
theorem zay{v:AV}{n:Nat}{H:Hp}:zbV H (fun c=>zfe v H c n):=by
  unfold zfe
  repeat (first | exact za0 | exact za5 | refine zaA ?_ ?_ | refine zaN ?_ fun _=>?_)
theorem za7{n:Nat}{H:Hp}:zbV H (fun c=>lenK n H c):=by
  unfold lenK
  repeat (first | exact za0 | exact za5 | refine zaA ?_ ?_ | refine zaN ?_ fun _=>?_)
theorem zri:zcg zmz:=fun _ _=>za5
theorem zrj :zeT pickC:=by
  intro a b d H
  dsimp only[pickC]
  repeat (first | exact za0 | exact za5 | exact za7 | exact zay | exact za2 | assumption | refine zaA ?_ ?_ | refine zaN ?_ fun _=>?_)
theorem zps{sz:Nat}:zcg (zjG sz):=by
  intro a H
  dsimp only[zjG]
  repeat (first | exact za0 | exact za5 | exact za7 | exact zay | exact za2 | assumption | refine zaA ?_ ?_ | refine zaN ?_ fun _=>?_)
theorem zpt :zcg load1:=by
  intro a H
  dsimp only[load1]
  repeat (first | exact za0 | exact za5 | exact za7 | exact zay | exact za2 | assumption | refine zaA ?_ ?_ | refine zaN ?_ fun _=>?_)
theorem zt8 :zcg nilC:=by
  intro a H
  dsimp only[nilC]
  repeat (first | exact za0 | exact za5 | exact za7 | exact zay | exact za2 | assumption | refine zaA ?_ ?_ | refine zaN ?_ fun _=>?_)
theorem zlC{k:Nat}{f:Box (Nat→Nat→AV)}:zbn (int2 k f):=by
  intro a b H
  dsimp only[int2]
  repeat (first | exact za0 | exact za5 | exact za7 | exact zay | exact za2 | assumption | refine zaA ?_ ?_ | refine zaN ?_ fun _=>?_)
theorem zpu{k:Nat}{f:Box (Nat→Nat→AV)}:zbn (ziN k f):=by
  intro a b H
  dsimp only[ziN]
  repeat (first | exact za0 | exact za5 | exact za7 | exact zay | exact za2 | assumption | refine zaA ?_ ?_ | refine zaN ?_ fun _=>?_)
theorem zvJ{l:Bool}{k d:Nat}:zbn (shC l k d):=by
  intro a b H
  dsimp only[shC]
  repeat (first | exact za0 | exact za5 | exact za7 | exact zay | exact za2 | assumption | refine zaA ?_ ?_ | refine zaN ?_ fun _=>?_)
theorem zh2{f g:Box (AV→Hp→Kont→RL)}(hf:zcg f)(hg:zcg g):zcg (orY1 f g):=fun a H=>zaA (hf a H) (hg a H)
theorem zmY{f g:Box (AV→AV→Hp→Kont→RL)}(hf:zbn f)(hg:zbn g):zbn (orY2 f g):=fun a b H=>zaA (hf a b H) (hg a b H)
theorem zt9{f g:Box (AV→AV→AV→Hp→Kont→RL)}(hf:zeT f)(hg:zeT g):zeT (orY3 f g):=fun a b d H=>zaA (hf a b d H) (hg a b d H)
theorem ztA{f g:Box (List AV→Hp→Kont→RL)}(hf:zgl f)(hg:zgl g):zgl (orYN f g):=fun a H=>zaA (hf a H) (hg a H)
theorem zpv{agg:Bool}{sz:Nat}{ko:Option (List Nat)}:zcg (zjJ agg sz ko):=by
  intro a H
  dsimp only[zjJ,zhz]
  repeat (first | exact za0 | exact za5 | exact za7 | exact zay | exact za2 | assumption | refine zaA ?_ ?_ | refine zaN ?_ fun _=>?_)
theorem zrk:zcg nilY:=by
  intro a H
  dsimp only[nilY]
  repeat (first | exact za0 | exact za5 | exact za7 | exact zay | exact za2 | assumption | refine zaA ?_ ?_ | refine zaN ?_ fun _=>?_)
theorem zjW{off:Nat}:zcg (zes off):=by
  intro a H
  dsimp only[zes]
  repeat (first | exact za0 | exact za5 | exact za7 | exact zay | exact za2 | assumption | refine zaA ?_ ?_ | refine zaN ?_ fun _=>?_)
theorem zpw{sz:Nat}:zbn (zjK sz):=by
  intro a b H
  dsimp only[zjK]
  repeat (first | exact za0 | exact za5 | exact za7 | exact zay | exact za2 | assumption | refine zaA ?_ ?_ | refine zaN ?_ fun _=>?_)
theorem zrl:zcg lenY:=by
  intro a H
  dsimp only[lenY]
  repeat (first | exact za0 | exact za5 | exact za7 | exact zay | exact za2 | assumption | refine zaA ?_ ?_ | refine zaN ?_ fun _=>?_)
theorem zoh{w:Bool}:zbn (zgI w):=by
  intro a b H
  dsimp only[zgI]
  repeat (first | exact za0 | exact za5 | exact za7 | exact zay | exact za2 | assumption | refine zaA ?_ ?_ | refine zaN ?_ fun _=>?_)
theorem zrm{sz:Nat}{h:Bool}:zeT (cutY sz h):=by
  intro a b d H
  dsimp only[cutY]
  repeat (first | exact za0 | exact za5 | exact za7 | exact zay | exact za2 | assumption | refine zaA ?_ ?_ | refine zaN ?_ fun _=>?_)
theorem zpx{sz:Nat}:zgl (zjL sz):=by
  intro a H
  dsimp only[zjL]
  repeat (first | exact za0 | exact za5 | exact za7 | exact zay | exact za2 | assumption | refine zaA ?_ ?_ | refine zaN ?_ fun _=>?_)
theorem zpy{w:Bool}{n m:Nat}:zbn (zgF w n m):=by
  intro a b H
  dsimp only[zgF]
  repeat (first | exact za0 | exact za5 | exact za7 | exact zay | exact za2 | assumption | refine zaA ?_ ?_ | refine zaN ?_ fun _=>?_)
theorem zoi{w:Bool}:zbn (zf6 w):=by
  intro a b H
  dsimp only[zf6]
  repeat (first | exact za0 | exact za5 | exact za7 | exact zay | exact za2 | assumption | refine zaA ?_ ?_ | refine zaN ?_ fun _=>?_)
theorem zpz{w:Bool}:zbn (zgG w):=by
  intro a b H
  dsimp only[zgG]
  repeat (first | exact za0 | exact za5 | exact za7 | exact zay | exact za2 | assumption | refine zaA ?_ ?_ | refine zaN ?_ fun _=>?_)
theorem ztB :zbn catC:=by
  intro a b H
  dsimp only[catC]
  repeat (first | exact za0 | exact za5 | exact za7 | exact zay | exact za2 | assumption | refine zaA ?_ ?_ | refine zaN ?_ fun _=>?_)
theorem zoj{f:AV→AV→Bool}:zbn (zei f):=by
  intro a b H
  dsimp only[zei]
  repeat (first | exact za0 | exact za5 | exact za7 | exact zay | exact za2 | assumption | refine zaA ?_ ?_ | refine zaN ?_ fun _=>?_)
theorem zp0{w:Bool}{g:Box (List AV→List AV→Option Bool)}:zbn (zgH w g):=by
  intro a b H
  dsimp only[zgH]
  repeat (first | exact za0 | exact za5 | exact za7 | exact zay | exact za2 | assumption | refine zaA ?_ ?_ | refine zaN ?_ fun _=>?_)
theorem zcq :zbn badB2:=by
  intro a b H
  dsimp only[badB2]
  repeat (first | exact za0 | exact za5 | exact za7 | exact zay | exact za2 | assumption | refine zaA ?_ ?_ | refine zaN ?_ fun _=>?_)
theorem ztC{α:Type}{o:Option α}{n:Box (AV→AV→Hp→Kont→RL)}{f:α→Box (AV→AV→Hp→Kont→RL)}(hn:zbn n)(hf:∀ a,zbn (f a)):zbn (om o n f):=by
  cases o with
  | none=>exact hn
  | some a=>exact hf a
theorem zmZ{b:Bool}{x y:Box (AV→AV→Hp→Kont→RL)}(hx:zbn x)(hy:zbn y):zbn (bi b x y):=by cases b<;>assumption
theorem zrn{op:BinOp}{f:Box (AV→AV→Hp→Kont→RL)}(hf:zbn f):zbn (ziP op f):=by
  unfold ziP
  split
  · intro a b H
    have:=hf a b H
    dsimp only
    repeat (first | exact za0 | exact za5 | exact za7 | exact zay | exact za2 | assumption | refine zaA ?_ ?_ | refine zaN ?_ fun _=>?_)
  · intro a b H
    have:=hf a b H
    dsimp only
    repeat (first | exact za0 | exact za5 | exact za7 | exact zay | exact za2 | assumption | refine zaA ?_ ?_ | refine zaN ?_ fun _=>?_)
  · intro a b H
    have:=hf a b H
    dsimp only
    repeat (first | exact za0 | exact za5 | exact za7 | exact zay | exact za2 | assumption | refine zaA ?_ ?_ | refine zaN ?_ fun _=>?_)
  · exact hf
theorem zlD{op:BinOp}{c:Nat}{f:Box (AV→AV→Hp→Kont→RL)}(h:intC op c=some f):zbn f:=by
  unfold intC at h
  split at h<;>first | (cases h;first | exact zlC | exact zpu) | cases h
theorem zp1{op:BinOp}{k:IntKind}:zbn (zgL op k):=by
  unfold zgL
  cases h:intC op (zap k) with
  | none=>exact zcq
  | some f=>exact zmZ (zrn (zlD h)) (zlD h)
theorem zp2{op:BinOp}:zbn (zgJ op):=by
  unfold zgJ
  split<;>first | exact zpz | exact zoj | exact ztB | exact zcq
theorem zjX{op:BinOp}{n m:Nat}:zbn (zet op n m):=by
  unfold zet
  split<;>first | exact zpy | exact zcq
theorem zok{op:BinOp}:zbn (zf7 op):=by
  unfold zf7
  split<;>first | exact zoi | exact zcq
theorem zp3{op:BinOp}{t:TypeId}:zbn (zgK P op t):=by
  unfold zgK
  refine zmZ zcq (ztC zcq fun g=>?_)
  split<;>first | exact zp0 | exact zcq
theorem zp4{op:BinOp}{t:TypeId}:zbn (zgM P op t):=by
  unfold zgM
  split<;>first | exact zp1 | exact zp2 | exact zok | exact zjX | exact zp3 | exact zcq | exact zmY zjX (by split<;>first | exact zoh | exact zcq)
theorem zro{l:Bool}{t ty:TypeId}:zbn (zh0 P l t ty):=by
  unfold zh0
  split<;>first | exact zvJ | exact zcq
theorem ztD{op:BinOp}{t ty:TypeId}:zbn (binC P op t ty):=by
  unfold binC
  split<;>first | exact zro | exact zp4
theorem zvK{op:UnOp}{t:TypeId}:zcg (unC P op t):=by
  unfold unC
  split<;>(intro a H;dsimp only;repeat (first | exact za0 | exact za5 | exact za7 | exact zay | exact za2 | assumption | refine zaA ?_ ?_ | refine zaN ?_ fun _=>?_))
theorem ztE:zcg b2sC:=by
  intro a H
  dsimp only[b2sC]
  repeat (first | exact za0 | exact za5 | exact za7 | exact zay | exact za2 | assumption | refine zaA ?_ ?_ | refine zaN ?_ fun _=>?_)
theorem zna{b:Bool}{x y:Box (AV→Hp→Kont→RL)}(hx:zcg x)(hy:zcg y):zcg (bi b x y):=by cases b<;>assumption
theorem zrp{s t:TypeId}:zcg (ziQ P s t):=by
  unfold ziQ
  split<;>first | (refine zna ztE ?_;intro a H;exact za0) | (intro a H;dsimp only;repeat (first | exact za0 | exact za5 | exact za7 | exact zay | exact za2 | assumption | refine zaA ?_ ?_ | refine zaN ?_ fun _=>?_))
theorem zjY{pl:List (Nat × Nat)}{z:List AV}:zgl (zgN pl z):=by
  intro a H
  dsimp only[zgN]
  repeat (first | exact za0 | exact za5 | exact za7 | exact zay | exact za2 | assumption | refine zaA ?_ ?_ | refine zaN ?_ fun _=>?_)
theorem ztF{sz:Nat}{h:Bool}:zeT (cutC sz h):=by
  intro a b d H
  dsimp only[cutC]
  repeat (first | exact za0 | exact za5 | exact za7 | exact zay | exact za2 | assumption | refine zaA ?_ ?_ | refine zaN ?_ fun _=>?_)
theorem zrq{sz:Nat}:zgl (zjM sz):=by
  intro a H
  dsimp only[zjM]
  repeat (first | exact za0 | exact za5 | exact za7 | exact zay | exact za2 | assumption | refine zaA ?_ ?_ | refine zaN ?_ fun _=>?_)
theorem zol{n sz:Nat}{h:Bool}:zeT (zgO n sz h):=by
  intro a b d H
  dsimp only[zgO]
  repeat (first | exact za0 | exact za5 | exact za7 | exact zay | exact za2 | assumption | refine zaA ?_ ?_ | refine zaN ?_ fun _=>?_)
theorem zom{h:Bool}:zeT (zgP h):=by
  intro a b d H
  dsimp only[zgP]
  repeat (first | exact za0 | exact za5 | exact za7 | exact zay | exact za2 | assumption | refine zaA ?_ ?_ | refine zaN ?_ fun _=>?_)
theorem zkX{off:Nat}:zcg (zeu off):=by
  intro a H
  dsimp only[zeu]
  repeat (first | exact za0 | exact za5 | exact za7 | exact zay | exact za2 | assumption | refine zaA ?_ ?_ | refine zaN ?_ fun _=>?_)
theorem zp5{g:Bool}{off sz:Nat}:zcg (zig g off sz):=by
  intro a H
  dsimp only[zig]
  repeat (first | exact za0 | exact za5 | exact za7 | exact zay | exact za2 | assumption | refine zaA ?_ ?_ | refine zaN ?_ fun _=>?_)
theorem zrr{sz:Nat}:zbn (zjN sz):=by
  intro a b H
  dsimp only[zjN]
  repeat (first | exact za0 | exact za5 | exact za7 | exact zay | exact za2 | assumption | refine zaA ?_ ?_ | refine zaN ?_ fun _=>?_)
theorem zp6{n sz:Nat}:zbn (zih n sz):=by
  intro a b H
  dsimp only[zih]
  repeat (first | exact za0 | exact za5 | exact za7 | exact zay | exact za2 | assumption | refine zaA ?_ ?_ | refine zaN ?_ fun _=>?_)
theorem zp7{g:Bool}{n sz:Nat}:zbn (zii g n sz):=by
  intro a b H
  dsimp only[zii]
  repeat (first | exact za0 | exact za5 | exact za7 | exact zay | exact za2 | assumption | refine zaA ?_ ?_ | refine zaN ?_ fun _=>?_)
theorem zp8 :zbn ixStrC:=by
  intro a b H
  dsimp only[ixStrC]
  repeat (first | exact za0 | exact za5 | exact za7 | exact zay | exact za2 | assumption | refine zaA ?_ ?_ | refine zaN ?_ fun _=>?_)
theorem zlE{kt:Nat}{z:AV}{ok:Bool}:zbn (zfs kt z ok):=by
  intro a b H
  dsimp only[zfs]
  repeat (first | exact za0 | exact za5 | exact za7 | exact zay | exact za2 | assumption | refine zaA ?_ ?_ | refine zaN ?_ fun _=>?_)
theorem zp9{kt:Nat}{z:AV}{ok agg:Bool}{ko:Option (List Nat)}:zbn (zjO kt z ok agg ko):=by
  cases ko with
  | none=>exact zlE
  | some ks =>
    intro a b H
    show zbV H fun c=>bi (bi (nbeq a.tag 12) (nbeq a.q 1) false) (bi (nbeq (hget H a.p).kind 2) (bi (nbeq (hget H a.p).t kt) (bi (keyA kt b) (bi (hasE kt b (hget H a.p).cs)
      (bi (tyE agg ks (getE kt b (hget H a.p).cs)) (c H (zeR ok (some (canE agg ks (getE kt b (hget H a.p).cs))) z)) (zab 181)) (c H (zeR ok none z))) (zab 18)) (zab 18)) (zab 18)) ((zfs kt z ok).run a b H c)
    refine zaA ?_ (zlE a b H)
    repeat (first | exact za0 | exact za5 | refine zaA ?_ ?_)
theorem znb{i:Nat}:zcg (zfJ i):=by
  intro a H
  dsimp only[zfJ]
  repeat (first | exact za0 | exact za5 | exact za7 | exact zay | exact za2 | assumption | refine zaA ?_ ?_ | refine zaN ?_ fun _=>?_)
theorem zmr{f n:Nat}:zgl (zgj f n):=by
  intro a H
  dsimp only[zgj]
  repeat (first | exact za0 | exact za5 | exact za7 | exact zay | exact za2 | assumption | refine zaA ?_ ?_ | refine zaN ?_ fun _=>?_)
theorem ztG{t:TypeId}:zcg (lenC P t):=by
  unfold lenC
  repeat' split
  all_goals first
    | (refine zh2 ?_ zrl;intro a H;dsimp only;repeat (first | exact za0 | exact za5 | exact za7 | exact zay | exact za2 | assumption | refine zaA ?_ ?_ | refine zaN ?_ fun _=>?_))
    | (intro a H;dsimp only;repeat (first | exact za0 | exact za5 | exact za7 | exact zay | exact za2 | assumption | refine zaA ?_ ?_ | refine zaN ?_ fun _=>?_))
theorem zg8{m:Bool}{c:Nat}:zbn (zct m c):=zlC
theorem zrs{c:Nat}:zeT (zm0 c):=by
  intro a b d H
  rcases zg8 (m:=false) (c:=c) a b H with⟨n,h⟩ | ⟨v,h⟩
  · exact .inl ⟨n,fun k=>h (fun H v=>(zct false c).run v d H k)⟩
  · rcases zg8 (m:=false) (c:=c) v d H with⟨n,h'⟩ | ⟨v',h'⟩
    · exact .inl ⟨n,fun k=>(h (fun H v=>(zct false c).run v d H k)).trans (h' k)⟩
    · exact .inr ⟨v',fun k=>(h (fun H v=>(zct false c).run v d H k)).trans (h' k)⟩
theorem ztH{x:Operand}:zdz P (.c1 x zmz):=zdH zri
theorem znc{t:TypeId}{x:Operand}{lo hi mx:Option Operand}:zdz P (zgQ P t x lo hi mx):=by
  unfold zgQ
  repeat (first | exact zaX | exact zgU (zt9 ztF zrm) | exact ziW (ztA zrq zpx) | exact zgU zom | exact zgU zol | refine zmX ?_ ?_ | refine zby ?_ fun _=>?_ | split)
theorem zvL{o:Oper}(h:zcO o=0):zdz P (opOf P o):=by
  cases ho:o.op
  case slice t x lo hi mx=>simp only[opOf,ho];exact znc
  case call cl =>
    cases hc:cl.callee with
    | builtin b =>
      simp only[zcO,ho,hc] at h
      simp only[opOf,ho,hc]
      unfold zc3
      split<;>first
        | ((repeat (first | exact zaX | exact zdH ztG | exact zeG zg8 | exact zgU zrs | refine zby ?_ fun _=>?_ | split));done)
        | (simp at h)
    | value f=>simp only[zcO,ho,hc] at h;cases h
    | invoke a b=>simp only[zcO,ho,hc] at h;cases h
  case move x=>simp only[opOf,ho];exact ztH
  case pick=>simp only[opOf,ho];exact zgU zrj
  case load=>simp only[opOf,ho];exact zby zaX fun _=>zby zaX fun _=>zdH (zh2 (zna zps zpt) zpv)
  case nilCheck=>simp only[opOf,ho];exact zdH (zh2 zt8 zrk)
  case binOp=>simp only[opOf,ho];exact zeG ztD
  case unOp=>simp only[opOf,ho];exact zdH zvK
  case convert=>simp only[opOf,ho];exact zdH zrp
  case extract=>simp only[opOf,ho];exact zdH znb
  case build =>
    simp only[opOf,ho]
    refine zby zaX fun z=>?_
    split
    · exact zby zaX fun _=>zby zaX fun _=>ziW zjY
    · exact zby zaX fun _=>zby zaX fun _=>ziW zjY
    · exact zaX
  case makeFunc =>
    simp only[opOf,ho]
    split
    · exact ziW zmr
    · exact zaX
  case fieldAddr =>
    simp only[opOf,ho]
    split
    · exact zby zaX fun _=>zby zaX fun _=>zmX zaX (zdH (zh2 zkX zjW))
    · exact zaX
  case field =>
    simp only[opOf,ho]
    split
    · exact zby zaX fun _=>zby zaX fun _=>zby zaX fun _=>zdH zp5
    · exact zaX
  case indexAddr =>
    simp only[opOf,ho]
    split
    · exact zby zaX fun _=>zeG (zmY zrr zpw)
    · exact zby zaX fun _=>zeG zp6
    · exact zaX
  case index =>
    simp only[opOf,ho]
    split
    · exact zeG zp8
    · exact zby zaX fun _=>zby zaX fun _=>zeG zp7
    · exact zaX
  case lookup =>
    simp only[opOf,ho]
    split
    · exact zby zaX fun _=>zby zaX fun _=>zeG zp9
    · exact zaX
  all_goals (simp only[zcO,ho] at h;first | (cases h;done) | (split at h<;>cases h))
end Go.Eng
namespace Go.Eng
open Go.RowKit
variable {ro:Option Nat} {P:Program} {w0:World} {r:Rec} {N:Nat} {H0 H:Hp} {φ0 φ:Ph} {L:RL} {T:Fr} {a:Act} {w:World} {c:Kont}
theorem evD{x:OpC}(hx:zcl x):(runD P x).run r T H c=x.ev (fun o=>(getO P o).run T) H c:=by
  cases x with
  | call f xs=>exact absurd rfl (hx f xs)
  | cN xs f=>show f.run ((zbT P xs).run T) H _=_;rw[zdD];rfl
  | _=>rfl
theorem znd{x:OpC}{ρ ρ':Operand→AV}(h:∀ y ∈ opsC x,ρ y=ρ' y):x.ev ρ H c=x.ev ρ' H c:=by
  cases x with
  | c0 f=>rfl
  | c1 x f=>show f.run _ H c=f.run _ H c;rw[h x (by simp[opsC])]
  | c2 x y f=>show f.run _ _ H c=f.run _ _ H c;rw[h x (by simp[opsC]),h y (by simp[opsC])]
  | c3 x y z f=>show f.run _ _ _ H c=f.run _ _ _ H c;rw[h x (by simp[opsC]),h y (by simp[opsC]),h z (by simp[opsC])]
  | cN xs f=>show f.run (xs.map ρ) H c=f.run (xs.map ρ') H c;rw[List.map_congr_left (show ∀ y ∈ xs,ρ y=ρ' y from h)]
  | call x xs=>rfl
theorem zgm{l:List Operand}{t:Nat}:t ∈ zdb l ↔ Operand.tmp t ∈ l:=by
  induction l with
  | nil=>simp[zdb]
  | cons x l ih =>
    cases x<;>simp[zdb,ih]
theorem zjZ{T':Fr}{l:List Operand}(h:∀ t ∈ zdb l,(getB t).run T=(getB t).run T'):∀ y ∈ l,(getO P y).run T=(getO P y).run T':=by
  intro y hy
  cases y with
  | tmp t=>exact h t (zgm.2 hy)
  | global g=>exact zou
  | _=>rfl
theorem zpA{x:OpC}{T':Fr}(h:∀ t ∈ zdb (opsC x),(getB t).run T=(getB t).run T'):(runD P x).run r T H c=(runD P x).run r T' H c:=by
  by_cases hx:zcl x
  · rw[evD hx,evD hx]
    exact znd (zjZ h)
  · cases x with
    | call f xs =>
      have hg:=zjZ (P:=P) h
      show fmL (r ((getO P f).run T) ((zbT P xs).run T) H) _=fmL (r ((getO P f).run T') ((zbT P xs).run T') H) _
      rw[hg f (by simp[opsC]),zdD,zdD,List.map_congr_left fun y hy=>hg y (by simp[opsC,hy])]
    | _=>exact absurd (by first | exact zfW | exact zfX | exact zfY | exact zfZ | exact zga) hx
theorem zne{o:Oper}{K:Act→World→Prop}{Q:Exit→Act→World→Prop}(hrec:zaU P r)(hL:AllOk L)(hv:∀ t ∈ zdb (opsC (opOf P o)),VR φ ((getB t).run T) (a.tmps.getD t undef))(hr:HR P w0 H φ w)
    (h:∀ x ∈ (runD P (opOf P o)).run r T H c,x ∈ L)
    (hK:∀ val v H' φ' w',VR φ' v val→HR P w0 H' φ' w'→EX H φ H' φ'→(∀ x ∈ c H' v,x ∈ L)→K (a.put o.dst val) w'):o.wpIn (fen ro) 0 P a w K Q:=by
  have hop:∀ y ∈ opsC (opOf P o),VR φ ((getO P y).run T) (a.eval y):=by
    intro y hy
    cases y with
    | tmp t=>exact hv t (zgm.2 hy)
    | const v=>exact (zjl v).1
    | global g=>exact zg0 hr.gl
    | func f=>exact .fn f 0 0 0 [] [] [] .nil rfl
  by_cases hc:zcl (opOf P o)
  · obtain⟨ρA,e1,e2,e3⟩:∃ ρA:Operand→AV,(∀ y ∈ opsC (opOf P o),(getO P y).run T=ρA y)∧(∀ y,VR φ (ρA y) (a.eval y))∧(ρA zdy).p=0:=by
      classical
      refine⟨fun y=>if y ∈ opsC (opOf P o) then (getO P y).run T else unkV,fun y hy=>by simp only[if_pos hy],fun y=>?_,?_⟩
      · by_cases hy:y ∈ opsC (opOf P o)
        · simp only[if_pos hy];exact hop y hy
        · simp only[if_neg hy];exact .unk _ _ _ _ _ _
      · by_cases hy:zdy ∈ opsC (opOf P o)
        · simp only[if_pos hy];rfl
        · simp only[if_neg hy];rfl
    rw[evD hc,znd e1] at h
    obtain⟨H',v,φ',val,w',h1,h2,h3,h4,h5⟩:=zoW (P:=P) (w0:=w0) (ρ:=a.eval) e2 e3 hr (hL.of_sub h)
    have hon:=hK val v H' φ' w' h3 h4 h5 fun x hx=>h x (h1 x hx)
    refine⟨fun _ _=>trivial,?_⟩
    rw[Oper.semAt_eq _ _ _ (zlY (hL.of_sub h))]
    rcases h2 with h2 | ⟨h2,rfl⟩
    · rw[h2,Oper.uponIn_value];exact hon
    · rw[h2,Oper.uponIn_skip];exact hon
  · obtain⟨cl,f,ho,hcl,hopc⟩:=zlX hc
    rw[hopc] at h hop
    have hmem:∀ q ∈ r ((getO P f).run T) ((zbT P cl.args.toList).run T) H,∀ x ∈ bi (nbeq q.ok 1) (c q.H q.v) (zab q.why),x ∈ L:=fun q hq x hx=>h x (zdg.2 ⟨q,hq,hx⟩)
    have hall:AllC (r ((getO P f).run T) ((zbT P cl.args.toList).run T) H):=fun q hq=>by
      cases hb:nbeq q.ok 1
      · have:=hmem q hq;rw[hb] at this;exact (zaq hL this).elim
      · exact zaa.1 hb
    have hargs:VRs φ ((zbT P cl.args.toList).run T) (cl.args.toList.map a.eval):=by
      rw[zdD]
      have:∀ y ∈ cl.args.toList,VR φ ((getO P y).run T) (a.eval y):=fun y hy=>hop y (by simp only[opsC,List.mem_cons];exact .inr hy)
      generalize cl.args.toList=l at this
      induction l with
      | nil=>exact .nil
      | cons y l ih=>exact .cons (this y (by simp)) (ih fun z hz=>this z (by simp[hz]))
    refine zoY ho hcl (hrec w0 H φ w _ _ _ _ (hop f (by simp[opsC])) hargs hr hall) fun v w' he=>?_
    obtain⟨q,hq,φ',g1,g2,g3⟩:=he
    have hx:=hmem q hq
    rw[zaa.2 (hall q hq)] at hx
    exact hK v q.v q.H φ' w' g1 g2 g3 hx
theorem zka{all:Array Oper}{j d:Nat}(hd:(all[j]?).bind (·.dst)=some d)(hN:d<a.tmps.size):yielded all a.tmps j=match a.tmps.getD d undef with | .bool b=>some b | _=>none:=by
  unfold yielded
  rw[hd]
  simp[hN]
  cases a.tmps[d]<;>rfl
theorem zlF{all:Array Oper}{i:Nat}{o:Oper}{K:Act→World→Prop}{Q:Exit→Act→World→Prop}(hrec:zaU P r)(hL:AllOk L)(ho:all[i]?=some o)(hok:okOf N all o=true)(hN:N≤a.tmps.size)
    (hv:∀ t ∈ appL (gdOf all o) (zdb (opsC (opOf P o))),VR φ ((getB t).run T) (a.tmps.getD t undef)) (hr:HR P w0 H φ w)
    (h:∀ x ∈ (runG P all o).run r T H c,x ∈ L)
    (hK:∀ val v H' φ' w',VR φ' v val→HR P w0 H' φ' w'→EX H φ H' φ'→(∀ x ∈ c H' v,x ∈ L)→K (a.put o.dst val) w'):wpOpIn (fen ro) 0 P all Q i K a w:=by
  rw[zaV] at hv
  have hg1:allL (fun d=>nble (Nat.succ d) N) (gdOf all o)=true:=by
    unfold okOf at hok
    cases hb:allL (fun d=>nble (Nat.succ d) N) (gdOf all o)
    · rw[hb] at hok;cases hok
    · rfl
  unfold Go.wpOpIn
  simp only[ho]
  unfold runG at h
  cases hg:o.guard with
  | none =>
    rw[hg] at h
    simp only[Region.wanted,hg,if_true]
    exact (zne hrec hL (fun t ht=>hv t (List.mem_append_right _ ht)) hr h hK)
  | some jw =>
    obtain⟨j,want⟩:=jw
    rw[hg] at h
    simp only[] at h
    cases hd:(all[j]?).bind (·.dst) with
    | none=>rw[hd] at h;exact (zaq hL h).elim
    | some d =>
      rw[hd] at h
      simp only[] at h
      have hgd:gdOf all o=[d]:=by simp only[gdOf,hg,hd]
      rw[hgd] at hg1 hv
      have hdN:d<N:=by
        have:bi (nble (Nat.succ d) N) true false=true:=hg1
        cases hb:nble (Nat.succ d) N
        · rw[hb] at this;cases this
        · exact zah.1 hb
      have hy:=zka (a:=a) hd (Nat.lt_of_lt_of_le hdN hN)
      have hvd:=hv d (by simp)
      simp only[Region.wanted,hg]
      cases h8:nbeq ((getB d).run T).tag 8
      · rw[h8,zai] at h
        cases h19:nbeq ((getB d).run T).tag 19
        · rw[h19] at h;exact (zaq hL h).elim
        · rw[h19,zag] at h
          have e:=hvd.of_ud (zaa.1 h19)
          rw[e] at hy
          rw[hy]
          simp only[undef]
          exact⟨fun _ _=>trivial,hK undef udV H φ w (.ud _ _ _ _ _) hr (EX.refl H φ) h⟩
      · rw[h8,zag] at h
        obtain⟨b,e,hp,_⟩:=hvd.of_bool (zaa.1 h8)
        rw[e] at hy
        rw[hy]
        have hbw:nbeq ((getB d).run T).p (bi want 1 0)=(some b == some want):=by
          rw[hp];cases b<;>cases want<;>rfl
        rw[hbw] at h
        cases hw:(some b == some want)
        · rw[hw] at h
          exact⟨fun _ _=>trivial,hK undef udV H φ w (.ud _ _ _ _ _) hr (EX.refl H φ) h⟩
        · rw[hw] at h
          exact (zne hrec hL (fun t ht=>hv t (List.mem_append_right _ ht)) hr h hK)
theorem zpB{all:Array Oper}{o:Oper}{T':Fr}(h:∀ t ∈ appL (gdOf all o) (zdb (opsC (opOf P o))),(getB t).run T=(getB t).run T'):(runG P all o).run r T H c=(runG P all o).run r T' H c:=by
  rw[zaV] at h
  have hD:(runD P (opOf P o)).run r T H c=(runD P (opOf P o)).run r T' H c:=zpA fun t ht=>h t (List.mem_append_right _ ht)
  unfold runG
  cases hg:o.guard with
  | none=>exact hD
  | some jw =>
    obtain⟨j,want⟩:=jw
    simp only[]
    cases hd:(all[j]?).bind (·.dst) with
    | none=>rfl
    | some d =>
      have hgd:gdOf all o=[d]:=by simp only[gdOf,hg,hd]
      have e:=h d (by rw[hgd];simp)
      simp only[]
      rw[e,hD]
theorem zgn{all:Array Oper}{o:Oper}(h:zcO o=0):zbV H ((runG P all o).run r T H):=by
  have hs:=zvL (P:=P) h r T H
  unfold runG
  cases hg:o.guard with
  | none=>exact hs
  | some jw =>
    obtain⟨j,want⟩:=jw
    simp only[]
    cases hd:(all[j]?).bind (·.dst) with
    | none=>exact za0
    | some d=>exact zaA (zaA hs za5) (zaA za5 za0)
theorem HR.late{b:Nat}{obj:Obj}(hr:HR P w0 H φ w)(hb:b<H.n)(hφ:φ b=none)(hB:BRel P φ w.heap.size (hget H b) obj) :
    ∃ φ':Ph,Le φ φ'∧φ' b=some w.heap.size∧(∀ b',b' ≠ b→φ' b'=φ b')∧HR P w0 H φ' (w.alloc obj)∧φ'.fz=φ.fz:=by
  let φ':Ph:=⟨fun b'=>if b'=b then some w.heap.size else φ b',φ.k,φ.op,φ.fz,fun b'=>if b'=b then (hget H b).cs.length else φ.tl b'⟩
  have hb1:φ' b=some w.heap.size:=by simp[φ']
  have hb2:∀ b',b' ≠ b→φ' b'=φ b':=fun b' h=>by simp[φ',h]
  have hle:Le φ φ':=⟨fun b' x h=>⟨by rw[hb2 b' (fun e=>by rw[e,hφ] at h;cases h)];exact h,rfl⟩,rfl,fun _ _ h=>h,fun b' x h=>if_neg fun e=>by rw[e,hφ] at h;cases h⟩
  have hlt:∀ b' x,φ b'=some x→x<w.heap.size:=fun b' x h=>by
    obtain⟨_,_,o,h3,_⟩:=hr.blk b' x h
    exact (Array.getElem?_eq_some_iff.1 h3).1
  refine⟨φ',hle,hb1,hb2,⟨?_,?_,hr.n,hr.lim,hr.below.alloc' hle obj,hr.gl.mono hle,hr.op,?_,?_,hr.fo⟩,rfl⟩
  · intro b' x h
    by_cases hbb:b'=b
    · subst hbb
      rw[hb1] at h;cases h
      refine⟨hb,fun _=>.inl hr.below.size,obj,?_,hB.mono hle rfl⟩
      show (w.heap.push obj)[w.heap.size]?=_
      simp
    · rw[hb2 b' hbb] at h
      obtain⟨h1,h2,o,h3,h4⟩:=hr.blk b' x h
      refine⟨h1,h2,o,?_,h4.mono hle rfl⟩
      rw[Below.heap_alloc _ _ _ (hlt b' x h)];exact h3
  · intro b1 b2 x h1 h2 k1 k2
    by_cases e1:b1=b
    · by_cases e2:b2=b
      · rw[e1,e2]
      · rw[e1,hb1] at h1;cases h1
        rw[hb2 b2 e2] at h2
        exact absurd (hlt _ _ h2) (by omega)
    · by_cases e2:b2=b
      · rw[e2,hb1] at h2;cases h2
        rw[hb2 b1 e1] at h1
        exact absurd (hlt _ _ h1) (by omega)
      · rw[hb2 b1 e1] at h1
        rw[hb2 b2 e2] at h2
        exact hr.inj b1 b2 x h1 h2 k1 k2
  · intro x C hx
    obtain⟨⟨t,fr,h1⟩,h2⟩:=hr.fz x C hx
    have hxs:=(Array.getElem?_eq_some_iff.1 h1).1
    refine⟨⟨t,fr,by rw[Below.heap_alloc _ _ _ hxs];exact h1⟩,fun b' hb' hl=>?_⟩
    by_cases e:b'=b
    · rw[e,hb1] at hb';cases hb';omega
    · rw[hb2 b' e] at hb';exact h2 b' hb' hl
  · intro b' x hb' hk
    by_cases e:b'=b
    · subst e;exact (if_pos rfl).symm
    · rw[hb2 b' e] at hb'
      exact (hr.tl b' x hb' hk).trans (if_neg e).symm
theorem zkY{t e:TypeId}{z:AV}{sz len:Nat}{is:List Nat}{pl:List (Nat × Nat)}{vs cs:List AV}{vals:List Value}{parts:Array (Nat × Value)}(hu:(tyB P t).run=some (.slice e))(hs:(szB P e).run=some sz)(hz:(zeB P e).run=some z)
    (hp:parts.toList=is.zip vals) (hl:is.length=vals.length) (hpl:zbS (fun i=>some (i * sz,sz)) is=some pl) (hsm:len * sz≤100000) (hzs:(cellsOf z).length=sz)
    (hv:VRs φ vs vals) (hcs:zgh pl vs (repC len (cellsOf z))=some cs) :
    ∃ r:Array Value,(Instr.buildSlice t len parts).run P w=.ok (.slice (some ⟨w.heap.size,0,none⟩) len len) (w.alloc (.cells r e))∧VRs φ cs r.toList∧∀ c ∈ cs,za6 c=true:=by
  obtain⟨i,zv,hi,hzv,hzr,hc⟩:=zeg hz
  obtain⟨h1,h2⟩:=(hzr φ).cells hc
  obtain⟨ie,hie,he⟩:=Option.map_eq_some_iff.1 (show (P.info? e).map (·.size)=some sz from hs)
  rw[hi] at hie;cases hie
  have hzsz:zv.cells.size=sz:=by rw[h1.length] at hzs;simpa using hzs
  have hmade:=zdw hzsz len
  have h3:VRs φ (repC len (cellsOf z)) (madeCells zv.cells (len * sz)).toList:=by rw[hmade];exact h1.repC len
  obtain⟨r,q1,q2,q3⟩:=zhk is pl vs vals _ cs _ hpl hv h3 (zdE h2 len) hcs hl
  rw[← hp] at q1
  refine⟨r,?_,q2,q3⟩
  subst he
  by_cases h0:len * i.size=0
  · rw[h0] at q1
    have q1':Instr.fill (fun k=>some (k * i.size,i.size)) (#[]:Array Value) parts.toList=some r:=by
      have e0:madeCells zv.cells 0=#[]:=by simp[madeCells]
      rw[e0] at q1
      exact q1
    simp[Instr.buildSlice,run_underlying hu,sizeOf,typeInfo,hi,h0,newRow]
    rw[show Array.map (fun _=>(default:Value)) (Array.range 0)=#[] from by simp,q1']
    rfl
  · exact run_buildSlice w t e len parts r i zv hu hi hzv (by omega) h0 q1
theorem zpC{o:Oper}(hc:zcO o=1):(∃ n,∀ H c,(runD P (opOf P o)).run r T H c=zab n) ∨ ∃ (B:AB) (mk:Nat→AV),(∀ H c,(runD P (opOf P o)).run r T H c=newC H B mk c)∧B.kind=1 ∧
    ∀ (φ:Ph) (a:Act) (w:World),GL P φ→(∀ t ∈ zdb (opsC (opOf P o)),VR φ ((getB t).run T) (a.tmps.getD t undef)) →
      ∃ obj val,(execOp a.eval o).run P w=.ok (.value val) (w.alloc obj)∧BRel P φ w.heap.size B obj∧∀ (φ':Ph) n,φ' n=some w.heap.size→VR φ' (mk n) val:=by
  cases ho:o.op
  case alloc t =>
    simp only[opOf,ho]
    cases hz:(zeB P t).run with
    | none=>exact .inl ⟨3,fun _ _=>rfl⟩
    | some z =>
      refine .inr ⟨zbt (cellsOf z) 1,ptr0,fun _ _=>rfl,rfl,fun φ a w _ _=>?_⟩
      obtain⟨i,zv,hi,hzv,hv,hcz⟩:=zeg hz
      obtain⟨h1,h2⟩:=(hv φ).cells hcz
      refine⟨.cells zv.cells t,.pointer (some ⟨w.heap.size,0,none⟩),?_,⟨fun _=>⟨zv.cells.toList,[],t,by simp,h1,h2,(fun h=>by cases h),(fun h=>by exact no21 h)⟩,fun h=>by simp[zbt] at h,fun h=>by simp[zbt] at h,no41⟩,fun φ' n h=>.ptr _ _ _ _ _ _ h⟩
      simp only[execOp,ho,Instr.alloc,newVar,newRow,Sem.run_bind,zeM hi hzv,zcT,Result.andThen_ok,Sem.run_pure']
  case buildSlice t len parts =>
    simp only[opOf,ho]
    split
    · rename_i e ht
      cases hs:(szB P e).run with
      | none=>exact .inl ⟨5,fun _ _=>rfl⟩
      | some sz =>
        simp only[zan]
        cases hz:(zeB P e).run with
        | none=>exact .inl ⟨5,fun _ _=>rfl⟩
        | some z =>
          simp only[zan]
          cases hpl:zbS (fun i=>some (i * sz,sz)) (parts.toList.map (·.1)) with
          | none=>exact .inl ⟨5,fun _ _=>rfl⟩
          | some pl =>
            simp only[zan]
            cases hcond:bi (nble (Nat.mul len sz) 100000) (nbeq (lenL (cellsOf z)) sz) false
            · exact .inl ⟨5,fun _ _=>rfl⟩
            · simp only[zag]
              cases hcs:zgh pl ((zbT P (parts.toList.map (·.2))).run T) (repC len (cellsOf z)) with
              | none=>exact .inl ⟨5,fun H c=>by show om (zgh pl ((zbT P (parts.toList.map (·.2))).run T) (repC len (cellsOf z))) _ _=_;rw[hcs];rfl⟩
              | some cs =>
                refine .inr ⟨zbt cs 1,fun b=>slV b 0 len (exS len),fun H c=>by show om (zgh pl ((zbT P (parts.toList.map (·.2))).run T) (repC len (cellsOf z))) _ _=_;rw[hcs];rfl,rfl,fun φ a w hgl hv=>?_⟩
                have hvs:VRs φ ((zbT P (parts.toList.map (·.2))).run T) ((parts.toList.map (·.2)).map a.eval):=by
                  have hop:∀ y ∈ parts.toList.map (·.2),VR φ ((getO P y).run T) (a.eval y):=by
                    intro y hy
                    cases y with
                    | tmp t' =>
                      refine hv t' ?_
                      simp only[opOf,ho,ht,hs,hz,hpl,zan,hcond,zag,opsC]
                      exact zgm.2 hy
                    | const v=>exact (zjl v).1
                    | global g=>exact zg0 hgl
                    | func f=>exact .fn f 0 0 0 [] [] [] .nil rfl
                  rw[zdD]
                  generalize parts.toList.map (·.2)=l at hop
                  induction l with
                  | nil=>exact .nil
                  | cons y l ih=>exact .cons (hop y (by simp)) (ih fun z hz=>hop z (by simp[hz]))
                obtain⟨hc1,hc2⟩:=zaw.1 hcond
                have hc2:=zaa.1 hc2
                rw[zaz] at hc2
                obtain⟨rr,q1,q2,q3⟩:=zkY (P:=P) (w:=w) ht hs hz (zdB (ρ:=a.eval) parts) (by simp) hpl (zah.1 hc1) hc2 hvs hcs
                refine⟨.cells rr e,.slice (some ⟨w.heap.size,0,none⟩) len len,?_,⟨fun _=>⟨rr.toList,[],e,by simp,q2,q3,(fun h=>by cases h),(fun h=>by exact no21 h)⟩,fun h=>by simp[zbt] at h,fun h=>by simp[zbt] at h,no41⟩,fun φ' n h=>zer h (Nat.le_refl _) 0⟩
                simp only[execOp,ho,Sem.run_bind,q1,Result.andThen_ok,Sem.run_pure']
    · exact .inl ⟨5,fun _ _=>rfl⟩
  case makeSlice t l m =>
    simp only[opOf,ho]
    split
    · rename_i e ht
      cases hs:(szB P e).run with
      | none=>exact .inl ⟨12,fun _ _=>rfl⟩
      | some sz =>
        simp only[zan]
        cases hbt:(btB P e).run with
        | none=>exact .inl ⟨12,fun _ _=>rfl⟩
        | some bt =>
          simp only[zan]
          cases hz:(zeB P e).run with
          | none=>exact .inl ⟨12,fun _ _=>rfl⟩
          | some z =>
            simp only[zan]
            cases hcond:bi (nble bt 1000000) (nbeq (lenL (cellsOf z)) sz) false
            · exact .inl ⟨12,fun _ _=>rfl⟩
            · simp only[zag]
              have hshow:∀ H c,(runD P (.c2 l m (zdi (cellsOf z)))).run r T H c=(zdi (cellsOf z)).run ((getO P l).run T) ((getO P m).run T) H c:=fun _ _=>rfl
              cases hcd:bi (nbeq ((getO P l).run T).tag 3) (bi (nbeq ((getO P m).run T).tag 3) (bi (nble ((getO P l).run T).p ((getO P m).run T).p) (nble ((getO P m).run T).p 100000) false) false) false
              · refine .inl ⟨12,fun H c=>?_⟩
                rw[hshow]
                unfold zdi
                simp only[]
                cases e1:nbeq ((getO P l).run T).tag 3
                · rfl
                cases e2:nbeq ((getO P m).run T).tag 3
                · rfl
                cases e3:nble ((getO P l).run T).p ((getO P m).run T).p
                · rfl
                cases e4:nble ((getO P m).run T).p 100000
                · rfl
                rw[e1,e2,e3,e4] at hcd;cases hcd
              · obtain⟨g1,hcd⟩:=zaw.1 hcd
                obtain⟨g2,hcd⟩:=zaw.1 hcd
                obtain⟨g3,g4⟩:=zaw.1 hcd
                refine .inr ⟨zbt (repC ((getO P m).run T).p (cellsOf z)) 1,fun b=>slV b 0 ((getO P l).run T).p (exS ((getO P m).run T).p),fun H c=>?_,rfl,fun φ a w hgl hv=>?_⟩
                · rw[hshow]
                  unfold zdi
                  simp only[g1,g2,g3,g4,zag]
                have hop:∀ y ∈ [l,m],VR φ ((getO P y).run T) (a.eval y):=by
                  intro y hy
                  cases y with
                  | tmp t' =>
                    refine hv t' ?_
                    simp only[opOf,ho,ht,hs,hbt,hz,zan,hcond,zag,opsC]
                    exact zgm.2 hy
                  | const v=>exact (zjl v).1
                  | global g=>exact zg0 hgl
                  | func f=>exact .fn f 0 0 0 [] [] [] .nil rfl
                obtain⟨hb6,hzs⟩:=zaw.1 hcond
                have hzs:=zaa.1 hzs
                have hb6:=zah.1 hb6
                rw[zaz] at hzs
                obtain⟨i,zv,hi,hzv,hzr,hc'⟩:=zeg hz
                obtain⟨h1,h2⟩:=(hzr φ).cells hc'
                obtain⟨ie,hie,he⟩:=Option.map_eq_some_iff.1 (show (P.info? e).map (·.size)=some sz from hs)
                rw[hi] at hie;cases hie
                obtain⟨ie,hie,he'⟩:=Option.map_eq_some_iff.1 (show (P.info? e).map (·.bytes)=some bt from hbt)
                rw[hi] at hie;cases hie
                have g3':=zah.1 g3;have g4':=zah.1 g4
                obtain⟨ea,l1,_⟩:=(hop l (by simp)).of_int (c:=3) (by omega) (zaa.1 g1)
                obtain⟨eb,l2,_⟩:=(hop m (by simp)).of_int (c:=3) (by omega) (zaa.1 g2)
                have v1:valI 3 ((getO P l).run T).p=(((getO P l).run T).p:Int):=zbs (by rw[zc5];omega)
                have v2:valI 3 ((getO P m).run T).p=(((getO P m).run T).p:Int):=zbs (by rw[zc5];omega)
                rw[v1] at ea
                rw[v2] at eb
                have hzsz:zv.cells.size=i.size:=by rw[h1.length] at hzs;rw[he];simpa using hzs
                have hm:=zdw hzsz ((getO P m).run T).p
                have hbytes:(i.bytes:Int) * (((getO P m).run T).p:Int)≤281474976710656:=by
                  have:i.bytes * ((getO P m).run T).p≤1000000 * 100000:=Nat.mul_le_mul (by omega) g4'
                  have h':((i.bytes * ((getO P m).run T).p:Nat):Int)≤281474976710656:=by omega
                  rwa [Int.natCast_mul] at h'
                have hrun:=run_make w t e i zv ht hi hzv .i64 .i64 (((getO P l).run T).p:Int) (((getO P m).run T).p:Int) (by omega) (by omega) hbytes (by omega)
                simp only[Int.toNat_natCast] at hrun
                refine⟨.cells (madeCells zv.cells (((getO P m).run T).p * i.size)) e,.slice (some ⟨w.heap.size,0,none⟩) ((getO P l).run T).p ((getO P m).run T).p,?_,⟨fun _=>⟨(madeCells zv.cells (((getO P m).run T).p * i.size)).toList,[],e,by simp,by rw[hm];exact h1.repC _,zdE h2 _,(fun h=>by cases h),(fun h=>by exact no21 h)⟩,fun h=>by simp[zbt] at h,fun h=>by simp[zbt] at h,no41⟩,fun φ' n h=>zer h g3' 0⟩
                have hrun':(Instr.makeSlice t (a.eval l) (a.eval m)).run P w=.ok (.slice (some ⟨w.heap.size,0,none⟩) ((getO P l).run T).p ((getO P m).run T).p) (w.alloc (.cells (madeCells zv.cells (((getO P m).run T).p * i.size)) e)):=by rw[ea,eb];exact hrun
                simp only[execOp,ho,Sem.run_bind,hrun',Result.andThen_ok,Sem.run_pure']
    · exact .inl ⟨12,fun _ _=>rfl⟩
  all_goals (simp only[zcO,ho] at hc;first | (cases hc;done) | (split at hc<;>cases hc))
def GdT(all:Array Oper)(o:Oper)(T:Fr):Prop:=match o.guard with
  | none=>True
  | some (j,want)=>∃ d,(all[j]?).bind (·.dst)=some d∧nbeq ((getB d).run T).tag 8=true∧nbeq ((getB d).run T).p (bi want 1 0)=true
theorem GdT.congr{all:Array Oper}{o:Oper}{T':Fr}(h:GdT all o T)(he:∀ t ∈ gdOf all o,(getB t).run T=(getB t).run T'):GdT all o T':=by
  unfold GdT at h ⊢
  unfold gdOf at he
  cases hg:o.guard with
  | none=>trivial
  | some jw =>
    obtain⟨j,want⟩:=jw
    rw[hg] at h he
    obtain⟨d,h1,h2,h3⟩:=h
    simp only[] at he
    rw[h1] at he
    have e:=he d (by simp)
    exact⟨d,h1,by rw[← e];exact h2,by rw[← e];exact h3⟩
theorem GdT.wanted{all:Array Oper}{o:Oper}(h:GdT all o T)(hok:okOf N all o=true)(hN:N≤a.tmps.size)(hv:∀ t ∈ gdOf all o,VR φ ((getB t).run T) (a.tmps.getD t undef)):Region.wanted o (yielded all a.tmps)=true:=by
  have hg1:allL (fun d=>nble (Nat.succ d) N) (gdOf all o)=true:=by
    unfold okOf at hok
    cases hb:allL (fun d=>nble (Nat.succ d) N) (gdOf all o)
    · rw[hb] at hok;cases hok
    · rfl
  unfold GdT at h
  cases hg:o.guard with
  | none=>simp only[Region.wanted,hg]
  | some jw =>
    obtain⟨j,want⟩:=jw
    rw[hg] at h
    obtain⟨d,h1,h2,h3⟩:=h
    have hgd:gdOf all o=[d]:=by simp only[gdOf,hg,h1]
    rw[hgd] at hg1 hv
    have hdN:d<N:=by
      have:bi (nble (Nat.succ d) N) true false=true:=hg1
      cases hb:nble (Nat.succ d) N
      · rw[hb] at this;cases this
      · exact zah.1 hb
    have hy:=zka (a:=a) h1 (Nat.lt_of_lt_of_le hdN hN)
    obtain⟨b,e,hp,_⟩:=(hv d (by simp)).of_bool (zaa.1 h2)
    rw[e] at hy
    simp only[Region.wanted,hg]
    rw[hy]
    rw[hp] at h3
    cases b<;>cases want<;>first | rfl | exact absurd h3 (by decide)
theorem zrt{all:Array Oper}{o:Oper}(hc:zcO o=1):(∃ n,∀ H c,(runG P all o).run r T H c=zab n) ∨ (∀ H c,(runG P all o).run r T H c=c H udV) ∨ ∃ (B:AB) (mk:Nat→AV),(∀ H c,(runG P all o).run r T H c=newC H B mk c)∧(GdT all o T∧B.kind=1) ∧
    ∀ (φ:Ph) (a:Act) (w:World),GL P φ→(∀ t ∈ zdb (opsC (opOf P o)),VR φ ((getB t).run T) (a.tmps.getD t undef)) →
      ∃ obj val,(execOp a.eval o).run P w=.ok (.value val) (w.alloc obj)∧BRel P φ w.heap.size B obj∧∀ (φ':Ph) n,φ' n=some w.heap.size→VR φ' (mk n) val:=by
  have hD:=zpC (P:=P) (r:=r) (T:=T) hc
  unfold runG GdT
  cases hg:o.guard with
  | none =>
    rcases hD with h | ⟨B,mk,h1,h2,h3⟩
    · exact .inl h
    · exact .inr (.inr ⟨B,mk,h1,⟨trivial,h2⟩,h3⟩)
  | some jw =>
    obtain⟨j,want⟩:=jw
    simp only[]
    cases hd:(all[j]?).bind (·.dst) with
    | none=>exact .inl ⟨40,fun _ _=>rfl⟩
    | some d =>
      simp only[]
      cases h8:nbeq ((getB d).run T).tag 8
      · cases h19:nbeq ((getB d).run T).tag 19
        · exact .inl ⟨40,fun _ _=>rfl⟩
        · exact .inr (.inl fun _ _=>rfl)
      · cases hw:nbeq ((getB d).run T).p (bi want 1 0)
        · exact .inr (.inl fun _ _=>rfl)
        · simp only[zag]
          rcases hD with h | ⟨B,mk,h1,h2,h3⟩
          · exact .inl h
          · exact .inr (.inr ⟨B,mk,h1,⟨⟨d,rfl,h8,hw⟩,h2⟩,h3⟩)
end Go.Eng
namespace Go.Eng
open Go.RowKit
theorem zh3(m i:Nat):zdj m i=m.testBit i:=by
  unfold zdj
  rw[Nat.testBit_eq_decide_div_mod_eq]
  have e1:Nat.shiftRight m i=m / 2 ^ i:=Nat.shiftRight_eq_div_pow m i
  have e2:Nat.land (m / 2 ^ i) 1=m / 2 ^ i % 2:=Nat.and_one_is_mod _
  rw[e1,e2]
  by_cases h:m / 2 ^ i % 2=1
  · rw[h];simp
  · rw[zam.2 h];simp[h]
theorem zlG{a b j:Nat}(h:subB a b=true)(ha:a.testBit j=true):b.testBit j=true:=by
  have e:a &&& b=a:=zaa.1 h
  rw[← e,Nat.testBit_and] at ha
  exact (Bool.and_eq_true_iff.1 ha).2
theorem zo4{b:Bool}:nb b=true ↔ b=false:=by cases b<;>simp[nb,bi]
theorem zf9{m i j:Nat}:(Nat.lor m (Nat.pow 2 i)).testBit j=true ↔ m.testBit j=true ∨ j=i:=by
  show (m ||| 2 ^ i).testBit j=true ↔ _
  rw[Nat.testBit_or,Bool.or_eq_true,Nat.testBit_two_pow,decide_eq_true_eq]
  exact or_congr Iff.rfl ⟨Eq.symm,Eq.symm⟩
theorem ziX{i j:Nat}:(Nat.pow 2 i).testBit j=true ↔ j=i:=by
  show (2 ^ i).testBit j=true ↔ _
  rw[Nat.testBit_two_pow,decide_eq_true_eq]
  exact⟨Eq.symm,Eq.symm⟩
theorem ztI{d:Nat}{l:List Nat}:memT d l=true ↔ d ∈ l:=by
  induction l with
  | nil=>simp[memT]
  | cons x l ih =>
    show bi (nbeq x d) true (memT d l)=true ↔ _
    rw[zbw,ih,zaa,List.mem_cons]
    exact or_congr ⟨Eq.symm,Eq.symm⟩ Iff.rfl
theorem zon{a b:Nat}(h:nbeq (Nat.land a b) 0=false):∃ j,a.testBit j=true∧b.testBit j=true:=by
  have h1:a &&& b ≠ 0:=zam.1 h
  obtain⟨j,hj⟩:=Nat.exists_testBit_of_ne_zero h1
  rw[Nat.testBit_and,Bool.and_eq_true] at hj
  exact⟨j,hj⟩
structure Topo(full:Nat)(l:List DI)(dn:Nat):Prop where
  apart:∀ b ∈ l,dn.testBit b.i=false
  nodup:∀ l1 b l2,l=l1++b::l2→∀ b' ∈ l1,b'.i ≠ b.i
  down:∀ l1 b l2,l=l1++b::l2→∀ j,b.dm.testBit j=true→dn.testBit j=true ∨ ∃ b' ∈ l1,b'.i=j
  full:∀ i,full.testBit i=true→dn.testBit i=true ∨ ∃ b ∈ l,b.i=i
  hang:∀ l1 h l2,l=l1++h::l2→h.cls=2→∀ b ∈ l2,∃ j,b.dm.testBit j=true∧∃ b' ∈ h::l2,b'.i=j
theorem zvM{full:Nat}(l:List DI):∀ (dn sn:Nat),zpq full l dn sn=true→Topo full l dn∧(sn ≠ 0→∀ b ∈ l,∃ j,b.dm.testBit j=true∧(sn.testBit j=true ∨ ∃ b' ∈ l,b'.i=j)):=by
  induction l with
  | nil =>
    intro dn sn h
    have h:subB full dn=true:=h
    refine⟨⟨fun b hb=>(by cases hb),fun l1 b l2 h=>?_,fun l1 b l2 h=>?_,fun i hi=>.inl (zlG h hi),fun l1 b l2 h=>?_⟩,fun _ b hb=>(by cases hb)⟩<;>simp at h
  | cons a l ih =>
    intro dn sn h
    have h:bi (zdj dn a.i) false (bi (subB a.dm dn) (bi (bi (nbeq sn 0) true (nb (nbeq (Nat.land a.dm sn) 0)))
      (zpq full l (Nat.lor dn (Nat.pow 2 a.i)) (bi (nbeq a.cls 2) (Nat.pow 2 a.i) (bi (nbeq sn 0) 0 (Nat.lor sn (Nat.pow 2 a.i))))) false) false)=true:=h
    cases h0:zdj dn a.i
    · rw[h0,zai] at h
      rw[zh3] at h0
      obtain⟨h1,h⟩:=zaw.1 h
      obtain⟨h2,h⟩:=zaw.1 h
      obtain⟨ht,hs⟩:=ih _ _ h
      have hsplit:∀ l1 b l2,a::l=l1++b::l2→(l1=[]∧a=b∧l=l2) ∨ ∃ l1',l1=a::l1'∧l=l1'++b::l2:=by
        intro l1 b l2 e
        cases l1 with
        | nil=>simp at e;exact .inl ⟨rfl,e.1,e.2⟩
        | cons x l1=>simp at e;exact .inr ⟨l1,by rw[e.1],e.2⟩
      have hap:∀ b ∈ l,dn.testBit b.i=false∧b.i ≠ a.i:=by
        intro b hb
        have h3:=ht.apart b hb
        refine⟨?_,fun e=>?_⟩
        · cases hd:dn.testBit b.i with
          | false=>rfl
          | true=>rw[zf9.2 (.inl hd)] at h3;cases h3
        · rw[zf9.2 (.inr e)] at h3;cases h3
      refine⟨⟨?_,?_,?_,?_,?_⟩,?_⟩
      · intro b hb
        cases hb with
        | head=>exact h0
        | tail _ hb=>exact (hap b hb).1
      · intro l1 b l2 e b' hb'
        rcases hsplit l1 b l2 e with⟨rfl,_⟩ | ⟨l1',rfl,e'⟩
        · cases hb'
        · cases hb' with
          | head=>exact fun e2=>(hap b (by rw[e'];simp)).2 e2.symm
          | tail _ hb'=>exact ht.nodup l1' b l2 e' b' hb'
      · intro l1 b l2 e j hj
        rcases hsplit l1 b l2 e with⟨rfl,rfl,_⟩ | ⟨l1',rfl,e'⟩
        · exact .inl (zlG h1 hj)
        · rcases ht.down l1' b l2 e' j hj with h3 | ⟨b',hb',e3⟩
          · rcases zf9.1 h3 with h4 | h4
            · exact .inl h4
            · exact .inr ⟨a,by simp,h4.symm⟩
          · exact .inr ⟨b',by simp[hb'],e3⟩
      · intro i hi
        rcases ht.full i hi with h3 | ⟨b,hb,e⟩
        · rcases zf9.1 h3 with h4 | h4
          · exact .inl h4
          · exact .inr ⟨a,by simp,h4.symm⟩
        · exact .inr ⟨b,by simp[hb],e⟩
      · intro l1 hh l2 e hc b hb
        rcases hsplit l1 hh l2 e with⟨rfl,rfl,rfl⟩ | ⟨l1',rfl,e'⟩
        · rw[zaa.2 hc,zag] at hs
          have hne:Nat.pow 2 a.i ≠ 0:=fun e0=>by
            have:=ziX (i:=a.i) (j:=a.i)
            rw[e0] at this
            simp at this
          obtain⟨j,h3,h4⟩:=hs hne b hb
          refine⟨j,h3,?_⟩
          rcases h4 with h4 | ⟨b',hb',e4⟩
          · exact⟨a,by simp,(ziX.1 h4).symm⟩
          · exact⟨b',by simp[hb'],e4⟩
        · exact ht.hang l1' hh l2 e' hc b hb
      · intro hsn b hb
        cases hb with
        | head =>
          rw[zam.2 hsn,zai,zo4] at h2
          obtain⟨j,h3,h4⟩:=zon h2
          exact⟨j,h3,.inl h4⟩
        | tail _ hb =>
          have hne:bi (nbeq a.cls 2) (Nat.pow 2 a.i) (bi (nbeq sn 0) 0 (Nat.lor sn (Nat.pow 2 a.i))) ≠ 0:=by
            intro e0
            cases hc:nbeq a.cls 2
            · rw[hc,zai,zam.2 hsn,zai] at e0
              have:=zf9 (m:=sn) (i:=a.i) (j:=a.i)
              rw[e0] at this
              simp at this
            · rw[hc,zag] at e0
              have:=ziX (i:=a.i) (j:=a.i)
              rw[e0] at this
              simp at this
          obtain⟨j,h3,h4⟩:=hs hne b hb
          refine⟨j,h3,?_⟩
          rcases h4 with h4 | ⟨b',hb',e4⟩
          · cases hc:nbeq a.cls 2
            · rw[hc,zai,zam.2 hsn,zai] at h4
              rcases zf9.1 h4 with h5 | h5
              · exact .inl h5
              · exact .inr ⟨a,by simp,h5.symm⟩
            · rw[hc,zag] at h4
              exact .inr ⟨a,by simp,(ziX.1 h4).symm⟩
          · exact .inr ⟨b',by simp[hb'],e4⟩
    · rw[h0] at h;cases h
theorem ziY{a b:DI}(h:zm1 a b=true)(hd:a.d ≠ 512) :
    (a.d ∈ b.rd→b.dm.testBit a.i=true ∨ (a.cls=2∧(a.dm.testBit b.i=true ∨ a.i=b.i)))∧(a.i ≠ b.i→a.d ≠ b.d):=by
  unfold zm1 at h
  rw[zam.2 hd,zai] at h
  obtain⟨h1,h2⟩:=zaw.1 h
  refine⟨fun hm=>?_,fun hne e=>?_⟩
  · rw[ztI.2 hm,zag,zbw,zh3] at h1
    rcases h1 with h1 | h1
    · exact .inl h1
    · obtain⟨h3,h4⟩:=zaw.1 h1
      rw[zbw,zh3,zaa] at h4
      exact .inr ⟨zaa.1 h3,h4⟩
  · rw[zam.2 hne,zai,zo4,zam] at h2
    exact h2 e
theorem zfL{l:List Edge}{j:Nat}:(dmOf l).testBit j=true ↔ ∃ e ∈ l,Region.binds .any e=true∧e.on=j:=by
  induction l with
  | nil=>simp[dmOf]
  | cons e l ih =>
    unfold dmOf
    cases hb:Region.binds .any e
    · rw[zai,ih]
      simp[hb]
    · rw[zag]
      show (2 ^ e.on ||| dmOf l).testBit j=true ↔ _
      rw[Nat.testBit_or,Bool.or_eq_true,Nat.testBit_two_pow,ih]
      simp[hb]
theorem zo5{S:Nat→Prop}(l:List DI)(hcl:∀ b ∈ l,S b.i→∀ j,b.dm.testBit j=true→S j):∀ E,(∀ j,E.testBit j=true→S j)→∀ b ∈ l,b.cls=0→¬ S b.i→b ∈ chk l E:=by
  induction l with
  | nil=>intro E _ b hb;cases hb
  | cons a l ih =>
    intro E hE b hb hc hn
    have ih:=ih (fun b hb=>hcl b (List.mem_cons_of_mem _ hb))
    show b ∈ bi (zdj E a.i) (chk l (Nat.lor E a.dm)) (bi (nbeq a.cls 0) (a::chk l E) (chk l E))
    cases ht:zdj E a.i
    · rw[zai]
      cases hb with
      | head=>rw[zaa.2 hc];exact List.mem_cons_self
      | tail _ hb =>
        have:=ih E hE b hb hc hn
        cases nbeq a.cls 0
        · exact this
        · exact List.mem_cons_of_mem _ this
    · rw[zag]
      have hS:=hE _ (by rw[← zh3];exact ht)
      cases hb with
      | head=>exact absurd hS hn
      | tail _ hb =>
        refine ih _ (fun j hj=>?_) b hb hc hn
        have hj:(E ||| a.dm).testBit j=true:=hj
        rw[Nat.testBit_or,Bool.or_eq_true] at hj
        rcases hj with hj | hj
        · exact hE j hj
        · exact hcl a List.mem_cons_self hS j hj
theorem zkZ{l:List DI}:∀ {E:Nat},∀ b ∈ chk l E,b ∈ l∧b.cls=0:=by
  induction l with
  | nil=>intro E b hb;cases hb
  | cons a l ih =>
    intro E b hb
    have hb:b ∈ bi (zdj E a.i) (chk l (Nat.lor E a.dm)) (bi (nbeq a.cls 0) (a::chk l E) (chk l E)):=hb
    cases ht:zdj E a.i
    · rw[ht,zai] at hb
      cases hc:nbeq a.cls 0
      · rw[hc] at hb
        exact⟨List.mem_cons_of_mem _ (ih b hb).1,(ih b hb).2⟩
      · rw[hc,zag] at hb
        cases hb with
        | head=>exact⟨List.mem_cons_self,zaa.1 hc⟩
        | tail _ hb=>exact⟨List.mem_cons_of_mem _ (ih b hb).1,(ih b hb).2⟩
    · rw[ht,zag] at hb
      exact⟨List.mem_cons_of_mem _ (ih b hb).1,(ih b hb).2⟩
section sched
variable {P:Program} {N:Nat} {all:Array Oper}
theorem zik{c dn:Nat}{l:List DI}{a:DI}(h:zfu c dn l=some a):a ∈ l:=by
  induction l with
  | nil=>cases h
  | cons b l ih =>
    have h:bi (nbeq b.cls c) (bi (zdj dn b.i) (zfu c dn l) (bi (subB b.dm dn) (some b) (zfu c dn l))) (zfu c dn l)=some a:=h
    cases h1:nbeq b.cls c
    · rw[h1] at h;exact List.mem_cons_of_mem _ (ih h)
    · rw[h1,zag] at h
      cases h2:zdj dn b.i
      · rw[h2,zai] at h
        cases h3:subB b.dm dn
        · rw[h3] at h;exact List.mem_cons_of_mem _ (ih h)
        · rw[h3] at h;cases h;exact List.mem_cons_self
      · rw[h2] at h;exact List.mem_cons_of_mem _ (ih h)
theorem zru{dn:Nat}{l:List DI}{a:DI}(h:zjS dn l=some a):a ∈ l:=by
  unfold zjS at h
  cases h1:zfu 1 dn l with
  | some x=>rw[h1] at h;cases h;exact zik h1
  | none =>
    rw[h1,zfD] at h
    cases h2:zfu 0 dn l with
    | some x=>rw[h2] at h;cases h;exact zik h2
    | none=>rw[h2,zfD] at h;exact zik h
theorem zrv{l:List DI}(fuel:Nat):∀ dn,∀ a ∈ zew fuel l dn,a ∈ l:=by
  induction fuel with
  | zero=>intro dn a ha;cases ha
  | succ n ih =>
    intro dn a ha
    have ha:a ∈ om (zjS dn l) [] fun a=>a::zew n l (Nat.lor dn (Nat.pow 2 a.i)):=ha
    cases h:zjS dn l with
    | none=>rw[h] at ha;cases ha
    | some b =>
      rw[h,zan] at ha
      cases ha with
      | head=>exact zru h
      | tail _ ha=>exact ih _ a ha
theorem zrw{l:List Oper}:∀ {i:Nat},∀ a ∈ zft P N all i l,∃ o,l[a.i - i]?=some o∧i≤a.i∧a=diOf P N all a.i o:=by
  induction l with
  | nil=>intro i a ha;cases ha
  | cons o l ih =>
    intro i a ha
    cases ha with
    | head=>exact⟨o,by simp[diOf],Nat.le_refl _,rfl⟩
    | tail _ ha =>
      obtain⟨o',h1,h2,h3⟩:=ih a ha
      refine⟨o',?_,by omega,h3⟩
      have:a.i - i=(a.i - Nat.succ i)+1:=by omega
      rw[this];simpa using h1
structure OrdOk(P:Program)(N:Nat)(all:Array Oper)(ord:List DI):Prop where
  mem:∀ b ∈ ord,∃ o,all[b.i]?=some o∧b=diOf P N all b.i o
  topo:Topo (Nat.pred (Nat.pow 2 all.size)) ord 0
  ok:∀ b ∈ ord,b.ok=true
  pair:∀ a ∈ ord,∀ b ∈ ord,zm1 a b=true
theorem zy2(h:okD all.size (zew all.size (zft P N all 0 all.toList) 0)=true):OrdOk P N all (zew all.size (zft P N all 0 all.toList) 0):=by
  unfold okD at h
  obtain⟨h1,h⟩:=zaw.1 h
  obtain⟨h2,h3⟩:=zaw.1 h
  rw[zcH,List.all_eq_true] at h2 h3
  refine⟨fun b hb=>?_,(zvM _ _ _ h1).1,fun b hb=>(zaw.1 (h2 b hb)).1,fun a ha b hb=>?_⟩
  · obtain⟨o,e1,_,e2⟩:=zrw b (zrv _ _ b hb)
    exact⟨o,by simpa using e1,e2⟩
  · have:=h3 a ha
    rw[zcH,List.all_eq_true] at this
    exact this b hb
end sched
end Go.Eng
