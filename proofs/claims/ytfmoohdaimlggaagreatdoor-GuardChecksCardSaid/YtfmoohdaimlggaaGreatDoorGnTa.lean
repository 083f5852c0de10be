/- A part of the proof that the evaluator in GnC, and the driver in GnZ, answer as the model does; no conditions. -/
import Derived.Test.YtfmoohdaimlggaaGreatDoorGnZb
import Derived.DataReads
import Derived.DataElems
import GoSem.ClaimJoined
import Derived.LaidLaws
import Derived.ChangeBears
import Derived.ChangeBears2
namespace Go.Eng
noncomputable section
def i64(x:Nat):AV:=⟨3,x,0,0,0,[]⟩
def u64(x:Nat):AV:=⟨7,x,0,0,0,[]⟩
def slP(p r:Nat)(cs:List AV):AV:=⟨24,p,0,r,0,cs⟩
def lsD(p:Nat)(cs:List AV):AV:=⟨16,p,0,0,0,cs⟩
def bxD(cs:List AV):AV:=⟨16,0,0,1,0,cs⟩
def ztf(p:List Nat):List Nat→Bool:=List.rec (motive:=fun _=>List Nat→Bool) (fun q=>List.rec (motive:=fun _=>Bool) true (fun _ _ _=>false) q) (fun a _ ih q=>List.rec (motive:=fun _=>Bool) false (fun b q _=>bi (nbeq a b) (ih q) false) q) p
def labT(l:List (List Nat × List (Nat × Nat))):Lab:=fun q=>List.rec (motive:=fun _=>Option (List (Nat × Nat))) none (fun x _ ih=>bi (ztf x.1 q) (some x.2) ih) l
def zad(f:Func):Code:=match f.body with | some c=>c | none=>.skip
def ntL(l:List (Nat × Native))(f:Nat):Option Native:=List.rec (motive:=fun _=>Option Native) none (fun x _ ih=>bi (nbeq x.1 f) (some x.2) ih) l
end
variable {P:Program}
theorem zcK:zdO P (ntL []):=⟨fun f g _ h=>(by cases h),fun f g h=>(by cases h)⟩
theorem zg5{k:Nat}{g:Native}{l:List (Nat × Native)}(hk:zdZ P k g)(h:zdO P (ntL l))(hk2:k<1000:=by decide):zdO P (ntL ((k,g)::l)):=by
  refine⟨fun f g' hf hg=>?_,fun f g' hg=>?_⟩
  · have hg':bi (nbeq k f) (some g) (ntL l f)=some g':=hg
    cases hb:nbeq k f
    · rw[hb,zai] at hg';exact h.1 f g' hf hg'
    · rw[hb,zag] at hg'
      cases hg'
      rw[← zaa.1 hb]
      exact hk
  · have hg':bi (nbeq k (f+1000)) (some g) (ntL l (f+1000))=some g':=hg
    rw[zam.2 (show k ≠ f+1000 by omega),zai] at hg'
    exact h.2 f g' hg'
theorem zat{k:Nat}{ts:List TypeId}{V:List AV→AV}{l:List (Nat × Native)}(h:zdO P (ntL l))(hk2:k<1000:=by decide):zdO P (ntL ((k,natP P k ts V)::l)):=zg5 (zy0 k ts V) h hk2
theorem zmf{k:Nat}{g:Native}{l:List (Nat × Native)}(hk:zji P k g)(h:zdO P (ntL l)):zdO P (ntL ((k+1000,g)::l)):=by
  refine⟨fun f g' hf hg=>?_,fun f g' hg=>?_⟩
  · have hg':bi (nbeq (k+1000) f) (some g) (ntL l f)=some g':=hg
    rw[zam.2 (show k+1000 ≠ f by omega),zai] at hg'
    exact h.1 f g' hf hg'
  · have hg':bi (nbeq (k+1000) (f+1000)) (some g) (ntL l (f+1000))=some g':=hg
    cases hb:nbeq (k+1000) (f+1000)
    · rw[hb,zai] at hg';exact h.2 f g' hg'
    · rw[hb,zag] at hg'
      cases hg'
      have:=zaa.1 hb
      rw[show f=k by omega]
      exact hk
theorem z0H{α:Type}{p:Prop}(h:p)(a b:α):bi (nbeq (okN p) 1) a b=a:=by
  rw[zak.2 h];rfl
theorem zao{α:Type}(c:Bool)(a b:α):bi (nbeq (bi c 1 0) 1) a b=bi c a b:=by cases c<;>rfl
theorem zal{N:Nat}{lab:Lab}{Hb:Hp}{r:Rec}{fin:BR}{top:Code}(n:Nat)(q:List Nat)(ds:List AV):jmpN P N lab Hb r fin top (n+1) q ds=lblY P N lab Hb r fin top (jmpN P N lab Hb r fin top n) q ds:=rfl
theorem zbC{a b:Nat}(ha:a<2 ^ 63)(hb:b<2 ^ 63):nble (biased 3 a) (biased 3 b)=decide (a≤b):=by
  have u:∀ x,biased 3 x=(x+2 ^ 63) % 2 ^ 64:=fun x=>zbI _ x
  rw[Bool.eq_iff_iff,zah,u,u,decide_eq_true_eq,Nat.mod_eq_of_lt (by omega),Nat.mod_eq_of_lt (by omega)]
  omega
theorem zca{α:Type}(f:α→AV)(X:List α)(i:Nat)(h:i<X.length):nthL (X.map f) i=f X[i]:=by
  rw[zcG]
  simp[h]
theorem zau{α:Type}(f:α→AV)(X:List α):lenL (X.map f)=X.length:=by rw[zaz,List.length_map]
theorem zaE(n:Nat):(⟨3,n,0,0,0,[]⟩:AV)=i64 n:=rfl
theorem nb_t:nb true=false:=rfl
theorem nb_f:nb false=true:=rfl
theorem zeO{i:Nat}(h:i<2 ^ 63):gt2 (fun a b=>(a.add b).mod (kMod (zap IntKind.i64))) i 1=i+1:=by
  rw[zbD]
  have h64:kMod 3=2 ^ 64:=rfl
  show (i+1) % kMod 3=i+1
  rw[h64]
  exact Nat.mod_eq_of_lt (by show i+1<2 ^ 64;omega)
theorem zae{α:Type}(x y:α):bi true x y=x:=(Eq.refl (bi true x y)).trans rfl
theorem zaj{α:Type}(x y:α):bi false x y=y:=(Eq.refl (bi false x y)).trans rfl
theorem n11:nbeq 1 1=true:=rfl
theorem n01:nbeq 0 1=false:=rfl
theorem zf1(p:Nat)(cs:List AV):(⟨16,p,0,0,0,cs⟩:AV)=lsD p cs:=rfl
theorem zd1(cs:List AV):(⟨16,0,0,1,0,cs⟩:AV)=bxD cs:=rfl
theorem zbe(p r:Nat)(cs:List AV):(⟨24,p,0,r,0,cs⟩:AV)=slP p r cs:=rfl
theorem ze6(l:List AV):za4 (lenL l) l=l:=by rw[zbv,zaz,List.take_length]
theorem zkG(l:List AV)(x:AV):za4 ((lenL l).add 1) (appL l [x])=l++[x]:=by
  rw[zbv,zaz,zaV]
  exact List.take_of_length_le (by rw[List.length_append];exact Nat.le_refl _)
theorem ztg{α:Type}(f:α→AV)(X:List α)(i:Nat)(h:i<X.length):(X.take i).map f++[f X[i]]=(X.take (i+1)).map f:=by
  rw[List.take_succ_eq_append_getElem h,List.map_append];rfl
theorem znM{n:Nat}(h:n≤1000):nble (n.add 1) 100000=true:=zah.2 (by show n+1≤100000;omega)
theorem zaF(hm:P.follows .mixedOrders=true)(hG:P.globals.size≤32767){f:Nat}{fn:Func}{c:Code}{N:Nat}{rs:List ResultVar}(hf:P.funcs[f]?=some fn)(hbd:fn.body=some c)(hN:fn.ntmps=N)(hrs:fn.results.toList=rs){r:Rec}(hrec:zaU P r)(lab:Lab)(ts:List TypeId)(n:Nat){args:List AV}{v0:AV}
    (h:(zaB P N lab (finY P rs ts) (jmpN P N lab (zaf P) r (finY P rs ts) c n) [] c (finY P rs ts) []).run r (zar 0 args noFr) (zaf P)=ansY v0):zac P f args v0:=by
  subst hN hrs
  exact zy1 hm hf hbd hG hrec h
end Go.Eng
namespace Go.Eng
open Go.RowKit
noncomputable def allZ(W:World):Nat→Option (List Value):=fun x=>match W.heap[x]? with | some (.cells C _ _)=>some C.toList | _=>none
theorem zth(W:World):zd4 (allZ W) W:=by
  intro x C h
  unfold allZ at h
  split at h
  · rename_i C' t fr e;cases h;exact⟨t,fr,by simpa using e⟩
  · cases h
theorem zmg{W:World}{x:Nat}{C:Array Value}{t:TypeId}{fr:Nat × Nat}(h:W.heap[x]?=some (.cells C t fr)):allZ W x=some C.toList:=by
  unfold allZ;rw[h]
theorem zjo{α β:Type}{f:α→Option β}:∀ {l:List α} {r:List β},l.mapM f=some r→∀ (i:Nat) (a:α),l[i]?=some a→∃ b,f a=some b∧r[i]?=some b:=by
  intro l
  induction l with
  | nil=>intro r _ i a h;simp at h
  | cons x l ih =>
    intro r h i a hi
    simp only[List.mapM_cons,Option.bind_eq_bind,Option.pure_def] at h
    obtain⟨y,hy,h⟩:=Option.bind_eq_some_iff.1 h
    obtain⟨ys,hys,h⟩:=Option.bind_eq_some_iff.1 h
    cases h
    cases i with
    | zero=>simp at hi;subst hi;exact⟨y,hy,by simp⟩
    | succ i=>simpa using ih hys i a (by simpa using hi)
variable {P:Program}
def Rdb(P:Program)(t:TypeId)(R:List AV→Prop):Prop:=∀ (X:Type) (enc:TypeId × Value→X) (W:World) (spare:Nat→Bool) (held:Bool) (fuel:Nat) (cs:List Value) (x:DataW X × List MemPlace),DataW.trod enc P W 0 spare held fuel t cs=some x→(x.1.weights P t).all (·≤reachBytes)=true→∃ as,R as∧FZs (allZ W) as cs
theorem zhm{X:Type}:∀ {ts:List TypeId} {ds:List (DataW X)},(DataW.weightsEach P ts ds).all (·≤reachBytes)=true→∀ (i:Nat) (t:TypeId) (d:DataW X),ts[i]?=some t→ds[i]?=some d→(d.weights P t).all (·≤reachBytes)=true:=by
  intro ts
  induction ts with
  | nil=>intro ds _ i t d h;simp at h
  | cons t ts ih =>
    intro ds h i t' d' ht hd
    cases ds with
    | nil=>simp at hd
    | cons d ds =>
      rw[DataW.weightsEach,List.all_append,Bool.and_eq_true] at h
      cases i with
      | zero=>simp at ht hd;subst ht hd;exact h.1
      | succ i=>exact ih h.2 i t' d' (by simpa using ht) (by simpa using hd)
theorem zti{X:Type}{e:TypeId}:∀ {ds:List (DataW X)},(DataW.weightsAll P e ds).all (·≤reachBytes)=true→∀ (i:Nat) (d:DataW X),ds[i]?=some d→(d.weights P e).all (·≤reachBytes)=true:=by
  intro ds
  induction ds with
  | nil=>intro _ i d h;simp at h
  | cons d ds ih =>
    intro h i d' hd
    rw[DataW.weightsAll,List.all_append,Bool.and_eq_true] at h
    cases i with
    | zero=>simp at hd;subst hd;exact h.1
    | succ i=>exact ih h.2 i d' (by simpa using hd)
theorem Rdb.weaken{t:TypeId}{R R':List AV→Prop}(h:Rdb P t R)(hR:∀ as,R as→R' as):Rdb P t R':=by
  intro X enc W spare held fuel cs x hx hw
  obtain⟨as,h1,h2⟩:=h X enc W spare held fuel cs x hx hw
  exact⟨as,hR as h1,h2⟩
theorem zmh{c:Nat}(hc:c<8)(n:Int)(h1:(kOf c).min≤n)(h2:n≤(kOf c).max):(kOf c).wrap n=n:=by
  rcases (by omega:c=0 ∨ c=1 ∨ c=2 ∨ c=3 ∨ c=4 ∨ c=5 ∨ c=6 ∨ c=7) with rfl | rfl | rfl | rfl | rfl | rfl | rfl | rfl <;>
    simp only[kOf,IntKind.min,IntKind.max,IntKind.wrap,IntKind.bits,IntKind.signed] at h1 h2 ⊢<;>simp at h1 h2 ⊢<;>omega
theorem znN{t:TypeId}(c:Nat)(hc:c<8)(ht:P.underlying t=some (.int (kOf c))):Rdb P t (fun as=>∃ p,p<kMod c∧as=[mk1 c p]):=by
  intro X enc W spare held fuel cs x h hwt
  have hv:∃ v,cs=[v]:=by
    cases fuel with
    | zero=>cases h
    | succ n =>
      simp only[DataW.trod,ht] at h
      split at h<;>rename_i h1 h2<;>first | (cases h;done) | (simp at h1;done) | (simp at h2;done) | exact⟨_,rfl⟩
  obtain⟨v,rfl⟩:=hv
  cases fuel with
  | zero=>cases h
  | succ n =>
    simp only[DataW.trod,ht] at h
    split at h<;>rename_i h1 h2<;>first | (cases h;done) | (simp at h1;done) | (simp at h2;done) | skip
    rename_i k1 k2 m
    simp only[Option.some.injEq,TypeDesc.int.injEq,List.cons.injEq,and_true] at h1 h2
    subst h2
    split at h
    · rename_i hcnd
      obtain⟨hk2,hw⟩:=hcnd
      subst hk2
      subst h1
      simp only[Lit.wf,Bool.and_eq_true,decide_eq_true_eq] at hw
      have hpos:(0:Int)<(kMod c:Int):=by
        have:0<kMod c:=by rcases (by omega:c=0 ∨ c=1 ∨ c=2 ∨ c=3 ∨ c=4 ∨ c=5 ∨ c=6 ∨ c=7) with rfl | rfl | rfl | rfl | rfl | rfl | rfl | rfl<;>decide +kernel
        exact_mod_cast this
      have e1:=zmh hc m hw.1 hw.2
      rw[zj6 hc] at e1
      have hlt:=Int.emod_lt_of_pos m hpos
      have hnn:=Int.emod_nonneg m (by omega:(kMod c:Int) ≠ 0)
      refine⟨[mk1 c (m % (kMod c:Int)).toNat],⟨_,by omega,rfl⟩,.cons ?_ .nil⟩
      have:=FZ.int (z:=allZ W) c (m % (kMod c:Int)).toNat 0 0 [] hc (by omega)
      rw[e1] at this
      exact this
    · cases h
inductive FitF(P:Program):List Field→Nat→List (List AV→Prop)→Nat→Prop
  | nil (o:Nat):FitF P [] o [] o
  | cons {f:Field} {l:List Field} {o m:Nat} {R:List AV→Prop} {Rs:List (List AV→Prop)} (c:Nat):f.offset=o→P.cellsOf f.type=c→Rdb P f.type R→FitF P l (o+c) Rs m→FitF P (f::l) o (R::Rs) m
inductive Cat:List (List AV→Prop)→List AV→Prop
  | nil:Cat [] []
  | cons {R:List AV→Prop} {Rs:List (List AV→Prop)} {a as:List AV}:R a→Cat Rs as→Cat (R::Rs) (a++as)
theorem FitF.go{X:Type}{enc:TypeId × Value→X}{W:World}{spare:Nat→Bool}{held:Bool}{fuel:Nat}{l:List Field}{o m:Nat}{Rs:List (List AV→Prop)}(h:FitF P l o Rs m):∀ {cs:List Value},cs.length=m→(∀ (i:Nat) (f:Field),l[i]?=some f→∃ x,DataW.trod enc P W 0 spare held fuel f.type ((cs.drop f.offset).take (P.cellsOf f.type))=some x∧(x.1.weights P f.type).all (·≤reachBytes)=true)→∃ as,Cat Rs as∧FZs (allZ W) as (cs.drop o):=by
  induction h with
  | nil o=>intro cs hl _;exact⟨[],.nil,by rw[List.drop_of_length_le (by omega)];exact .nil⟩
  | cons c ho hc hR _ ih =>
    intro cs hl hall
    obtain⟨x,hx,hxw⟩:=hall 0 _ rfl
    obtain⟨a,ha,hz⟩:=hR X enc W spare held fuel _ x hx hxw
    obtain⟨as,has,hzs⟩:=ih hl fun i f hf=>hall (i+1) f (by simpa using hf)
    refine⟨a++as,.cons ha has,?_⟩
    have:=hz.append hzs
    rw[ho,hc] at this
    rw[← List.drop_drop] at this
    rw[List.take_append_drop] at this
    exact this
theorem zmi{t:TypeId}{fs:Array Field}{Rs:List (List AV→Prop)}(ht:P.underlying t=some (.struct fs))(n:Nat)(hn:P.cellsOf t=n)(hf:FitF P fs.toList 0 Rs n):Rdb P t (Cat Rs):=by
  intro X enc W spare held fuel cs x h hwt
  cases fuel with
  | zero=>cases h
  | succ m =>
    simp only[DataW.trod,ht] at h
    split at h
    · rename_i hc
      obtain⟨xs,h2,h3⟩:=Option.map_eq_some_iff.1 h
      subst h3
      simp only[DataW.weights,ht] at hwt
      have:=hf.go (enc:=enc) (W:=W) (spare:=spare) (held:=held) (fuel:=m) (cs:=cs) (by omega) fun i f hi=>by
        obtain⟨b,hb,hb2⟩:=zjo h2 i f hi
        exact⟨b,hb,zhm hwt i f.type b.1 (by rw[List.getElem?_map,hi];rfl) (by rw[List.getElem?_map,hb2];rfl)⟩
      simpa using this
    · cases h
def ziE(R:List AV→Prop)(agg:Bool)(r:Nat)(as:List AV):Prop:=∃ p es,as=[⟨24,p,0,r,0,es⟩]∧p≤1∧(p=0→es=[])∧es.length≤reachBytes∧∀ x ∈ es,∃ bs,R bs∧x=zbE agg bs
theorem zhR{w:World}{a:Addr}{v:Value}(h:w.cell? a=some v):∃ C t fr,w.heap[a.block]?=some (.cells C t fr)∧C[a.off]?=some v∧a.spot=none:=by
  have hs:=World.cell?_spot h
  unfold World.cell? at h
  split at h
  · rename_i C t fr e
    rw[hs] at h
    exact⟨C,t,fr,e,by simpa using h,hs⟩
  · cases h
theorem zpc{z:Nat→Option (List Value)}{agg:Bool}{r:Nat}{bs:List AV}{vs:List Value}(hz:FZs z bs vs)(hl:vs.length=r)(ha:agg=false→r=1):zaO (zbE agg bs)=true∧cellsOf (zbE agg bs)=bs:=by
  cases agg with
  | true=>exact⟨rfl,rfl⟩
  | false =>
    have h1:=ha rfl
    have h2:=hz.length
    obtain⟨b,rfl⟩:=List.length_eq_one_iff.1 (h2.trans (hl.trans h1))
    cases hz with
    | cons g _=>exact zt4 g g.one
theorem zuE{t e:TypeId}{R:List AV→Prop}(ht:P.underlying t=some (.slice e))(hby:0<P.bytesOf e)(r:Nat)(hr:P.cellsOf e=r)(h0:0<r)(agg:Bool)(ha:agg=false→r=1)(hR:Rdb P e R):Rdb P t (ziE R agg r):=by
  intro X enc W spare held fuel cs x h hwt
  have hv:∃ v,cs=[v]:=by
    cases fuel with
    | zero=>cases h
    | succ n =>
      simp only[DataW.trod,ht] at h
      split at h<;>rename_i h1 h2<;>first | (cases h;done) | (simp at h1;done) | (simp at h2;done) | exact⟨_,rfl⟩
  obtain⟨v,rfl⟩:=hv
  rcases zhO ht h with rfl | ⟨a,len,cap,n,elems,rfl,rfl,hcap,hel⟩
  · exact⟨[⟨24,0,0,r,0,[]⟩],⟨0,[],rfl,by omega,fun _=>rfl,Nat.zero_le _,fun x hx=>by cases hx⟩,.cons (.nils 0 r 0) .nil⟩
  have hmax:maxLen=9223372036854775807:=by decide +kernel
  rw[hr] at hel
  have hd:∃ spare',x.1=.slice (elems.map (·.1)) spare':=by
    simp only[DataW.trod,ht] at h
    split at h
    · obtain⟨elems',he',h⟩:=Option.bind_eq_some_iff.1 h
      rw[hr,hel] at he'
      cases he'
      obtain⟨rest,_,h⟩:=Option.map_eq_some_iff.1 h
      cases h
      exact⟨_,rfl⟩
    · cases h
  obtain⟨spare',hd⟩:=hd
  rw[hd] at hwt
  simp only[DataW.weights,ht,List.all_cons,Bool.and_eq_true,List.all_append,decide_eq_true_eq] at hwt
  have hlenE:elems.length=len:=by
    have:=mapM_some_length hel
    simpa using this
  have hreach:len≤reachBytes:=by
    have h1:=hwt.1
    rw[List.length_map,hlenE] at h1
    have h2:len+spare'.length≤(len+spare'.length) * P.bytesOf e:=Nat.le_mul_of_pos_right _ hby
    omega
  rcases Nat.eq_zero_or_pos len with rfl | hlen
  · exact⟨[⟨24,1,0,r,0,[]⟩],⟨1,[],rfl,by omega,(fun h=>by cases h),(Nat.zero_le _),(fun x hx=>by cases hx)⟩,.cons (.empty 0 r a cap) .nil⟩
  have key:∀ i,i<len→∃ as vs,R as∧FZs (allZ W) as vs∧vs.length=r∧∀ j,j<r→W.cell? ((a.add (i * r)).add j)=vs[j]?:=by
    intro i hi
    obtain⟨y,hy,hy2⟩:=zjo hel i i (by simp[hi])
    obtain⟨vs,hvs,hy⟩:=Option.bind_eq_some_iff.1 hy
    obtain⟨as,h1,h2⟩:=hR X enc W spare held n vs y hy (zti hwt.2.1 i y.1 (by rw[List.getElem?_map,hy2];rfl))
    obtain⟨_,g1,g2⟩:=World.cells?_some hvs
    exact⟨as,vs,h1,h2,g1,g2⟩
  obtain⟨_,vs0,_,_,l0,c0⟩:=key 0 hlen
  have c00:=c0 0 h0
  have e00:(a.add (0 * r)).add 0=a:=by simp[Addr.add]
  rw[e00,List.getElem?_eq_getElem (by omega)] at c00
  obtain⟨C,tt,fr,hC,_,hs⟩:=zhR c00
  have hz:=zmg hC
  have hat:∀ i,i<len→∃ as vs,R as∧FZs (allZ W) as vs∧vs.length=r∧∀ j,j<r→C[a.off+i * r+j]?=vs[j]?:=by
    intro i hi
    obtain⟨as,vs,h1,h2,h3,h4⟩:=key i hi
    refine⟨as,vs,h1,h2,h3,fun j hj=>?_⟩
    have h5:=h4 j hj
    have hb:((a.add (i * r)).add j).block=a.block∧((a.add (i * r)).add j).off=a.off+i * r+j:=by
      unfold Addr.add
      split<;>split<;>simp_all
    rw[List.getElem?_eq_getElem (by omega)] at h5 ⊢
    obtain⟨C',_,_,hC',hc',_⟩:=zhR h5
    rw[hb.1,hC] at hC'
    cases hC'
    rw[hb.2] at hc'
    exact hc'
  have hind:∀ m,m≤len→∃ es:List AV,es.length=m∧(∀ x ∈ es,∃ bs,R bs∧x=zbE agg bs)∧(∀ c ∈ es,zaO c=true∧(cellsOf c).length=r)∧FZs (allZ W) (zba es) ((C.toList.drop a.off).take (m * r))∧((C.toList.drop a.off).take (m * r)).length=m * r:=by
    intro m
    induction m with
    | zero=>intro _;exact⟨[],rfl,(fun x hx=>by cases hx),(fun x hx=>by cases hx),by simp;exact .nil,by simp⟩
    | succ m ih =>
      intro hm
      obtain⟨es,h1,h2,h3,h4,h5⟩:=ih (by omega)
      obtain⟨as,vs,g1,g2,g3,g4⟩:=hat m (by omega)
      obtain⟨k1,k2⟩:=zpc (agg:=agg) (r:=r) g2 g3 ha
      have hvs:((C.toList.drop a.off).drop (m * r)).take r=vs:=by
        apply List.ext_getElem?
        intro j
        by_cases hj:j<r
        · rw[List.getElem?_take_of_lt hj,List.getElem?_drop,List.getElem?_drop,← g4 j hj,Array.getElem?_toList]
          congr 1
          omega
        · rw[List.getElem?_eq_none (by simp;omega),List.getElem?_eq_none (by omega)]
      have ht1:(C.toList.drop a.off).take ((m+1) * r)=(C.toList.drop a.off).take (m * r)++vs:=by
        rw[Nat.succ_mul,List.take_add,hvs]
      refine⟨es++[zbE agg as],by simp[h1],?_,?_,?_,?_⟩
      · intro x hx
        rcases List.mem_append.1 hx with hx | hx
        · exact h2 x hx
        · exact⟨as,g1,by simpa using hx⟩
      · intro x hx
        rcases List.mem_append.1 hx with hx | hx
        · exact h3 x hx
        · have:x=zbE agg as:=by simpa using hx
          subst this
          exact⟨k1,by rw[k2,g2.length];exact g3⟩
      · rw[ht1,zdG,zbx,k2]
        have:zba ([]:List AV)=[]:=rfl
        rw[this,List.append_nil]
        exact h4.append g2
      · rw[ht1,List.length_append,h5,g3,Nat.succ_mul]
  obtain⟨es,h1,h2,h3,h4,h5⟩:=hind len (Nat.le_refl _)
  subst h1
  obtain⟨b,off,spot⟩:=a
  simp only at hs
  subst hs
  have hcap2:es.length≤cap:=by
    simp only[DataW.trod,ht] at h
    split at h
    · rename_i hc;exact hc.2.1
    · cases h
  refine⟨_,⟨1,es,rfl,by omega,(fun h=>by cases h),hreach,h2⟩,.cons ?_ .nil⟩
  refine FZ.sl 0 r 0 es b off cap C.toList _ hz h4 h3 hcap2 (fun h=>by cases h) (by omega) (by rw[h5]) hlen
end Go.Eng
namespace Go.Eng
open Go.RowKit
variable {P:Program} {w0:World} {H Hb:Hp} {φ φ0:Ph} {w:World} {N:Nat} {T:Fr} {a:Act} {lab:Lab} {r:Rec}
theorem zuF(hm:P.follows .mixedOrders=true){f:Nat}{fn:Func}{c:Code}(hf:P.funcs[f]?=some fn)(hbd:fn.body=some c)(hrec:zaU P r){lab:Lab}{ts:List TypeId}{n:Nat}{args:List AV}{v0:AV}
    {Hb:Hp} (h:zt5 P fn.ntmps lab Hb r (finY P fn.results.toList ts) c n args=ansY v0) {z:Nat→Option (List Value)} {w:World} {vals:List Value} (hb:BaseY P w Hb (phz P z)) (hargs:FVs z args vals):Calls P f vals.toArray w (zic z w v0):=by
  have h5:∀ x ∈ ansY v0,x.tag=5:=fun x hx=>by rw[List.mem_singleton.1 hx]
  have hL:AllOk (ansY v0):=fun x hx ht=>by have:=h5 x hx;omega
  refine zeq (ro:=none) (n:=0) (callsIn_of_wp_marks hf hbd trivial ?_)
  have hst:St P w fn.ntmps Hb (phz P z) (zar 0 args noFr) Hb (phz P z) { tmps:=vals.toArray++Array.replicate (fn.ntmps - vals.toArray.size) undef,defers:=[] } w:=⟨zfC (hargs (phz P z) rfl) _ hb.hr.gl,hb.hr,EX.refl _ _⟩
  refine wpIn_mono (zj1 (fin:=finY P fn.results.toList ts) (top:=c) (lab:=lab) hm hrec hL h5 hb c [] (fun _=>finY P fn.results.toList ts) (fun _=>[]) (fun _=>rfl) n _ _ _ _ _ hst (by rw[show (zaB P fn.ntmps lab (finY P fn.results.toList ts) (jmpN P fn.ntmps lab Hb r (finY P fn.results.toList ts) c n) [] c (finY P fn.results.toList ts) []).run r (zar 0 args noFr) Hb=ansY v0 from h];exact fun _ h=>h)) ?_
  have hend:∀ (a':Act) (w':World),OnY P w r fn.ntmps Hb (phz P z) (ansY v0) n (fun _=>finY P fn.results.toList ts) a' w'→LeavesInM (fen none) 0 P fn a'.tmps (zic z w v0) a'.defers .returning w':=by
    rintro a' w' ⟨m,_,T,H',φ',hs,hx⟩
    have hx':∀ x ∈ (bi (nb (nbeq (lenL (zaK T)) 0)) (zab 248) <| om ((zbM P fn.results.toList).run T H') (zab 248) fun v=>match ts with
      | [t]=>om (frzV P t v H') (zab 249) fun x=>ansY x.1
      | ts=>bi (nbeq v.tag 16) (om (zdV P ts v.cs H') (zab 249) fun x=>ansY (tupV x.1)) (zab 249)),x ∈ ansY v0:=hx
    cases hmk:nbeq (lenL (zaK T)) 0
    · rw[hmk] at hx';exact (zaq hL hx').elim
    rw[hmk] at hx'
    have hx':∀ x ∈ (om ((zbM P fn.results.toList).run T H') (zab 248) fun v=>match ts with
      | [t]=>om (frzV P t v H') (zab 249) fun x=>ansY x.1
      | ts=>bi (nbeq v.tag 16) (om (zdV P ts v.cs H') (zab 249) fun x=>ansY (tupV x.1)) (zab 249)),x ∈ ansY v0:=hx'
    have hm0:zaK T=[]:=by
      have:=zaa.1 hmk
      rw[zaz] at this
      exact List.length_eq_zero_iff.1 this
    cases hv:(zbM P fn.results.toList).run T H' with
    | none=>rw[hv] at hx';exact (zaq hL hx').elim
    | some v =>
      rw[hv,zan] at hx'
      refine ze2 (H':=H') _ hs.tr.defers hs.hr (by rw[hm0];rfl) fun φ2 w2 hex2 hr2=>?_
      obtain⟨val,h3,h4⟩:=zdN (hs.tr.mono hex2.keep) hr2 hv
      refine⟨val,h3,?_⟩
      have hfin:∃ φ3 H3,Frz P w w2 H' φ2 H3 φ3∧FV φ3.fz v0 val:=by
        by_cases ht:∃ t,ts=[t]
        · obtain⟨t,rfl⟩:=ht
          have hx':∀ x ∈ om (frzV P t v H') (zab 249) (fun x=>ansY x.1),x ∈ ansY v0:=hx'
          cases hz:frzV P t v H' with
          | none=>rw[hz] at hx';exact (zaq hL hx').elim
          | some y =>
            obtain⟨a1,H1⟩:=y
            rw[hz,zan] at hx'
            have e:=zgg hx'
            obtain⟨φ3,g1,g2⟩:=zhy hz hr2 h4
            exact⟨φ3,H1,g1,e ▸ g2⟩
        · have hx':∀ x ∈ bi (nbeq v.tag 16) (om (zdV P ts v.cs H') (zab 249) fun x=>ansY (tupV x.1)) (zab 249),x ∈ ansY v0:=by
            match ts,hx',ht with
            | [],hx',_=>exact hx'
            | [t],_,ht=>exact absurd ⟨t,rfl⟩ ht
            | _::_::_,hx',_=>exact hx'
          cases h16:nbeq v.tag 16
          · rw[h16] at hx';exact (zaq hL hx').elim
          rw[h16,zag] at hx'
          cases hz:zdV P ts v.cs H' with
          | none=>rw[hz] at hx';exact (zaq hL hx').elim
          | some y =>
            obtain⟨a1,H1⟩:=y
            rw[hz,zan] at hx'
            have e:=zgg hx'
            obtain⟨l,rfl,hl⟩:=h4.of_tup (zaa.1 h16)
            obtain⟨φ3,g1,g2⟩:=zjF ts hz hr2 hl
            exact⟨φ3,H1,g1,fun ψ e'=>e ▸ .tup 0 0 0 0 a1 l (g2 ψ e')⟩
      obtain⟨φ3,H3,g1,g2⟩:=hfin
      have hex:=(hs.ex.trans hex2).trans g1.ex
      have hne:∀ k,¬ exB φ3 k:=fun k hk=>by
        unfold exB at hk
        rw[hex.keep.op] at hk
        rcases hk with hk | hk<;>have:=hk.1<;>omega
      refine⟨φ3.fz,hex.keep.fz,fun x C hx=>?_,fun x C hx=>(g1.hr.fz x C hx).1,g2,g1.hr.below.below hne⟩
      rcases g1.hr.fo x C hx with (h | h) | h
      · exact .inr h
      · exact (hne x h).elim
      · rw[hex.keep.op] at h
        obtain⟨_,x',C',e1,e2⟩ | ⟨h0,_⟩:=h
        rotate_left
        · omega
        have e3:x=x':=by injection e1 with _ e1;exact Int.ofNat.inj e1
        subst e3
        have e4:=hex.keep.fz x C' e2
        rw[hx] at e4;cases e4
        exact .inl e2
  intro e a' w' hq
  cases e with
  | normal=>exact hend a' w' hq
  | ret=>exact hend a' w' hq
  | exit i =>
    obtain⟨m,_,T,H',φ',_,hx⟩:=hq
    exact (zaq hL hx).elim
  | _=>exact hq.elim
noncomputable section
def zjp(L:List (Nat × List AV)):Hp:=List.rec (motive:=fun _=>Hp) ⟨noH.t,0,0⟩ (fun g _ H=>hset H g.1 (zbt g.2 1)) L
def zd2(P:Program)(L:List (Nat × List AV)):Hp:=⟨(zjp L).t,P.globals.size,P.globals.size⟩
def dav(n:Nat):DataW Unit→Option (List AV):=Nat.rec (motive:=fun _=>DataW Unit→Option (List AV)) (fun _=>none) (fun _ ih d=>match d with
  | .lit (.int k m)=>some [mk1 (zap k) ((m % (kMod (zap k):Int)).toNat)]
  | .lit (.string l)=>some [⟨9,zaJ l,l.length,0,0,[]⟩]
  | .lit (.bool b)=>some [bV b]
  | .agg ds=>List.rec (motive:=fun _=>Option (List AV)) (some []) (fun x _ t=>match ih x,t with | some a,some b=>some (a++b) | _,_=>none) ds
  | _=>none) n
end
def zhS(W:World)(L:List (Nat × List AV)):Prop:=∀ g ∈ L,∃ (l rest:List Value) (t:TypeId),W.heap[g.1]?=some (.cells (l++rest).toArray t)∧∀ φ,VRs φ g.2 l
theorem zqT{L:List (Nat × List AV)}(hL:∀ g ∈ L,g.1<32768)(b:Nat)(hb:b<32768):hget (zjp L) b=noB ∨ ∃ g ∈ L,g.1=b∧hget (zjp L) b=zbt g.2 1:=by
  induction L with
  | nil=>exact .inl (zj5 b)
  | cons g L ih =>
    have h:=zaM (H:=zjp L) (i:=g.1) (j:=b) (hL g (by simp)) hb (zbt g.2 1)
    have e:hget (zjp (g::L)) b=hget (hset (zjp L) g.1 (zbt g.2 1)) b:=rfl
    rw[e,h]
    by_cases hg:g.1=b
    · rw[if_pos hg];exact .inr ⟨g,by simp,hg,rfl⟩
    · rw[if_neg hg]
      rcases ih (fun g hg=>hL g (by simp[hg])) with h1 | ⟨g',h1,h2,h3⟩
      · exact .inl h1
      · exact .inr ⟨g',by simp[h1],h2,h3⟩
theorem zpd{L:List (Nat × List AV)}(hG:P.globals.size≤32767)(hlt:∀ g ∈ L,g.1<P.globals.size)(hcells:∀ g ∈ L,∀ c ∈ g.2,za6 c=true){W:World}(hW:zhS W L)(hw:P.globals.size≤W.heap.size){z:Nat→Option (List Value)}(hz:zd4 z W):BaseY P W (zd2 P L) (phz P z):=by
  have hφ:∀ b x,(phz P z) b=some x→b<P.globals.size∧x=b:=by
    intro b x h
    have h':(if b<P.globals.size then some b else none)=some x:=h
    by_cases hb:b<P.globals.size
    · rw[if_pos hb] at h';cases h';exact⟨hb,rfl⟩
    · rw[if_neg hb] at h';cases h'
  have hget:∀ b,b<P.globals.size→hget (zd2 P L) b=noB ∨ ∃ g ∈ L,g.1=b∧hget (zd2 P L) b=zbt g.2 1:=fun b hb=>zqT (fun g hg=>by have:=hlt g hg;omega) b (by omega)
  refine⟨rfl,⟨?_,?_,hG,Nat.le_refl _,BelowX.refl _ _,?_,⟨?_,hw,fun x _=>.inr ⟨rfl,x,rfl⟩⟩,?_,?_,?_⟩,fun _ _ _ h=>by rcases h with h | h<;>have:=h.1<;>omega⟩
  · intro b x h
    obtain⟨h1,rfl⟩:=hφ b x h
    refine⟨h1,fun hl=>by have hl':P.globals.size≤x:=hl;omega,?_⟩
    rcases hget x h1 with e | ⟨g,hg,rfl,e⟩
    · exact⟨W.heap[x]'(by omega),by simp,by rw[e];exact zfQ⟩
    · obtain⟨l,rest,t,ho,hv⟩:=hW g hg
      refine⟨_,ho,?_⟩
      rw[e]
      exact⟨fun _=>⟨l,rest,t,rfl,hv _,hcells g hg,(fun h=>by cases h),(fun h=>by exact no21 h)⟩,(fun h=>by cases h),(fun h=>by cases h),(fun h=>by have h':4≤1:=h;omega)⟩
  · intro b b' x h h' _ _
    rw[← (hφ b x h).2,(hφ b' x h').2]
  · intro g hg
    show (if g<P.globals.size then some g else none)=some g
    rw[if_pos hg]
  · intro t v _ h
    rcases h with h | h<;>have:=h.1<;>omega
  · intro x C hx
    refine⟨hz x C hx,fun b hb hl=>?_⟩
    have hl':P.globals.size≤b:=hl
    have:=(hφ b x hb).1;omega
  · intro b x h hk
    obtain⟨h1,rfl⟩:=hφ b x h
    rcases hget x h1 with e | ⟨g,hg,_,e⟩<;>rw[e] at hk<;>rcases hk with hk | hk<;>cases hk
  · intro x C hx
    exact .inr (.inl ⟨rfl,x,C,rfl,hx⟩)
theorem HR.later{P:Program}{w0 w w':World}{H:Hp}{φ:Ph}(hr:HR P w0 H φ w)(hb:Below w.heap.size w w'):HR P w0 H φ w':=by
  refine⟨fun b x hx=>?_,hr.inj,hr.n,hr.lim,hr.below.trans (hb.mono hr.below.size),hr.gl,hr.op,fun x C hx=>?_,hr.tl,hr.fo⟩
  · obtain⟨h1,h2,o,h3,h4⟩:=hr.blk b x hx
    exact⟨h1,h2,o,by rw[hb.block x (Array.getElem?_eq_some_iff.1 h3).1];exact h3,h4⟩
  · obtain⟨⟨t,fr,h1⟩,h2⟩:=hr.fz x C hx
    exact⟨⟨t,fr,by rw[hb.block x (Array.getElem?_eq_some_iff.1 h1).1];exact h1⟩,h2⟩
noncomputable def zhn(l:List CRes):Bool:=List.rec (motive:=fun _=>Bool) true (fun c _ ih=>bi (nbeq c.ok 1) (bi (nbeq c.v.tag 8) (bi (nbeq c.v.p 1) ih false) false) false) l
theorem zox{l:List CRes}(h:zhn l=true):∀ c ∈ l,c.ok=1∧c.v.tag=8∧c.v.p=1:=by
  induction l with
  | nil=>intro c hc;cases hc
  | cons x l ih =>
    have h':bi (nbeq x.ok 1) (bi (nbeq x.v.tag 8) (bi (nbeq x.v.p 1) (zhn l) false) false) false=true:=h
    obtain⟨h1,h'⟩:=zaw.1 h'
    obtain⟨h2,h'⟩:=zaw.1 h'
    obtain⟨h3,h'⟩:=zaw.1 h'
    intro c hc
    cases hc with
    | head=>exact⟨zaa.1 h1,zaa.1 h2,zaa.1 h3⟩
    | tail _ hc=>exact ih h' c hc
noncomputable def zkH(L:List (Nat × List AV))(H:Hp):Bool:=List.rec (motive:=fun _=>Bool) true (fun g _ ih=>bi (nbeq (hget H g.1).kind 1) (bi (eqA 20 (aggV (hget H g.1).cs) (aggV g.2)) ih false) false) L
noncomputable def zkI(L:List (Nat × List AV)):Native:=fun args H=>bi (nbeq (lenL args) 0) (bi (zkH L H) [⟨1,0,bV true,H⟩] (zaG 75)) (zaG 75)
theorem AllC.bi{b:Bool}{x:List CRes}{n:Nat}(h:AllC (bi b x (zaG n))):b=true∧AllC x:=by
  cases b
  · exact (zaI h).elim
  · exact⟨rfl,h⟩
theorem VR.low{φ φ':Ph}{a:AV}{v:Value}(h:VR φ a v)(ht:a.tag<10):VR φ' a v:=by
  cases h with
  | int c p r s cs e1 e2=>exact .int c p r s cs e1 e2
  | bool b r s cs=>exact .bool b r s cs
  | str l r s cs=>exact .str l r s cs
  | _=>simp at ht
theorem VRs.low{φ φ':Ph}{l:List AV}:∀ {vs:List Value},VRs φ l vs→(∀ a ∈ l,a.tag<10)→VRs φ' l vs:=by
  induction l with
  | nil=>intro vs h _;cases h;exact .nil
  | cons a l ih=>intro vs h ht;cases h with | cons h1 h2=>exact .cons (h1.low (ht a (by simp))) (ih h2 fun b hb=>ht b (by simp[hb]))
theorem zuG{L:List (Nat × List AV)}(hlow:∀ g ∈ L,∀ c ∈ g.2,c.tag<10)(hlt:∀ g ∈ L,g.1<P.globals.size)(hr:HR P w0 H φ w)(h:zkH L H=true):zhS w L:=by
  induction L with
  | nil=>intro g hg;cases hg
  | cons x L ih =>
    have h':Eng.bi (nbeq (hget H x.1).kind 1) (Eng.bi (eqA 20 (aggV (hget H x.1).cs) (aggV x.2)) (zkH L H) false) false=true:=h
    obtain⟨h1,h'⟩:=zaw.1 h'
    obtain⟨h2,h'⟩:=zaw.1 h'
    intro g hg
    rcases List.mem_cons.1 hg with rfl | hg
    · obtain⟨_,_,o,ho,hB⟩:=hr.blk g.1 g.1 (hr.gl g.1 (hlt g (by simp)))
      obtain⟨l,rest,t,rfl,hl,_,_⟩:=hB.cells (zaa.1 h1)
      have hcs:(hget H g.1).cs=g.2:=congrArg AV.cs (zjV _ _ _ h2)
      rw[hcs] at hl
      exact⟨l,rest,t,ho,fun φ'=>hl.low (hlow g (by simp))⟩
    · exact ih (fun g hg=>hlow g (by simp[hg])) (fun g hg=>hlt g (by simp[hg])) h' g hg
theorem zqU(hr:HR P w0 H φ w):P.globals.size≤w.heap.size:=by
  rcases Nat.eq_zero_or_pos P.globals.size with h0 | h0
  · omega
  · obtain⟨_,_,o,h3,_⟩:=hr.blk _ _ (hr.gl (P.globals.size - 1) (by omega))
    have:=(Array.getElem?_eq_some_iff.1 h3).1
    omega
theorem zqV{w:World}:zd4 (fun _=>none) w:=fun x C h=>by cases h
theorem zmx{nt:Nat→Option Native}{mg:Nat→Bool}(hm:P.follows .mixedOrders=true)(hg:zhI P)(hnt:zdO P nt){L:List (Nat × List AV)}(hG:P.globals.size≤32767)(hlt:∀ g ∈ L,g.1<P.globals.size)(hcells:∀ g ∈ L,∀ c ∈ g.2,za6 c=true){f n:Nat}(hbd:∃ fn,P.funcs[f]?=some fn∧fn.body.isNone=false){W:World}(hW:zhS W L)(hw:P.globals.size≤W.heap.size)(h:zhn (evN P nt mg n (mk1 13 f) [] (zd2 P L))=true) :
    Calls P f #[] W fun e W'=>e=.returned (.bool true)∧Below W.heap.size W W':=by
  have hm':=zox h
  have hb:=zpd hG hlt hcells hW hw (z:=fun _=>none) zqV
  have hrec:zaU P (evN P nt mg n):=zdt hm hnt hg n
  rcases hrec W (zd2 P L) (phz P fun _=>none) W (mk1 13 f) (.func (.func f) #[] #[]) [] [] (.fn f 0 0 0 [] [] [] .nil rfl) .nil hb.hr (fun c hc=>(hm' c hc).1) with⟨f',first,cap,fn,e1,_,_,_,hc⟩ | ⟨l,_,_,_,_,e1,_⟩ | ⟨f',v,w',e1,_,e2,_⟩
  · injection e1 with e1 e2 e3
    injection e1 with e1
    subst e1 e2 e3
    have hc':Calls P f #[] W (zbY P W (evN P nt mg n (mk1 13 f) [] (zd2 P L)) (zd2 P L) (phz P fun _=>none)):=by simpa using hc
    refine Calls.mono hc' fun e w' he=>?_
    cases e with
    | returned v =>
      obtain⟨c,hcm,φ',g1,g2,g3⟩:=he
      obtain⟨_,h2,h3⟩:=hm' c hcm
      obtain⟨b,rfl,hp,_⟩:=g1.of_bool h2
      rw[h3] at hp
      cases b
      · cases hp
      · exact⟨rfl,g2.below.below fun k hk=>by
          unfold exB at hk
          rw[g3.keep.op] at hk
          rcases hk with hk | hk<;>have:=hk.1<;>omega⟩
    | panicked ch=>exact he.elim
    | outgrown=>exact he.elim
  · injection e1 with e1
    cases e1
  · injection e1 with e1
    injection e1 with e1
    subst e1
    obtain⟨fn,k1,k2⟩:=hbd
    have hrun:(callFunc f ([]:List Value).toArray).run P W=.ok (.enter f #[]) W:=by
      simp only[callFunc,program,Sem.run_bind,Sem.run,k1,hg _ _ k1,Sem.run_pure',Result.andThen_ok,k2]
      rfl
    rw[hrun] at e2
    cases e2
theorem ztj{nt:Nat→Option Native}{mg:Nat→Bool}(hm:P.follows .mixedOrders=true)(hg:zhI P)(hnt:zdO P nt){L:List (Nat × List AV)}(hG:P.globals.size≤32767)(hlt:∀ g ∈ L,g.1<P.globals.size)(hlow:∀ g ∈ L,∀ c ∈ g.2,c.tag<10){f n:Nat}(hbd:∃ fn,P.funcs[f]?=some fn∧fn.body.isNone=false)(h:zhn (evN P nt mg n (mk1 13 f) [] (zd2 P L))=true):zdZ P f (zkI L):=by
  intro w0 H φ w args vals hv hr hall
  have hall':AllC (Eng.bi (nbeq (lenL args) 0) (Eng.bi (zkH L H) [⟨1,0,bV true,H⟩] (zaG 75)) (zaG 75)):=hall
  obtain⟨g1,hall'⟩:=hall'.bi
  obtain⟨g2,_⟩:=hall'.bi
  have e:zkI L args H=[⟨1,0,bV true,H⟩]:=by
    show Eng.bi (nbeq (lenL args) 0) (Eng.bi (zkH L H) [⟨1,0,bV true,H⟩] (zaG 75)) (zaG 75)=_
    rw[g1,g2];rfl
  rw[e]
  have hl:=zaa.1 g1
  rw[zaz] at hl
  have ha:args=[]:=List.length_eq_zero_iff.1 hl
  subst ha
  cases hv
  have hok:∀ g ∈ L,∀ c ∈ g.2,za6 c=true:=fun g hg c hc=>by
    have:=hlow g hg c hc
    show Eng.bi (nble c.tag 14) true _=true
    rw[zah.2 (by omega)];rfl
  refine Calls.mono (zmx hm hg hnt hG hlt hok hbd (zuG hlow hlt hr g2) (zqU hr) h) fun e' w' he=>?_
  obtain⟨rfl,hb⟩:=he
  exact⟨⟨1,0,bV true,H⟩,List.mem_singleton.2 rfl,φ,.bool true 0 0 [],hr.later hb,EX.refl H φ⟩
theorem z0I(hm:P.follows .mixedOrders=true){f:Nat}{fn:Func}{c:Code}{rs:List ResultVar}(hf:P.funcs[f]?=some fn)(hbd:fn.body=some c)(hN:fn.ntmps=N)(hrs:fn.results.toList=rs)(hrec:zaU P r){L:List (Nat × List AV)}(hG:P.globals.size≤32767)(hlt:∀ g ∈ L,g.1<P.globals.size)(hlow:∀ g ∈ L,∀ c ∈ g.2,c.tag<10){lab:Lab}{ts:List TypeId}{n:Nat}{args:List AV}
    (h:(zaB P N lab (finY P rs ts) (jmpN P N lab (zd2 P L) r (finY P rs ts) c n) [] c (finY P rs ts) []).run r (zar 0 args noFr) (zd2 P L)=ansY (bV true)) {W:World} {vals:List Value} (hW:zhS W L) (hw:P.globals.size≤W.heap.size) (hargs:FVs (allZ W) args vals):Calls P f vals.toArray W fun e W'=>e=.returned (.bool true)∧Below W.heap.size W W':=by
  subst hN hrs
  have hok:∀ g ∈ L,∀ c ∈ g.2,za6 c=true:=fun g hg c hc=>by
    have:=hlow g hg c hc
    show bi (nble c.tag 14) true _=true
    rw[zah.2 (by omega)];rfl
  have hb:=zpd hG hlt hok hW hw (zth W)
  refine Calls.mono (zuF hm hf hbd hrec h hb hargs) fun e w' he=>?_
  cases e with
  | returned v =>
    obtain⟨z',_,_,_,z4,z5⟩:=he
    have h1:=z4 (phz P z') rfl
    obtain⟨b,rfl,hp,_⟩:=h1.of_bool rfl
    cases b
    · cases hp
    · exact⟨rfl,z5⟩
  | panicked ch=>exact he.elim
  | outgrown=>exact he.elim
end Go.Eng
namespace Go.Eng
open Go.RowKit
variable {P:Program}
theorem zpe{P:Program}{w:World}{n:String}{d:DataW Unit}:∀ {l:List (String × DataW Unit)} {ps:List MemPlace},DataW.LaidVars P w l ps→(n,d) ∈ l →
    ∃ g t cs fuel p,P.globalNamed n=some g∧(P.globals[g]?).map (·.type)=some t∧w.var? P n=some cs∧DataW.trod (fun _=>()) P w 0 (fun _=>true) false fuel t cs.toList=some (d,p)∧∀ x ∈ MemPlace.row ⟨g,0,none⟩ cs.size,x ∈ ps:=by
  intro l
  induction l with
  | nil=>intro ps _ h;cases h
  | cons a l ih =>
    intro ps h hm
    obtain⟨n',d'⟩:=a
    obtain⟨g,t,cs,fuel,p,q,h1,h2,h3,h4,h5,rfl⟩:=h
    rcases List.mem_cons.1 hm with e | hm
    · cases e;exact⟨g,t,cs,fuel,p,h1,h2,h3,h4,fun x hx=>by simp[hx]⟩
    · obtain⟨g',t',cs',fuel',p',k1,k2,k3,k4,k5⟩:=ih h5 hm
      exact⟨g',t',cs',fuel',p',k1,k2,k3,k4,fun x hx=>by have:=k5 x hx;simp[this]⟩
theorem znO{P:Program}{w:World}{n:String}{g:Nat}{cs:Array Value}(hg:P.globalNamed n=some g)(h:w.var? P n=some cs):∃ t fr,w.heap[g]?=some (.cells cs t fr):=by
  unfold World.var? at h
  rw[hg] at h
  simp only[Option.bind_some] at h
  split at h
  · rename_i cs' t fr e;cases h;exact⟨t,fr,e⟩
  · cases h
theorem zyj{n:Nat}{d:DataW Unit}{ds:List (DataW Unit)}{as:List AV}(h:dav (n+1) (.agg (d::ds))=some as):∃ a b,dav n d=some a∧dav (n+1) (.agg ds)=some b∧as=a++b:=by
  have h':(match dav n d,dav (n+1) (.agg ds) with | some a,some b=>some (a++b) | _,_=>none)=some as:=h
  split at h'
  · rename_i a b e1 e2;cases h';exact⟨a,b,e1,e2,rfl⟩
  · cases h'
theorem znP{φ:Ph}{n:Nat}{cs:List Value}{α:Type}{f:α→Option (DataW Unit × List MemPlace)}{off siz:α→Nat}:∀ {l:List α} {xs:List (DataW Unit × List MemPlace)} {o:Nat} {as:List AV},l.mapM f=some xs →
    (∀ x ∈ l,∀ d p as,f x=some (d,p)→dav n d=some as→VRs φ as ((cs.drop (off x)).take (siz x)))→(∀ (j:Nat) x,l[j]?=some x→off x=o+((l.take j).map siz).sum)→cs.length=o+(l.map siz).sum →
    dav (n+1) (.agg (xs.map (·.1)))=some as→VRs φ as (cs.drop o):=by
  intro l
  induction l with
  | nil =>
    intro xs o as hm _ _ hl hd
    simp at hm;subst hm
    have hd':some ([]:List AV)=some as:=hd
    cases hd'
    rw[List.drop_of_length_le (by simp at hl;omega)];exact .nil
  | cons x l ih =>
    intro xs o as hm hf ho hl hd
    simp only[List.mapM_cons,Option.bind_eq_bind,Option.pure_def] at hm
    obtain⟨y,hy,hm⟩:=Option.bind_eq_some_iff.1 hm
    obtain⟨ys,hys,hm⟩:=Option.bind_eq_some_iff.1 hm
    cases hm
    obtain⟨a,b,e1,e2,rfl⟩:=zyj (by simpa using hd)
    have h0:off x=o:=by simpa using ho 0 x rfl
    have h1:=hf x (by simp) y.1 y.2 a hy e1
    have h2:=ih (o:=o+siz x) hys (fun x hx=>hf x (by simp[hx])) (fun j z hz=>by
      have:=ho (j+1) z (by simpa using hz)
      rw[List.take_succ_cons,List.map_cons,List.sum_cons] at this
      omega) (by rw[List.map_cons,List.sum_cons] at hl;omega) e2
    have:=h1.append h2
    rw[h0,← List.drop_drop,List.take_append_drop] at this
    exact this
def z3v:DataW Unit→Bool
  | .lit (.int _ _)=>true
  | .lit (.string _)=>true
  | .lit (.bool _)=>true
  | .agg _=>true
  | _=>false
theorem zuH{n:Nat}{d:DataW Unit}{as:List AV}(h:dav n d=some as):z3v d=true:=by
  cases n with
  | zero=>cases h
  | succ n =>
    have no:∀ {x:List AV},(none:Option (List AV))=some x→False:=fun h=>by cases h
    cases d with
    | lit l=>cases l<;>first | rfl | exact (no h).elim
    | agg ds=>rfl
    | _=>exact (no h).elim
theorem z0J{φ:Ph}{w:World}(hl:laidOutB P=true):∀ (fuel n:Nat) (t:TypeId) (cs:List Value) (d:DataW Unit) (p:List MemPlace) (as:List AV),t<P.types.size→DataW.trod (fun _=>()) P w 0 (fun _=>true) false fuel t cs=some (d,p)→dav n d=some as→VRs φ as cs:=by
  intro fuel
  induction fuel with
  | zero=>intro n t cs d p as _ h;cases h
  | succ fuel ih =>
    intro n t cs d p as ht h hd
    have hg:=zuH hd
    cases n with
    | zero=>cases hd
    | succ n =>
    simp only[DataW.trod] at h
    split at h
    case h_1 b hu =>
      cases h
      have hd':some [bV b]=some as:=hd
      cases hd'
      exact .cons (FZ.vr (FZ.bool b 0 0 [])) .nil
    case h_2 k k' m hu =>
      split at h
      · rename_i hc
        obtain⟨rfl,hw⟩:=hc
        cases h
        have hd':some [mk1 (zap k') ((m % (kMod (zap k'):Int)).toNat)]=some as:=hd
        cases hd'
        have hc8:zap k'<8∧kOf (zap k')=k':=by cases k'<;>exact⟨by decide,rfl⟩
        simp only[Lit.wf,Bool.and_eq_true,decide_eq_true_eq] at hw
        have e1:=zmh hc8.1 m (by rw[hc8.2];exact hw.1) (by rw[hc8.2];exact hw.2)
        rw[zj6 hc8.1] at e1
        have hpos:(0:Int)<(kMod (zap k'):Int):=by
          have:0<kMod (zap k'):=by cases k'<;>decide +kernel
          exact_mod_cast this
        have hlt:=Int.emod_lt_of_pos m hpos
        have hnn:=Int.emod_nonneg m (by omega:(kMod (zap k'):Int) ≠ 0)
        have:=FZ.int (z:=φ.fz) (zap k') (m % (kMod (zap k'):Int)).toNat 0 0 [] hc8.1 (by omega)
        rw[e1,hc8.2] at this
        exact .cons this.vr .nil
      · cases h
    case h_4 s hu =>
      split at h
      · cases h
        have hd':some [(⟨9,zaJ s.data.toList,s.data.toList.length,0,0,[]⟩:AV)]=some as:=hd
        cases hd'
        have:=FZ.str (z:=φ.fz) s.data.toList 0 0 []
        have e:(⟨s.data.toList.toArray⟩:ByteArray)=s:=by cases s;simp
        rw[e] at this
        exact .cons this.vr .nil
      · cases h
    case h_9 cs0 x0 cs' fs hu =>
      split at h
      · rename_i hc
        obtain⟨xs,h2,h3⟩:=Option.map_eq_some_iff.1 h
        cases h3
        obtain⟨k1,k2,k3⟩:=kid_struct hl ht hu
        have:=znP (φ:=φ) (n:=n) (cs:=cs0) (o:=0) (off:=fun f:Field=>f.offset) (siz:=fun f:Field=>P.cellsOf f.type) h2 (fun f hf d p as h hd=>ih n f.type _ d p as (k1 f hf) h hd) (fun j f hj=>by rw[k3 j f hj];simp) (by rw[hc,k2];simp) hd
        simpa using this
      · cases h
    case h_10 cs0 x0 cs' k e hu =>
      split at h
      · rename_i hc
        obtain⟨xs,h2,h3⟩:=Option.map_eq_some_iff.1 h
        cases h3
        obtain⟨k1,k2⟩:=kid_array hl ht hu
        have hsum:∀ (l:List Nat),(l.map fun _=>P.cellsOf e).sum=l.length * P.cellsOf e:=by
          intro l
          induction l with
          | nil=>simp
          | cons a l ih=>rw[List.map_cons,List.sum_cons,ih,List.length_cons,Nat.succ_mul];omega
        have:=znP (φ:=φ) (n:=n) (cs:=cs0) (o:=0) (off:=fun i:Nat=>i * P.cellsOf e) (siz:=fun _=>P.cellsOf e) h2 (fun i hi d p as h hd=>ih n e _ d p as k1 h hd) (fun j i hj=>by
          have hj':=List.getElem?_eq_some_iff.1 hj
          obtain⟨hlt,he⟩:=hj'
          rw[hsum,List.length_take]
          simp at hlt he
          subst he
          rw[List.length_range,Nat.min_eq_left (by omega)]
          omega) (by rw[hc,k2,hsum];simp) hd
        simpa using this
      · cases h
    case h_8 =>
      split at h
      · obtain⟨_,_,h⟩:=Option.bind_eq_some_iff.1 h
        obtain⟨_,_,e⟩:=Option.map_eq_some_iff.1 h
        cases e;cases hg
      · cases h
    case h_12 =>
      split at h
      · cases h;cases hg
      · obtain⟨_,_,e⟩:=Option.map_eq_some_iff.1 h
        cases e;cases hg
      · cases h
    case h_14 =>
      split at h
      · split at h
        · obtain⟨_,_,h⟩:=Option.bind_eq_some_iff.1 h
          split at h
          · cases h;cases hg
          · cases h
        · cases h
      · cases h
    all_goals first
      | (cases h;done)
      | (cases h;cases hg;done)
      | (split at h<;>first | (cases h;cases hg;done) | (cases h;done))
      | (obtain⟨_,_,e⟩:=Option.map_eq_some_iff.1 h;cases e;cases hg;done)
theorem zuI(hl:laidOutB P=true){laid:List (String × DataW Unit)}{W:World}(h:laidMet P laid W){L:List (Nat × List AV)}(hL:∀ g ∈ L,∃ n d k,(n,d) ∈ laid∧P.globalNamed n=some g.1∧dav k d=some g.2∧g.2 ≠ []):zhS W L:=by
  obtain⟨ps,hv,_,hcell⟩:=h
  intro g hg
  obtain⟨n,d,k,h1,h2,h3,h4⟩:=hL g hg
  obtain⟨g',t,cs,fuel,p,a1,a2,a3,a4,a5⟩:=zpe hv h1
  rw[h2] at a1;cases a1
  obtain⟨t0,f0,h0⟩:=znO h2 a3
  have hvr:=fun φ=>z0J (φ:=φ) hl fuel k t cs.toList d p g.2 (global_row hl a2) a4 h3
  have hlen:0<cs.size:=by
    have h5:=hvr ⟨fun _=>none,fun _=>0,fun _ _=>False,fun _=>none,fun _=>0⟩
    cases hcs:cs.toList with
    | nil=>rw[hcs] at h5;cases hg2:g.2 with
      | nil=>exact absurd hg2 h4
      | cons a l=>rw[hg2] at h5;cases h5
    | cons a l=>have:=congrArg List.length hcs;simp at this;omega
  obtain⟨⟨c',t',e'⟩,_⟩:=hcell g.1 0 (a5 _ (by
    unfold MemPlace.row
    rw[List.mem_map]
    exact⟨0,by simp[hlen],rfl⟩))
  rw[h0] at e'
  cases e'
  exact⟨cs.toList,[],t0,by simpa using h0,hvr⟩
theorem ztk{laid:List (String × DataW Unit)}{W:World}(h:laidMet P laid W){n:String}{d:DataW Unit}(hm:(n,d) ∈ laid){g:Nat}(hg:P.globalNamed n=some g)(hs:P.globals.size=g+1):P.globals.size≤W.heap.size:=by
  obtain⟨ps,hv,_,_⟩:=h
  obtain⟨g',t,cs,fuel,p,a1,a2,a3,a4,a5⟩:=zpe hv hm
  rw[hg] at a1;cases a1
  obtain⟨t0,f0,h0⟩:=znO hg a3
  have:=(Array.getElem?_eq_some_iff.1 h0).1
  omega
end Go.Eng
namespace Go.Eng
open Go.RowKit
variable {P:Program}
def RdN(P:Program)(N:Nat)(t:TypeId)(R:List AV→Prop):Prop:=∀ (X:Type) (enc:TypeId × Value→X) (W:World) (spare:Nat→Bool) (held:Bool) (fuel:Nat) (cs:List Value) (x:DataW X × List MemPlace),fuel≤N→DataW.trod enc P W 0 spare held fuel t cs=some x→(x.1.weights P t).all (·≤reachBytes)=true→∃ as,R as∧FZs (allZ W) as cs
theorem Rdb.n{t:TypeId}{R:List AV→Prop}(h:Rdb P t R)(N:Nat):RdN P N t R:=fun X enc W spare held fuel cs x _ hx hw=>h X enc W spare held fuel cs x hx hw
theorem Rdb.of{t:TypeId}{R:List AV→Prop}(h:∀ N,RdN P N t R):Rdb P t R:=fun X enc W spare held fuel cs x hx hw=>h fuel X enc W spare held fuel cs x (Nat.le_refl _) hx hw
theorem RdN.weaken{N:Nat}{t:TypeId}{R R':List AV→Prop}(h:RdN P N t R)(hR:∀ as,R as→R' as):RdN P N t R':=by
  intro X enc W spare held fuel cs x hn hx hw
  obtain⟨as,h1,h2⟩:=h X enc W spare held fuel cs x hn hx hw
  exact⟨as,hR as h1,h2⟩
theorem RdN.zero{t:TypeId}{R:List AV→Prop}:RdN P 0 t R:=by
  intro X enc W spare held fuel cs x hn hx _
  have:fuel=0:=by omega
  subst this
  cases hx
inductive FitN(P:Program)(N:Nat):List Field→Nat→List (List AV→Prop)→Nat→Prop
  | nil (o:Nat):FitN P N [] o [] o
  | cons {f:Field} {l:List Field} {o m:Nat} {R:List AV→Prop} {Rs:List (List AV→Prop)} (c:Nat):f.offset=o→P.cellsOf f.type=c→RdN P N f.type R→FitN P N l (o+c) Rs m→FitN P N (f::l) o (R::Rs) m
theorem FitN.go{X:Type}{enc:TypeId × Value→X}{W:World}{spare:Nat→Bool}{held:Bool}{fuel:Nat}{l:List Field}{o m:Nat}{Rs:List (List AV→Prop)}{N:Nat}(hfn:fuel≤N)(h:FitN P N l o Rs m):∀ {cs:List Value},cs.length=m→(∀ (i:Nat) (f:Field),l[i]?=some f→∃ x,DataW.trod enc P W 0 spare held fuel f.type ((cs.drop f.offset).take (P.cellsOf f.type))=some x∧(x.1.weights P f.type).all (·≤reachBytes)=true)→∃ as,Cat Rs as∧FZs (allZ W) as (cs.drop o):=by
  induction h with
  | nil o=>intro cs hl _;exact⟨[],.nil,by rw[List.drop_of_length_le (by omega)];exact .nil⟩
  | cons c ho hc hR _ ih =>
    intro cs hl hall
    obtain⟨x,hx,hxw⟩:=hall 0 _ rfl
    obtain⟨a,ha,hz⟩:=hR X enc W spare held fuel _ x hfn hx hxw
    obtain⟨as,has,hzs⟩:=ih hl fun i f hf=>hall (i+1) f (by simpa using hf)
    refine⟨a++as,.cons ha has,?_⟩
    have:=hz.append hzs
    rw[ho,hc] at this
    rw[← List.drop_drop] at this
    rw[List.take_append_drop] at this
    exact this
theorem zqW{N:Nat}{t:TypeId}{fs:Array Field}{Rs:List (List AV→Prop)}(ht:P.underlying t=some (.struct fs))(n:Nat)(hn:P.cellsOf t=n)(hf:FitN P N fs.toList 0 Rs n):RdN P (N+1) t (Cat Rs):=by
  intro X enc W spare held fuel cs x hfn h hwt
  cases fuel with
  | zero=>cases h
  | succ m =>
    simp only[DataW.trod,ht] at h
    split at h
    · rename_i hc
      obtain⟨xs,h2,h3⟩:=Option.map_eq_some_iff.1 h
      subst h3
      simp only[DataW.weights,ht] at hwt
      have:=hf.go (hfn:=(by omega:m≤N)) (enc:=enc) (W:=W) (spare:=spare) (held:=held) (fuel:=m) (cs:=cs) (by omega) fun i f hi=>by
        obtain⟨b,hb,hb2⟩:=zjo h2 i f hi
        exact⟨b,hb,zhm hwt i f.type b.1 (by rw[List.getElem?_map,hi];rfl) (by rw[List.getElem?_map,hb2];rfl)⟩
      simpa using this
    · cases h
theorem ztl{N:Nat}{t e:TypeId}{R:List AV→Prop}(ht:P.underlying t=some (.slice e))(hby:0<P.bytesOf e)(r:Nat)(hr:P.cellsOf e=r)(h0:0<r)(agg:Bool)(ha:agg=false→r=1)(hR:RdN P N e R):RdN P (N+1) t (ziE R agg r):=by
  intro X enc W spare held fuel cs x hfn h hwt
  have hv:∃ v,cs=[v]:=by
    cases fuel with
    | zero=>cases h
    | succ n =>
      simp only[DataW.trod,ht] at h
      split at h<;>rename_i h1 h2<;>first | (cases h;done) | (simp at h1;done) | (simp at h2;done) | exact⟨_,rfl⟩
  obtain⟨v,rfl⟩:=hv
  rcases zhO ht h with rfl | ⟨a,len,cap,n,elems,rfl,rfl,hcap,hel⟩
  · exact⟨[⟨24,0,0,r,0,[]⟩],⟨0,[],rfl,by omega,fun _=>rfl,Nat.zero_le _,fun x hx=>by cases hx⟩,.cons (.nils 0 r 0) .nil⟩
  have hmax:maxLen=9223372036854775807:=by decide +kernel
  rw[hr] at hel
  have hd:∃ spare',x.1=.slice (elems.map (·.1)) spare':=by
    simp only[DataW.trod,ht] at h
    split at h
    · obtain⟨elems',he',h⟩:=Option.bind_eq_some_iff.1 h
      rw[hr,hel] at he'
      cases he'
      obtain⟨rest,_,h⟩:=Option.map_eq_some_iff.1 h
      cases h
      exact⟨_,rfl⟩
    · cases h
  obtain⟨spare',hd⟩:=hd
  rw[hd] at hwt
  simp only[DataW.weights,ht,List.all_cons,Bool.and_eq_true,List.all_append,decide_eq_true_eq] at hwt
  have hlenE:elems.length=len:=by
    have:=mapM_some_length hel
    simpa using this
  have hreach:len≤reachBytes:=by
    have h1:=hwt.1
    rw[List.length_map,hlenE] at h1
    have h2:len+spare'.length≤(len+spare'.length) * P.bytesOf e:=Nat.le_mul_of_pos_right _ hby
    omega
  rcases Nat.eq_zero_or_pos len with rfl | hlen
  · exact⟨[⟨24,1,0,r,0,[]⟩],⟨1,[],rfl,by omega,(fun h=>by cases h),(Nat.zero_le _),(fun x hx=>by cases hx)⟩,.cons (.empty 0 r a cap) .nil⟩
  have key:∀ i,i<len→∃ as vs,R as∧FZs (allZ W) as vs∧vs.length=r∧∀ j,j<r→W.cell? ((a.add (i * r)).add j)=vs[j]?:=by
    intro i hi
    obtain⟨y,hy,hy2⟩:=zjo hel i i (by simp[hi])
    obtain⟨vs,hvs,hy⟩:=Option.bind_eq_some_iff.1 hy
    obtain⟨as,h1,h2⟩:=hR X enc W spare held n vs y (by omega) hy (zti hwt.2.1 i y.1 (by rw[List.getElem?_map,hy2];rfl))
    obtain⟨_,g1,g2⟩:=World.cells?_some hvs
    exact⟨as,vs,h1,h2,g1,g2⟩
  obtain⟨_,vs0,_,_,l0,c0⟩:=key 0 hlen
  have c00:=c0 0 h0
  have e00:(a.add (0 * r)).add 0=a:=by simp[Addr.add]
  rw[e00,List.getElem?_eq_getElem (by omega)] at c00
  obtain⟨C,tt,fr,hC,_,hs⟩:=zhR c00
  have hz:=zmg hC
  have hat:∀ i,i<len→∃ as vs,R as∧FZs (allZ W) as vs∧vs.length=r∧∀ j,j<r→C[a.off+i * r+j]?=vs[j]?:=by
    intro i hi
    obtain⟨as,vs,h1,h2,h3,h4⟩:=key i hi
    refine⟨as,vs,h1,h2,h3,fun j hj=>?_⟩
    have h5:=h4 j hj
    have hb:((a.add (i * r)).add j).block=a.block∧((a.add (i * r)).add j).off=a.off+i * r+j:=by
      unfold Addr.add
      split<;>split<;>simp_all
    rw[List.getElem?_eq_getElem (by omega)] at h5 ⊢
    obtain⟨C',_,_,hC',hc',_⟩:=zhR h5
    rw[hb.1,hC] at hC'
    cases hC'
    rw[hb.2] at hc'
    exact hc'
  have hind:∀ m,m≤len→∃ es:List AV,es.length=m∧(∀ x ∈ es,∃ bs,R bs∧x=zbE agg bs)∧(∀ c ∈ es,zaO c=true∧(cellsOf c).length=r)∧FZs (allZ W) (zba es) ((C.toList.drop a.off).take (m * r))∧((C.toList.drop a.off).take (m * r)).length=m * r:=by
    intro m
    induction m with
    | zero=>intro _;exact⟨[],rfl,(fun x hx=>by cases hx),(fun x hx=>by cases hx),by simp;exact .nil,by simp⟩
    | succ m ih =>
      intro hm
      obtain⟨es,h1,h2,h3,h4,h5⟩:=ih (by omega)
      obtain⟨as,vs,g1,g2,g3,g4⟩:=hat m (by omega)
      obtain⟨k1,k2⟩:=zpc (agg:=agg) (r:=r) g2 g3 ha
      have hvs:((C.toList.drop a.off).drop (m * r)).take r=vs:=by
        apply List.ext_getElem?
        intro j
        by_cases hj:j<r
        · rw[List.getElem?_take_of_lt hj,List.getElem?_drop,List.getElem?_drop,← g4 j hj,Array.getElem?_toList]
          congr 1
          omega
        · rw[List.getElem?_eq_none (by simp;omega),List.getElem?_eq_none (by omega)]
      have ht1:(C.toList.drop a.off).take ((m+1) * r)=(C.toList.drop a.off).take (m * r)++vs:=by
        rw[Nat.succ_mul,List.take_add,hvs]
      refine⟨es++[zbE agg as],by simp[h1],?_,?_,?_,?_⟩
      · intro x hx
        rcases List.mem_append.1 hx with hx | hx
        · exact h2 x hx
        · exact⟨as,g1,by simpa using hx⟩
      · intro x hx
        rcases List.mem_append.1 hx with hx | hx
        · exact h3 x hx
        · have:x=zbE agg as:=by simpa using hx
          subst this
          exact⟨k1,by rw[k2,g2.length];exact g3⟩
      · rw[ht1,zdG,zbx,k2]
        have:zba ([]:List AV)=[]:=rfl
        rw[this,List.append_nil]
        exact h4.append g2
      · rw[ht1,List.length_append,h5,g3,Nat.succ_mul]
  obtain⟨es,h1,h2,h3,h4,h5⟩:=hind len (Nat.le_refl _)
  subst h1
  obtain⟨b,off,spot⟩:=a
  simp only at hs
  subst hs
  have hcap2:es.length≤cap:=by
    simp only[DataW.trod,ht] at h
    split at h
    · rename_i hc;exact hc.2.1
    · cases h
  refine⟨_,⟨1,es,rfl,by omega,(fun h=>by cases h),hreach,h2⟩,.cons ?_ .nil⟩
  refine FZ.sl 0 r 0 es b off cap C.toList _ hz h4 h3 hcap2 (fun h=>by cases h) (by omega) (by rw[h5]) hlen
end Go.Eng
namespace Go.Eng
open Go.RowKit
inductive Tm where
  | mk (op w v nq np p:Nat) (as:List Tm)
theorem Tm.ind{Q:Tm→Prop}(h:∀ op w v nq np p as,(∀ t ∈ as,Q t)→Q (.mk op w v nq np p as)):∀ t,Q t:=fun t =>
  Tm.rec (motive_1:=Q) (motive_2:=fun l=>∀ t ∈ l,Q t) (fun op w v nq np p as ih=>h op w v nq np p as ih) (fun t ht=>by cases ht) (fun a l ha hl t ht=>by
    rcases List.mem_cons.1 ht with rfl | ht
    · exact ha
    · exact hl t ht) t
noncomputable section
def stA(q x:Nat):AV:=⟨9,x,q,0,0,[]⟩
def tmV(op w v nq np p:Nat)(as:List AV):AV:=aggV [i64 op,i64 w,u64 v,stA nq np,slP p 5 as]
def tmA(t:Tm):AV:=Tm.rec (motive_1:=fun _=>AV) (motive_2:=fun _=>List AV) (fun op w v nq np p _ ih=>tmV op w v nq np p ih) [] (fun _ _ a l=>a::l) t
end
theorem zaP(op w v nq np p:Nat)(as:List Tm):tmA (.mk op w v nq np p as)=tmV op w v nq np p (as.map tmA):=by
  have key:∀ l:List Tm,(Tm.rec_1 (motive_1:=fun _=>AV) (motive_2:=fun _=>List AV) (fun op w v nq np p _ ih=>tmV op w v nq np p ih) [] (fun _ _ a l=>a::l) l:List AV)=l.map tmA:=by
    intro l
    induction l with
    | nil=>rfl
    | cons a l ih=>show tmA a::_=_;rw[ih];rfl
  show tmV op w v nq np p _=_
  rw[key]
def Tm.op:Tm→Nat | .mk op _ _ _ _ _ _=>op
def Tm.w:Tm→Nat | .mk _ w _ _ _ _ _=>w
def Tm.as:Tm→List Tm | .mk _ _ _ _ _ _ as=>as
inductive Tm.All(Q:Nat→Nat→Nat→Nat→Nat→Nat→List Tm→Prop):Tm→Prop
  | mk {op w v nq np p:Nat} {as:List Tm}:Q op w v nq np p as→(∀ t ∈ as,Tm.All Q t)→Tm.All Q (.mk op w v nq np p as)
def Tm.Q0(op w v nq _ p:Nat)(as:List Tm):Prop:=op<2 ^ 64∧w<2 ^ 64∧v<2 ^ 64∧p≤1∧(p=0→as=[])∧as.length≤reachBytes
def Tm.ok(t:Tm):Prop:=t.All Tm.Q0
theorem zyk:∀ a b:Tm,tmA a=tmA b→a=b:=by
  intro a
  induction a using Tm.ind with
  | h op w v nq np p as ih =>
    intro b h
    obtain⟨op',w',v',nq',np',p',as'⟩:=b
    rw[zaP,zaP] at h
    unfold tmV aggV i64 u64 stA slP at h
    simp only[AV.mk.injEq,List.cons.injEq,true_and,and_true] at h
    obtain⟨h1,h2,h3,⟨h5,h4⟩,h6,h7⟩:=h
    have hl:as=as':=by
      have key:∀ l l':List Tm,(∀ t ∈ l,∀ b,tmA t=tmA b→t=b)→l.map tmA=l'.map tmA→l=l':=by
        intro l
        induction l with
        | nil=>intro l' _ h;cases l' with
          | nil=>rfl
          | cons _ _=>cases h
        | cons a l ihl =>
          intro l' hi h
          cases l' with
          | nil=>cases h
          | cons b l' =>
            simp only[List.map_cons,List.cons.injEq] at h
            rw[hi a (by simp) b h.1,ihl l' (fun t ht=>hi t (by simp[ht])) h.2]
      exact key as as' ih h7
    subst h1 h2 h3 h4 h5 h6 hl
    rfl
def Tm.v:Tm→Nat | .mk _ _ v _ _ _ _=>v
def Tm.nq:Tm→Nat | .mk _ _ _ nq _ _ _=>nq
def Tm.np:Tm→Nat | .mk _ _ _ _ np _ _=>np
def Tm.p:Tm→Nat | .mk _ _ _ _ _ p _=>p
noncomputable section
open Classical in
def unTm(a:AV):Tm:=if h:∃ t,tmA t=a then h.choose else .mk 0 0 0 0 0 0 []
def tmE(t:Tm):AV:=tmV t.op t.w t.v t.nq t.np t.p (t.as.map tmA)
end
theorem ztm(t:Tm):tmE t=tmA t:=by
  cases t;rw[zaP];rfl
theorem zaZ(t:Tm):unTm (tmA t)=t:=by
  unfold unTm
  have h:∃ t',tmA t'=tmA t:=⟨t,rfl⟩
  rw[dif_pos h]
  exact zyk _ _ h.choose_spec
end Go.Eng
namespace Go.Eng
open Go.RowKit
mutual
def eqT:Tm→Tm→Bool
  | .mk op w v nq np _ as,.mk op' w' v' nq' np' _ bs=>(decide (op=op') && decide (w=w') && decide (v=v') && (decide (nq=nq') && decide (np=np'))) && eqTs as bs
def eqTs:List Tm→List Tm→Bool
  | [],[]=>true
  | a::as,b::bs=>eqT a b && eqTs as bs
  | _,_=>false
end
mutual
def cpT:Tm→Tm
  | .mk op w v nq np _ as=>.mk op w v nq np (if as.length=0 then 0 else 1) (cpTs as)
def cpTs:List Tm→List Tm
  | []=>[]
  | a::as=>cpT a::cpTs as
end
mutual
def cnt:Tm→Nat→Nat→Option Nat
  | .mk _ _ _ _ _ _ as,d,n=>if d=0 ∨ n=0 then none else cnts as (d - 1) (n - 1)
def cnts:List Tm→Nat→Nat→Option Nat
  | [],_,n=>some n
  | a::as,d,n=>match cnt a d n with | none=>none | some k=>cnts as d k
end
end Go.Eng
