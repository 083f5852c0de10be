/- GuardChecks returns true for every guard, facts and list of bound values and leaves them as they were; no conditions beyond the given row's own. -/
import Derived.Test.YtfmoohdaimlggaaGreatDoorGnJh
import Derived.Test.YtfmoohdaimlggaaGreatDoorRows
import Derived.Test.YtfmoohdaimlggaaGreatDoorCards
import Derived.Test.YtfmoohdaimlggaaGreatDoorTie
import Derived.ProofKit
import Derived.ChangeSame
import Derived.ChangeVars
import Derived.JoinedOf
import Derived.LaidLaws
import Derived.Lay
import Derived.Carry
import Derived.SevenTiedAt
namespace Go.Proofs.YtfmoohdaimlggaaGreatDoor
open Go.ChangeShapes Go.WideShapes Go.ChangeAt Go.RowKit Go.Eng
theorem Tryz.own:ownKnob Tryz.prog.godebug=none:=by kernel_rfl
theorem Tryz.laidOut:laidOutB Tryz.prog=true:=by kernel_rfl
def RInt(cs0:List AV):Prop:=∃ p,p<kMod 3∧cs0=[mk1 3 p]
def RU64(cs0:List AV):Prop:=∃ p,p<kMod 7∧cs0=[mk1 7 p]
def zjj(cs0:List AV):Prop:=∃ l:List UInt8,l.length≤reachBytes∧cs0=[⟨9,zaJ l,l.length,0,0,[]⟩]
theorem zx7{P:Program}{t:TypeId}(ht:P.underlying t=some .string):Rdb P t zjj:=by
  intro X enc W spare held fuel cs x h hwt
  have hv:∃ v,cs=[v]:=by
    cases fuel with
    | zero=>cases h
    | succ n =>
      simp only[DataW.trod,ht] at h
      split at h<;>rename_i h1 h2<;>first | (cases h;done) | (simp at h1;done) | (simp at h2;done) | exact⟨_,rfl⟩
  obtain⟨v,rfl⟩:=hv
  cases fuel with
  | zero=>cases h
  | succ n =>
    simp only[DataW.trod,ht] at h
    split at h<;>rename_i h1 h2<;>first | (cases h;done) | (simp at h1;done) | (simp at h2;done) | skip
    have h3:=(List.cons.inj h2).1
    subst h3
    rename_i s
    have hlen:s.data.toList.length≤reachBytes:=by
      split at h
      · have hx:=Option.some.inj h
        subst hx
        simpa [DataW.weights] using hwt
      · cases h
    refine⟨_,⟨s.data.toList,hlen,rfl⟩,.cons ?_ .nil⟩
    have:=FZ.str (z:=allZ W) s.data.toList 0 0 []
    have e:(⟨s.data.toList.toArray⟩:ByteArray)=s:=by cases s;simp
    rw[e] at this
    exact this
def RTm(cs0:List AV):Prop:=∃ t:Tm,(t.ok∧NmB t)∧cs0=(tmA t).cs
theorem rd3:Rdb Tryz.prog 3 RInt:=znN 3 (by decide) Tryz.underlying3
theorem rd22:Rdb Tryz.prog 22 RInt:=znN 3 (by decide) Tryz.underlying22
theorem rd23:Rdb Tryz.prog 23 RU64:=znN 7 (by decide) Tryz.underlying23
theorem rd9B:Rdb Tryz.prog 9 zjj:=zx7 Tryz.underlying9
theorem c3:Tryz.prog.cellsOf 3=1:=by kernel_rfl
theorem c22:Tryz.prog.cellsOf 22=1:=by kernel_rfl
theorem c23:Tryz.prog.cellsOf 23=1:=by kernel_rfl
theorem c9:Tryz.prog.cellsOf 9=1:=by kernel_rfl
theorem c24:Tryz.prog.cellsOf 24=1:=by kernel_rfl
theorem c26:Tryz.prog.cellsOf 26=5:=by kernel_rfl
theorem c28:Tryz.prog.cellsOf 28=11:=by kernel_rfl
theorem b26:0<Tryz.prog.bytesOf 26:=of_decide_eq_true (by kernel_rfl)
theorem k3:kMod 3=2 ^ 64:=by decide +kernel
theorem k7:kMod 7=2 ^ 64:=by decide +kernel
theorem zvE(op w v nq np p:Nat)(l:List Tm):(tmA (.mk op w v nq np p l)).cs=[i64 op,i64 w,u64 v,stA nq np,slP p 5 (l.map tmA)]:=by rw[zaP];rfl
theorem z03(t:Tm):aggV (tmA t).cs=tmA t:=by cases t;rw[zaP];rfl
theorem zx8:∀ {es:List AV},(∀ x ∈ es,∃ bs,RTm bs∧x=zbE true bs)→∃ X:List Tm,es=X.map tmA∧∀ t ∈ X,t.ok∧NmB t:=by
  intro es
  induction es with
  | nil=>intro _;exact⟨[],rfl,fun a h=>by cases h⟩
  | cons e es ih =>
    intro h
    obtain⟨bs,⟨t,h1,rfl⟩,rfl⟩:=h e (by simp)
    obtain⟨X,rfl,h2⟩:=ih fun x hx=>h x (by simp[hx])
    refine⟨t::X,by rw[List.map_cons,← z03 t];rfl,fun b hb=>?_⟩
    rcases List.mem_cons.1 hb with rfl | hb
    · exact h1
    · exact h2 b hb
theorem z3p{cs0:List AV}(h:Cat [RInt,RInt,RU64,zjj,ziE RTm true 5] cs0):RTm cs0:=by
  cases h with | cons h1 h=>cases h with | cons h2 h=>cases h with | cons h3 h=>cases h with | cons h4 h=>cases h with | cons h5 h=>cases h with | nil =>
  obtain⟨op,o1,rfl⟩:=h1
  obtain⟨w,o2,rfl⟩:=h2
  obtain⟨v,o3,rfl⟩:=h3
  obtain⟨s,hs,rfl⟩:=h4
  have hr:reachBytes<2 ^ 48:=by decide +kernel
  obtain⟨p,es,rfl,q1,q2,q3,q4⟩:=h5
  obtain⟨X,rfl,q5⟩:=zx8 q4
  rw[k3] at o1 o2
  rw[k7] at o3
  refine⟨.mk op w v s.length (zaJ s) p X,⟨.mk ⟨o1,o2,o3,q1,fun h=>List.map_eq_nil_iff.1 (q2 h),by simpa using q3⟩ fun t ht=>(q5 t ht).1,.mk (by omega) fun t ht=>(q5 t ht).2⟩,?_⟩
  rw[zvE];rfl
theorem rdT:∀ N,RdN Tryz.prog N 26 RTm∧RdN Tryz.prog N 24 (ziE RTm true 5):=by
  intro N
  induction N with
  | zero=>exact⟨.zero,.zero⟩
  | succ N ih =>
    refine⟨?_,ztl Tryz.underlying24 b26 5 c26 (by decide) true (fun h=>by cases h) ih.1⟩
    exact (zqW Tryz.underlying26 5 c26 (.cons 1 rfl c22 (rd22.n N) (.cons 1 rfl c3 (rd3.n N) (.cons 1 rfl c23 (rd23.n N) (.cons 1 rfl c9 (rd9B.n N) (.cons 1 rfl c24 ih.2 (.nil 5))))))).weaken fun cs h=>z3p h
theorem rd26:Rdb Tryz.prog 26 RTm:=.of fun N=>(rdT N).1
theorem rd28:Rdb Tryz.prog 28 (Cat [RInt,RTm,RTm]) :=
  zmi Tryz.underlying28 11 c28 (.cons 1 rfl c3 rd3 (.cons 5 rfl c26 rd26 (.cons 5 rfl c26 rd26 (.nil 11))))
theorem tm_V(t:Tm):(tmA t).cs=[i64 t.op,i64 t.w,u64 t.v,stA t.nq t.np,slP t.p 5 (t.as.map tmA)]:=by cases t;rw[zvE];rfl
theorem zuq{cs0:List AV}(h:Cat [RInt,RTm,RTm] cs0):∃ (k:Nat) (a b:Tm),(a.ok∧NmB a)∧(b.ok∧NmB b)∧aggV cs0=gdA k a b∧∀ c ∈ cs0,za6 c=true:=by
  cases h with | cons h1 h=>cases h with | cons h2 h=>cases h with | cons h3 h=>cases h with | nil =>
  obtain⟨k,_,rfl⟩:=h1
  obtain⟨a,ha,rfl⟩:=h2
  obtain⟨b,hb,rfl⟩:=h3
  refine⟨k,a,b,ha,hb,by rw[tm_V,tm_V];rfl,?_⟩
  intro c hc
  rw[tm_V,tm_V] at hc
  simp only[List.cons_append,List.nil_append,List.append_nil,List.mem_cons,List.not_mem_nil,or_false] at hc
  rcases hc with rfl | rfl | rfl | rfl | rfl | rfl | rfl | rfl | rfl | rfl | rfl<;>rfl
theorem z04{v:Value}{l:List Value}(h:v.cells.toList=l)(hl:2≤l.length):v=.agg l.toArray:=by
  cases v<;>first | (simp only[Value.cells] at h;subst h;simp at hl;done) | (simp only[Value.cells] at h;subst h;simp)
theorem z05{X:Type}{enc:TypeId × Value→X}{W:World}{spare:Nat→Bool}{held:Bool}{fuel:Nat}{v:Value}{x:DataW X × List MemPlace}(h:DataW.trod enc Tryz.prog W 0 spare held fuel 28 v.cells.toList=some x)(hw:(x.1.weights Tryz.prog 28).all (·≤reachBytes)=true) :
    ∃ (k:Nat) (a b:Tm),(a.ok∧NmB a)∧(b.ok∧NmB b)∧FV (allZ W) (gdA k a b) v:=by
  obtain⟨cs0,h1,h2⟩:=rd28 X enc W spare held fuel _ x h hw
  obtain⟨k,a,b,ha,hb,g2,g3⟩:=zuq h1
  have hlen:v.cells.toList.length=11:=by
    rw[← h2.length]
    have e:cs0=(gdA k a b).cs:=congrArg AV.cs g2
    rw[e];rfl
  have hv:=z04 (l:=v.cells.toList) rfl (by omega)
  refine⟨k,a,b,ha,hb,fun φ e=>?_⟩
  rw[hv,← g2]
  exact .agg 0 0 0 0 cs0 _ (FZs.vrs (φ:=φ) (by rw[e];exact h2)) g3
theorem c74:Tryz.prog.cellsOf 74=2:=by kernel_rfl
theorem b74:0<Tryz.prog.bytesOf 74:=of_decide_eq_true (by kernel_rfl)
theorem rd74:Rdb Tryz.prog 74 (Cat [zjj,RInt]):=zmi Tryz.underlying74 2 c74 (.cons 1 rfl c9 rd9B (.cons 1 rfl c3 rd3 (.nil 2)))
theorem rd29:Rdb Tryz.prog 29 (ziE (Cat [zjj,RInt]) true 2):=zuE Tryz.underlying29 b74 2 c74 (by decide) true (fun h=>by cases h) rd74
theorem zx9:∀ {es:List AV},(∀ x ∈ es,∃ bs,Cat [zjj,RInt] bs∧x=zbE true bs)→∃ vs:List (Nat × Nat × Nat),es=vs.map vbA:=by
  intro es
  induction es with
  | nil=>intro _;exact⟨[],rfl⟩
  | cons e es ih =>
    intro h
    obtain⟨bs,hb,rfl⟩:=h e (by simp)
    obtain⟨vs,rfl⟩:=ih fun x hx=>h x (by simp[hx])
    cases hb with | cons g1 g2=>cases g2 with | cons g2 g3=>cases g3 with | nil =>
    obtain⟨s,q1,rfl⟩:=g1
    obtain⟨v,q2,rfl⟩:=g2
    exact⟨(s.length,zaJ s,v)::vs,rfl⟩
theorem zn2{X:Type}{enc:TypeId × Value→X}{W:World}{spare:Nat→Bool}{held:Bool}{fuel:Nat}{a:Option Addr}{len cap:Nat}{x:DataW X × List MemPlace}(h:DataW.trod enc Tryz.prog W 0 spare held fuel 29 (Value.slice a len cap).cells.toList=some x)(hw:(x.1.weights Tryz.prog 29).all (·≤reachBytes)=true) :
    ∃ (np:Nat) (vs:List (Nat × Nat × Nat)),vs.length<2 ^ 62∧FV (allZ W) (slP np 2 (vs.map vbA)) (.slice a len cap):=by
  have hr:reachBytes<2 ^ 48:=by decide +kernel
  obtain⟨cs0,⟨p,es,rfl,q1,q2,q3,q4⟩,h2⟩:=rd29 X enc W spare held fuel _ x h hw
  obtain⟨vs,rfl⟩:=zx9 q4
  refine⟨p,vs,by simp at q3;omega,fun φ e=>?_⟩
  have:=FZs.vrs (φ:=φ) (by rw[e];exact h2)
  cases this with
  | cons g _=>exact g
theorem z3q{W:World}(h:laidMet Tryz.prog Rows.guardChecksRow.laid W):zhS W LA∧Tryz.prog.globals.size≤W.heap.size:=by
  have g1:Tryz.prog.globalNamed "internal/strconv.uint64pow10"=some 1:=by kernel_rfl
  have g2:Tryz.prog.globalNamed "math/bits.deBruijn32tab"=some 2:=by kernel_rfl
  have g3:Tryz.prog.globalNamed "math/bits.deBruijn64tab"=some 3:=by kernel_rfl
  have d1:dav 4 Rows.laid_math_bits_deBruijn32tab=some (zdq Rows.laid_math_bits_deBruijn32tab):=by kernel_rfl
  have d2:dav 4 Rows.laid_math_bits_deBruijn64tab=some (zdq Rows.laid_math_bits_deBruijn64tab):=by kernel_rfl
  have d3:dav 4 Rows.laid_internal_strconv_uint64pow10=some (zdq Rows.laid_internal_strconv_uint64pow10):=by kernel_rfl
  have n1:(zdq Rows.laid_math_bits_deBruijn32tab).isEmpty=false:=by kernel_rfl
  have n2:(zdq Rows.laid_math_bits_deBruijn64tab).isEmpty=false:=by kernel_rfl
  have n3:(zdq Rows.laid_internal_strconv_uint64pow10).isEmpty=false:=by kernel_rfl
  refine⟨zuI Tryz.laidOut h fun g hg=>?_,ztk h (n:= "math/bits.deBruijn64tab") (d:=Rows.laid_math_bits_deBruijn64tab) (by simp[Rows.guardChecksRow]) g3 zrC⟩
  unfold LA at hg
  simp only[List.mem_cons,List.not_mem_nil,or_false] at hg
  rcases hg with rfl | rfl | rfl
  · exact⟨_,_,4,by simp[Rows.guardChecksRow],g2,d1,fun e=>by have e':zdq Rows.laid_math_bits_deBruijn32tab=[]:=e;rw[e'] at n1;cases n1⟩
  · exact⟨_,_,4,by simp[Rows.guardChecksRow],g3,d2,fun e=>by have e':zdq Rows.laid_math_bits_deBruijn64tab=[]:=e;rw[e'] at n2;cases n2⟩
  · exact⟨_,_,4,by simp[Rows.guardChecksRow],g1,d3,fun e=>by have e':zdq Rows.laid_internal_strconv_uint64pow10=[]:=e;rw[e'] at n3;cases n3⟩
noncomputable def zqD(os:Os):World:=World.laidAll Tryz.prog os Rows.guardChecksRow.laid
theorem zsA(os:Os)(args:Array Value):laidMetH Tryz.prog Rows.guardChecksRow.laid ((zqD os).forCall (fun _ _=>0) ⟨#[],args,[]⟩).memory:=by
  have h:laidMet Tryz.prog Rows.guardChecksRow.laid ((zqD os).forCall (fun _ _=>0) ⟨#[],args,[]⟩).memory:=laidMet_laidAll _ (by kernel_rfl) (by kernel_rfl)
  exact h
noncomputable def wit:Array Value:=#[.agg #[.int .i64 0,.int .i64 0,.int .i64 0,.int .u64 0,.string .empty,.slice none 0 0,.int .i64 0,.int .i64 0,.int .u64 0,.string .empty,.slice none 0 0],.slice none 0 0,.slice none 0 0]
set_option maxRecDepth 100000 in
theorem zi2(os:Os)(started:os.Started)(H:Type)(enc:TypeId × Value→H) :
    ReturnsInHanded {} Tryz.checked os 3 .any (fun w args=>(Rows.guardChecksSpec.pre enc Tryz.prog Tryz.f3 [] false w args∧laidMetH Tryz.prog Rows.guardChecksRow.laid w)∧sizedMet enc Tryz.prog Tryz.f3 (OpenSpec.ofChange Rows.guardChecksSpec) false w args)
      (Rows.guardChecksSpec.post enc Tryz.prog Tryz.f3 false true false false):=by
  refine returnsInHanded_of_change_and (C:=Tryz.checked) (X:=fun w _=>laidMetH Tryz.prog Rows.guardChecksRow.laid w) (fun _ _ _ hh h=>h.of_heap hh) Tryz.own started (by kernel_rfl) Tryz.func3
    (ChangeSpec.witness_shaped (enc:=enc) (C:=Tryz.checked) (os:=os) (X:=fun w _=>laidMetH Tryz.prog Rows.guardChecksRow.laid w) false (zqD os) wit 8 rfl (World.shaped_of_ZipB (by kernel_rfl) (by kernel_rfl)) (by kernel_rfl) (by kernel_rfl) (by kernel_rfl) (zsA os _)) ?_
  intro W base args ds gs before hval0 hW _ hwt hL _
  have hW':=hW
  obtain⟨p,q,hA0,hV0,rfl,hfz,hnd⟩:=hW
  have hA:DataW.TrodAll enc Tryz.prog W 0 (fun _=>true) true Tryz.f3.params.toList args.toList ds p:=hA0
  have hV:DataW.TrodVars enc Tryz.prog W (fun _=>true) [] gs q:=hV0
  have hval:∀ (j:Nat) t v,Tryz.f3.params[j]?=some t→args[j]?=some v→Value.okWide Tryz.prog W .any base t v:=hval0
  rw[Tryz.params3] at hA hval
  have hlt:=DataW.TrodAll.lt hA
  obtain⟨v0,v1,v2,d0,d1,d2,p0,p1,p2,rfl,rfl,rfl,h0,h1,h2⟩:=trodAll_three hA
  obtain⟨rfl,rfl⟩:gs=[]∧q=[]:=by
    cases gs with
    | nil=>exact⟨rfl,hV⟩
    | cons g r=>exact absurd hV (by intro h;cases h)
  have e1:Rows.guardChecksSpec.fn H ([d0,d1,d2]++[])={ results:=[.lit (.bool true)],args:=[d0,d1,d2] }:=by simp[Rows.guardChecksSpec]
  have hwt':(DataW.weightsEach Tryz.prog [28,29,29] [d0,d1,d2]).all (·≤reachBytes)=true:=by
    have h:=hwt
    rw[Tryz.params3] at h
    exact h
  obtain⟨sa1,len1,cap1,rfl⟩:=okWide_slice Tryz.underlying29 (hval 1 29 v1 rfl rfl)
  obtain⟨sa,len,cap,rfl⟩:=okWide_slice Tryz.underlying29 (hval 2 29 v2 rfl rfl)
  obtain⟨f0,t0⟩:=id h0
  obtain⟨f1,t1⟩:=id h1
  obtain⟨f2,t2⟩:=id h2
  obtain⟨k,a,b,oa,ob,z0⟩:=z05 t0 (zhm hwt' 0 28 d0 rfl rfl)
  obtain⟨np1,vs,j1,z1⟩:=zn2 t1 (zhm hwt' 1 29 d1 rfl rfl)
  obtain⟨np,us,j2,z2⟩:=zn2 t2 (zhm hwt' 2 29 d2 rfl rfl)
  obtain⟨hl,hsz⟩:=z3q hL
  have hargs:FVs (allZ W) [gdA k a b,slP np1 2 (vs.map vbA),slP np 2 (us.map vbA)] [v0,.slice sa1 len1 cap1,.slice sa len cap]:=fun φ e=>.cons (z0 φ e) (.cons (z1 φ e) (.cons (z2 φ e) .nil))
  refine (zqa k a b np1 np vs us oa ob j1 j2 hl hsz hargs).mono fun e W' ⟨he,hb⟩=>?_
  subst he
  refine⟨_,rfl,_,_,_,[],p0++(p1++p2),[],hW',?_,?_,?_,hb.frame _,fun h=>by cases h⟩
  · rw[e1];exact trodAll_mk1 (shut_bool Tryz.underlying4 true)
  · rw[e1]
    exact trodAll_mk3 (Below.trod Tryz.laidOut (by kernel_rfl) (of_decide_eq_true (by kernel_rfl)) h0 hb fun x hx=>hlt x (by simp[hx])) (Below.trod Tryz.laidOut (by kernel_rfl) (of_decide_eq_true (by kernel_rfl)) h1 hb fun x hx=>hlt x (by simp[hx])) (Below.trod Tryz.laidOut (by kernel_rfl) (of_decide_eq_true (by kernel_rfl)) h2 hb fun x hx=>hlt x (by simp[hx]))
  · rw[e1];rfl
end Go.Proofs.YtfmoohdaimlggaaGreatDoor
