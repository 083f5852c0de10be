/- A part of the proof that the evaluator in GnC, and the driver in GnZ, answer as the model does; no conditions. -/
import Derived.Test.YtfmoohdaimlggaaGreatDoorGnDa
namespace Go.Eng
open Go.RowKit
variable {P:Program} {w0:World} {r:Rec} {N:Nat} {H0:Hp} {φ0:Ph} {L:RL} {all:Array Oper} {k:BR} {ord:List DI}
def Li(ls:Array Bool)(i:Nat):Prop:=ls.getD i false=true
def SemN(P:Program)(o:Oper)(T:Fr)(B:AB)(mk:Nat→AV):Prop:=∀ (φ:Ph) (a:Act) (w:World),GL P φ→(∀ t ∈ zdb (opsC (opOf P o)),VR φ ((getB t).run T) (a.tmps.getD t undef)) →
  ∃ obj val,(execOp a.eval o).run P w=.ok (.value val) (w.alloc obj)∧BRel P φ w.heap.size B obj∧∀ (φ':Ph) n,φ' n=some w.heap.size→VR φ' (mk n) val
theorem SemN.congr{o:Oper}{T T':Fr}{B:AB}{mk:Nat→AV}(h:SemN P o T B mk)(he:∀ t ∈ zdb (opsC (opOf P o)),(getB t).run T=(getB t).run T'):SemN P o T' B mk :=
  fun φ a w hgl hv=>h φ a w hgl fun t ht=>by rw[he t ht];exact hv t ht
structure PreX(X:BR)(P:Program)(w0:World)(r:Rec)(N:Nat)(H0:Hp)(φ0:Ph)(L:RL)(all:Array Oper)(k:BR)(ord:List DI)(ls:Array Bool)(a:Act)(w:World)(done rest:List DI)(T:Fr)(H:Hp)(φ:Ph)(β:Nat→Option Nat):Prop where
  split:ord=done.reverse++rest
  run:∀ x ∈ X.run r T H,x ∈ L
  hr:HR P w0 H φ w
  ex:EX H0 φ0 H φ
  size:N≤a.tmps.size
  defers:DM φ (zaK T) a.defers
  hard:∀ b ∈ done,b.cls=2→Li ls b.i
  listed:∀ i,Li ls i→∃ b ∈ done,b.i=i
  closed:∀ b ∈ done,Li ls b.i→∀ j,b.dm.testBit j=true→Li ls j
  val:∀ t,(∀ b ∈ done,b.cls ≠ 2→¬ Li ls b.i→b.d ≠ t)→VR φ ((getB t).run T) (a.tmps.getD t undef)
  look:∀ b ∈ done,b.cls=0→¬ Li ls b.i→∀ c,b.x.run r T H c=c H ((getB b.d).run T)
  make:∀ b ∈ done,b.cls=1→¬ Li ls b.i→(β b.i=none∧∀ H c,b.x.run r T H c=c H ((getB b.d).run T)) ∨ ∃ y o B mk,β b.i=some y∧all[b.i]?=some o∧(GdT all o T∧B.kind=1)∧SemN P o T B mk∧(∀ H c,b.x.run r T H c=newC H B mk c)∧(getB b.d).run T=mk y∧hget H y=B∧φ y=none∧y<H.n∧H0.n≤y
  apart:∀ b ∈ done,∀ b' ∈ done,b.cls=1→b'.cls=1→¬ Li ls b.i→¬ Li ls b'.i→∀ y,β b.i=some y→β b'.i=some y→b.i=b'.i
abbrev Pre(P:Program)(w0:World)(r:Rec)(N:Nat)(H0:Hp)(φ0:Ph)(L:RL)(all:Array Oper)(k:BR)(ord:List DI)(ls:Array Bool)(a:Act)(w:World)(done rest:List DI)(T:Fr)(H:Hp)(φ:Ph)(β:Nat→Option Nat):Prop :=
  PreX (dgo k done rest) P w0 r N H0 φ0 L all k ord ls a w done rest T H φ β
section facts
variable (hO:OrdOk P N all ord)
include hO
theorem zcu{b:DI}(hb:b ∈ ord):∃ o,all[b.i]?=some o∧b.x=runG P all o∧b.rd=appL (gdOf all o) (zdb (opsC (opOf P o)))∧b.cls=zcO o∧b.d=dOf o.dst∧b.dm=dmOf o.after.toList∧okOf N all o=true:=by
  obtain⟨o,h1,h2⟩:=hO.mem b hb
  refine⟨o,h1,by rw[h2];rfl,by rw[h2];rfl,by rw[h2];rfl,by rw[h2];rfl,by rw[h2];rfl,?_⟩
  have:=hO.ok b hb
  rw[h2] at this
  exact this
theorem zkb{b:DI}(hb:b ∈ ord)(hc:b.cls ≠ 2):b.d<511∧b.d<N:=by
  obtain⟨o,_,_,_,h3,h4,_,h5⟩:=zcu hO hb
  obtain⟨_,h6⟩:=zaw.1 (show bi (allL (fun d=>nble (Nat.succ d) N) (gdOf all o)) (match o.dst with | some d=>bi (nble (Nat.succ d) N) (nble (Nat.succ d) 511) false | none=>nbeq (zcO o) 2) false=true from h5)
  cases hd:o.dst with
  | none=>rw[hd] at h6;exact absurd (h3.trans (zaa.1 h6)) hc
  | some d =>
    rw[hd] at h6 h4
    obtain⟨h7,h8⟩:=zaw.1 h6
    have e:b.d=d:=h4
    exact⟨by rw[e];exact zah.1 h8,by rw[e];exact zah.1 h7⟩
theorem zo6{b:DI}(hb:b ∈ ord):b.cls=0 ∨ b.cls=1 ∨ b.cls=2:=by
  obtain⟨o,_,_,_,h3,_⟩:=zcu hO hb
  rw[h3]
  unfold zcO
  repeat' split
  all_goals simp
theorem zla{done rest:List DI}{b b':DI}(hs:ord=done.reverse++b::rest)(hc:b.cls ≠ 2)(hb':b' ∈ done ∨ b'=b):b.d ∉ b'.rd:=by
  intro hm
  have hb:b ∈ ord:=by rw[hs];simp
  have hbo:b' ∈ ord:=by
    rcases hb' with h | rfl
    · rw[hs];simp[h]
    · exact hb
  have hd:=(zkb hO hb hc).1
  rcases (ziY (hO.pair b hb b' hbo) (by omega)).1 hm with h | ⟨h,_⟩
  · rcases hb' with hb' | rfl
    · obtain⟨l1,l2,e⟩:=List.append_of_mem (List.mem_reverse.2 hb')
      have hs':ord=l1++b'::(l2++b::rest):=by rw[hs,e];simp
      rcases hO.topo.down l1 b' _ hs' _ h with h1 | ⟨b'',h1,h2⟩
      · simp at h1
      · exact hO.topo.nodup _ _ _ hs b'' (by rw[e];simp[h1]) h2
    · rcases hO.topo.down _ b' _ hs _ h with h1 | ⟨b'',h1,h2⟩
      · simp at h1
      · exact hO.topo.nodup _ _ _ hs b'' h1 h2
  · exact hc h
theorem ziZ{done rest:List DI}{b b':DI}(hs:ord=done.reverse++b::rest)(hd:b.d ≠ 512)(hb':b' ∈ done):b.d ≠ b'.d:=by
  refine (ziY (hO.pair b (by rw[hs];simp) b' (by rw[hs];simp[hb'])) hd).2 fun e=>?_
  exact hO.topo.nodup _ _ _ hs b' (by simp[hb']) e.symm
theorem zex{ls:Array Bool}{done rest:List DI}{b:DI}(hs:ord=done.reverse++b::rest)(hl:∀ i,Li ls i→∃ b ∈ done,b.i=i):∀ b' ∈ b::rest,¬ Li ls b'.i:=by
  intro b' hb' hli
  obtain⟨b'',h1,h2⟩:=hl _ hli
  obtain⟨l1,l2,e⟩:=List.append_of_mem hb'
  have hs':ord=(done.reverse++l1)++b'::l2:=by rw[hs,e];simp
  exact hO.topo.nodup _ _ _ hs' b'' (by simp[h1]) h2
end facts
section steps
variable {ls:Array Bool} {a:Act} {w:World} {done rest:List DI} {T:Fr} {H:Hp} {φ:Ph} {β:Nat→Option Nat} {X:BR}
theorem zlb(hL:AllOk L)(l:List DI)(hs:∀ b ∈ l,zbV H (b.x.run r T H)){M:RL}(h:∀ x ∈ (recK l).run r T H M,x ∈ L) :
    (∀ b ∈ l,∀ c,b.x.run r T H c=c H ((getB b.d).run T))∧∀ x ∈ M,x ∈ L:=by
  induction l with
  | nil=>exact⟨fun b hb=>(by cases hb),h⟩
  | cons b l ih =>
    have h:∀ x ∈ b.x.run r T H (fun _ v=>bi (eqA 1000 v ((getB b.d).run T)) ((recK l).run r T H M) (zab 90)),x ∈ L:=h
    rcases hs b List.mem_cons_self with⟨n,hn⟩ | ⟨v,hv⟩
    · rw[hn] at h;exact (zaq hL h).elim
    · rw[hv] at h
      cases he:eqA 1000 v ((getB b.d).run T)
      · simp only[he,zai] at h;exact (zaq hL h).elim
      · simp only[he,zag] at h
        obtain⟨h1,h2⟩:=ih (fun b hb=>hs b (List.mem_cons_of_mem _ hb)) h
        refine⟨fun b' hb' c=>?_,h2⟩
        cases hb' with
        | head=>rw[hv,zjV _ _ _ he]
        | tail _ hb'=>exact h1 b' hb' c
theorem zcP(hO:OrdOk P N all ord){b:DI}(hb:b ∈ ord){T':Fr}(h:∀ t ∈ b.rd,(getB t).run T=(getB t).run T')(H:Hp)(c:Kont):b.x.run r T H c=b.x.run r T' H c:=by
  obtain⟨o,_,h1,h2,_⟩:=zcu hO hb
  rw[h1]
  exact zpB fun t ht=>h t (by rw[h2];exact ht)
theorem PreX.mem(hp:PreX X P w0 r N H0 φ0 L all k ord ls a w done rest T H φ β):∀ b ∈ done,b ∈ ord:=fun b hb=>by rw[hp.split];simp[hb]
theorem zfh(hO:OrdOk P N all ord)(hp:PreX X P w0 r N H0 φ0 L all k ord ls a w done rest T H φ β){ls':Array Bool}{T':Fr}{H':Hp}{φ':Ph}{b:DI}(hb:b ∈ done)(hc:b.cls=1)(hn:¬ Li ls b.i)
    (h1:∀ t ∈ b.rd,(getB t).run T=(getB t).run T') (h2:(getB b.d).run T=(getB b.d).run T') (h3:∀ p,p<H.n→φ p=none→(hget H p).kind ≠ 6→hget H' p=hget H p∧φ' p=none) (h4:H.n≤H'.n) :
    (β b.i=none∧∀ H c,b.x.run r T' H c=c H ((getB b.d).run T')) ∨ ∃ y o B mk,β b.i=some y∧all[b.i]?=some o∧(GdT all o T'∧B.kind=1)∧SemN P o T' B mk∧(∀ H c,b.x.run r T' H c=newC H B mk c)∧(getB b.d).run T'=mk y∧hget H' y=B∧φ' y=none∧y<H'.n∧H0.n≤y:=by
  rcases hp.make b hb hc hn with⟨e0,e1⟩ | ⟨y,o,B,mk,e0,e1,e2,e3,e4,e5,e6,e7,e8,e9⟩
  · exact .inl ⟨e0,fun H c=>by rw[← zcP hO (hp.mem b hb) h1,e1,h2]⟩
  obtain⟨o',f1,_,f2,_⟩:=zcu hO (hp.mem b hb)
  rw[e1] at f1;cases f1
  obtain⟨g1,g2⟩:=h3 _ e8 e7 (by rw[e6,e2.2];decide)
  exact .inr ⟨y,o,B,mk,e0,e1,⟨e2.1.congr fun t ht=>h1 t (by rw[f2,zaV];exact List.mem_append_left _ ht),e2.2⟩,e3.congr fun t ht=>h1 t (by rw[f2,zaV];exact List.mem_append_right _ ht),fun H c=>by rw[← zcP hO (hp.mem b hb) h1];exact e4 H c,by rw[← h2];exact e5,by rw[g1];exact e6,g2,by omega,e9⟩
noncomputable def dbody(k:BR)(done:List DI)(a:DI)(l:List DI):BR:=bi (nbeq a.cls 0) ⟨fun r T H=>a.x.run r T H fun H v=>(dgo k (a::done) l).run r ((setB a.d).run T v) H⟩
      ⟨fun r T H=>a.x.run r T H fun H v=>(recK (chk done (bi (nbeq a.cls 2) a.dm 0))).run r ((setB a.d).run T v) H ((dgo k (a::done) l).run r ((setB a.d).run T v) H)⟩
theorem zrx{g:List Nat}{x:BR}(hL:AllOk L)(h:∀ y ∈ (zm2 g x).run r T H,y ∈ L):∃ T',(∀ t,(getB t).run T=(getB t).run T')∧zaK T'=zaK T∧∀ y ∈ x.run r T' H,y ∈ L:=by
  have key:∀ (d n:Nat),((getB d).run T).tag=8→((getB d).run T).p=n→∀ t,(getB t).run T=(getB t).run ((setB d).run T ⟨8,n,((getB d).run T).q,((getB d).run T).r,((getB d).run T).s,((getB d).run T).cs⟩):=by
    intro d n h8 hn t
    rw[zbr]
    split
    · rename_i h
      rw[← h.1]
      generalize (getB d).run T=v at h8 hn
      cases v
      cases h8
      cases hn
      rfl
    · rfl
  unfold zm2 at h
  split at h
  · rename_i d
    simp only[] at h
    cases h8:nbeq ((getB d).run T).tag 8
    · rw[h8,zai] at h
      exact⟨T,fun _=>rfl,rfl,h⟩
    · rw[h8,zag] at h
      cases h1:nbeq ((getB d).run T).p 1
      · rw[h1,zai] at h
        cases h0:nbeq ((getB d).run T).p 0
        · rw[h0] at h;exact (zaq hL h).elim
        · rw[h0,zag] at h
          exact⟨_,key d 0 (zaa.1 h8) (zaa.1 h0),zb1 _ _ _,h⟩
      · rw[h1,zag] at h
        exact⟨_,key d 1 (zaa.1 h8) (zaa.1 h1),zb1 _ _ _,h⟩
  · exact⟨T,fun _=>rfl,rfl,h⟩
theorem Pre.gate(hO:OrdOk P N all ord)(hL:AllOk L){b:DI}(hp:Pre P w0 r N H0 φ0 L all k ord ls a w done (b::rest) T H φ β):∃ T',PreX (dbody k done b rest) P w0 r N H0 φ0 L all k ord ls a w done (b::rest) T' H φ β:=by
  obtain⟨T',h1,h2,h3⟩:=zrx hL (show ∀ y ∈ (zm2 b.g (dbody k done b rest)).run r T H,y ∈ L from hp.run)
  exact⟨T',hp.split,h3,hp.hr,hp.ex,hp.size,by rw[h2];exact hp.defers,hp.hard,hp.listed,hp.closed,fun t ht=>by rw[← h1];exact hp.val t ht,
    fun b' hb' h0 hl c=>by rw[← zcP hO (hp.mem b' hb') (fun t _=>h1 t),← h1];exact hp.look b' hb' h0 hl c,
    fun b' hb' hc hn=>zfh (ls':=ls) hO hp hb' hc hn (fun t _=>h1 t) (h1 _) (fun p _ h _=>⟨rfl,h⟩) (Nat.le_refl _),hp.apart⟩
theorem Pre.soft(hO:OrdOk P N all ord)(hL:AllOk L){b:DI}(hp:Pre P w0 r N H0 φ0 L all k ord ls a w done (b::rest) T H φ β)(hc:b.cls=0):∃ T',Pre P w0 r N H0 φ0 L all k ord ls a w (b::done) rest T' H φ β:=by
  have hbo:b ∈ ord:=by rw[hp.split];simp
  obtain⟨T,hp⟩:=Pre.gate hO hL hp
  have hrun:=hp.run
  have e:(dbody k done b rest).run r T H=b.x.run r T H fun H v=>(dgo k (b::done) rest).run r ((setB b.d).run T v) H:=by
    show (bi (nbeq b.cls 0) _ _:BR).run r T H=_
    rw[zaa.2 hc];rfl
  rw[e] at hrun
  have hsoft:zbV H (b.x.run r T H):=by
    obtain⟨o,_,h1,_,h3,_⟩:=zcu hO hbo
    rw[h1];exact zgn (h3.symm.trans hc)
  rcases hsoft with⟨n,hn⟩ | ⟨v,hv⟩
  · rw[hn] at hrun;exact (zaq hL hrun).elim
  rw[hv] at hrun
  have hd:=zkb hO hbo (by omega)
  have hT:∀ t,t ≠ b.d→(getB t).run T=(getB t).run ((setB b.d).run T v):=fun t ht=>by rw[zbr,if_neg (fun h=>ht h.1.symm)]
  have hTd:(getB b.d).run ((setB b.d).run T v)=v:=by rw[zbr,if_pos ⟨rfl,hd.1⟩]
  have hrd:∀ b',b' ∈ done ∨ b'=b→∀ t ∈ b'.rd,(getB t).run T=(getB t).run ((setB b.d).run T v):=fun b' hb' t ht=>hT t fun e=>zla hO hp.split (by omega) hb' (e ▸ ht)
  have hdd:∀ b' ∈ done,(getB b'.d).run T=(getB b'.d).run ((setB b.d).run T v):=fun b' hb'=>hT _ (Ne.symm (ziZ hO hp.split (by omega) hb'))
  refine⟨(setB b.d).run T v,⟨by rw[hp.split];simp,hrun,hp.hr,hp.ex,hp.size,by rw[zb1];exact hp.defers,?_,?_,?_,?_,?_,?_,?_⟩⟩
  · intro b' hb' h2
    cases hb' with
    | head=>omega
    | tail _ hb'=>exact hp.hard b' hb' h2
  · intro i hi
    obtain⟨b',h1,h2⟩:=hp.listed i hi
    exact⟨b',List.mem_cons_of_mem _ h1,h2⟩
  · intro b' hb' hl
    cases hb' with
    | head=>exact absurd hl (zex hO hp.split hp.listed b List.mem_cons_self)
    | tail _ hb'=>exact hp.closed b' hb' hl
  · intro t ht
    rw[← hT t (fun e=>ht b List.mem_cons_self (by omega) (zex hO hp.split hp.listed b List.mem_cons_self) e.symm)]
    exact hp.val t fun b' hb'=>ht b' (List.mem_cons_of_mem _ hb')
  · intro b' hb' h0 hl c
    cases hb' with
    | head=>rw[← zcP hO hbo (hrd b (.inr rfl)),hv,hTd]
    | tail _ hb'=>rw[← zcP hO (hp.mem b' hb') (hrd b' (.inl hb')),← hdd b' hb'];exact hp.look b' hb' h0 hl c
  · intro b' hb' h1 hl
    cases hb' with
    | head=>omega
    | tail _ hb'=>exact zfh (ls':=ls) hO hp hb' h1 hl (hrd b' (.inl hb')) (hdd b' hb') (fun p _ h _=>⟨rfl,h⟩) (Nat.le_refl _)
  · intro b1 hb1 b2 hb2 h1 h2
    cases hb1 with
    | head=>omega
    | tail _ hb1=>cases hb2 with
      | head=>omega
      | tail _ hb2=>exact hp.apart b1 hb1 b2 hb2 h1 h2
theorem Pre.new(hO:OrdOk P N all ord)(hL:AllOk L){b:DI}(hp:Pre P w0 r N H0 φ0 L all k ord ls a w done (b::rest) T H φ β)(hc:b.cls=1):∃ T' H' β',Pre P w0 r N H0 φ0 L all k ord ls a w (b::done) rest T' H' φ β':=by
  have hbo:b ∈ ord:=by rw[hp.split];simp
  obtain⟨T,hp⟩:=Pre.gate hO hL hp
  have hrun:=hp.run
  have e:(dbody k done b rest).run r T H=b.x.run r T H fun H v=>(recK (chk done 0)).run r ((setB b.d).run T v) H ((dgo k (b::done) rest).run r ((setB b.d).run T v) H):=by
    show (bi (nbeq b.cls 0) _ _:BR).run r T H=_
    rw[zam.2 (show b.cls ≠ 0 by omega)]
    show b.x.run r T H (fun H v=>(recK (chk done (bi (nbeq b.cls 2) b.dm 0))).run r ((setB b.d).run T v) H _)=_
    rw[zam.2 (show b.cls ≠ 2 by omega)];rfl
  rw[e] at hrun
  obtain⟨o,ho,h1,h2,h3,_,_,_⟩:=zcu hO hbo
  have hnl:=zex hO hp.split hp.listed b List.mem_cons_self
  have hd:=zkb hO hbo (by omega)
  have hne:∀ b' ∈ done,b'.i ≠ b.i:=fun b' hb'=>hO.topo.nodup _ _ _ hp.split b' (by simp[hb'])
  rcases zrt (P:=P) (r:=r) (T:=T) (all:=all) (o:=o) (h3.symm.trans hc) with⟨n,hn⟩ | hskip | ⟨B,mk,hBm,hgn,hsem⟩
  · rw[h1,hn] at hrun;exact (zaq hL hrun).elim
  ·
    rw[h1,hskip] at hrun
    have hsoft:∀ b' ∈ chk done 0,zbV H (b'.x.run r ((setB b.d).run T udV) H):=by
      intro b' hb'
      obtain⟨g1,g2⟩:=zkZ b' hb'
      obtain⟨o',_,g3,_,g4,_⟩:=zcu hO (hp.mem b' g1)
      rw[g3];exact zgn (g4.symm.trans g2)
    obtain⟨_,hrun⟩:=zlb hL _ hsoft hrun
    have hT:∀ t,t ≠ b.d→(getB t).run T=(getB t).run ((setB b.d).run T udV):=fun t ht=>by rw[zbr,if_neg (fun h=>ht h.1.symm)]
    have hTd:(getB b.d).run ((setB b.d).run T udV)=udV:=by rw[zbr,if_pos ⟨rfl,hd.1⟩]
    have hrd:∀ b',b' ∈ done ∨ b'=b→∀ t ∈ b'.rd,(getB t).run T=(getB t).run ((setB b.d).run T udV):=fun b' hb' t ht=>hT t fun e=>zla hO hp.split (by omega) hb' (e ▸ ht)
    have hdd:∀ b' ∈ done,(getB b'.d).run T=(getB b'.d).run ((setB b.d).run T udV):=fun b' hb'=>hT _ (Ne.symm (ziZ hO hp.split (by omega) hb'))
    have hβ:∀ b' ∈ done,(if b'.i=b.i then none else β b'.i)=β b'.i:=fun b' hb'=>if_neg (hne b' hb')
    refine⟨(setB b.d).run T udV,H,fun i=>if i=b.i then none else β i,⟨by rw[hp.split];simp,hrun,hp.hr,hp.ex,hp.size,by rw[zb1];exact hp.defers,?_,?_,?_,?_,?_,?_,?_⟩⟩
    · intro b' hb' h2
      cases hb' with
      | head=>omega
      | tail _ hb'=>exact hp.hard b' hb' h2
    · intro i hi
      obtain⟨b',h1,h2⟩:=hp.listed i hi
      exact⟨b',List.mem_cons_of_mem _ h1,h2⟩
    · intro b' hb' hl
      cases hb' with
      | head=>exact absurd hl hnl
      | tail _ hb'=>exact hp.closed b' hb' hl
    · intro t ht
      rw[← hT t (fun e=>ht b List.mem_cons_self (by omega) hnl e.symm)]
      exact hp.val t fun b' hb'=>ht b' (List.mem_cons_of_mem _ hb')
    · intro b' hb' h0 hl c
      cases hb' with
      | head=>omega
      | tail _ hb'=>rw[← zcP hO (hp.mem b' hb') (hrd b' (.inl hb')),← hdd b' hb'];exact hp.look b' hb' h0 hl c
    · intro b' hb' k1 hl
      cases hb' with
      | head=>exact .inl ⟨if_pos rfl,fun H c=>by rw[← zcP hO hbo (hrd b (.inr rfl)),h1,hskip,hTd]⟩
      | tail _ hb' =>
        simp only[hβ b' hb']
        exact zfh (ls':=ls) hO hp hb' k1 hl (hrd b' (.inl hb')) (hdd b' hb') (fun p _ h _=>⟨rfl,h⟩) (Nat.le_refl _)
    · intro b1 hb1 b2 hb2 k1 k2 l1 l2 y he1 he2
      cases hb1 with
      | head=>simp at he1
      | tail _ hb1=>cases hb2 with
        | head=>simp at he2
        | tail _ hb2 =>
          simp only[hβ b1 hb1] at he1
          simp only[hβ b2 hb2] at he2
          exact hp.apart b1 hb1 b2 hb2 k1 k2 l1 l2 y he1 he2
  rw[h1,hBm] at hrun
  unfold newC at hrun
  cases hb:nble H.n 32766
  · rw[hb] at hrun;exact (zaq hL hrun).elim
  rw[hb,zag] at hrun
  have hn:=zah.1 hb
  have hs:(hnew H B).n=H.n+1:=zcA _ _
  have hsoft:∀ b' ∈ chk done 0,zbV (hnew H B) (b'.x.run r ((setB b.d).run T (mk H.n)) (hnew H B)):=by
    intro b' hb'
    obtain⟨g1,g2⟩:=zkZ b' hb'
    obtain⟨o',_,g3,_,g4,_⟩:=zcu hO (hp.mem b' g1)
    rw[g3];exact zgn (g4.symm.trans g2)
  obtain⟨hrec,hrun⟩:=zlb hL _ hsoft hrun
  obtain⟨hr',hex'⟩:=hp.hr.early hn B
  have hT:∀ t,t ≠ b.d→(getB t).run T=(getB t).run ((setB b.d).run T (mk H.n)):=fun t ht=>by rw[zbr,if_neg (fun h=>ht h.1.symm)]
  have hTd:(getB b.d).run ((setB b.d).run T (mk H.n))=mk H.n:=by rw[zbr,if_pos ⟨rfl,hd.1⟩]
  have hrd:∀ b',b' ∈ done ∨ b'=b→∀ t ∈ b'.rd,(getB t).run T=(getB t).run ((setB b.d).run T (mk H.n)):=fun b' hb' t ht=>hT t fun e=>zla hO hp.split (by omega) hb' (e ▸ ht)
  have hdd:∀ b' ∈ done,(getB b'.d).run T=(getB b'.d).run ((setB b.d).run T (mk H.n)):=fun b' hb'=>hT _ (Ne.symm (ziZ hO hp.split (by omega) hb'))
  have hβ:∀ b' ∈ done,(if b'.i=b.i then some H.n else β b'.i)=β b'.i:=fun b' hb'=>if_neg (hne b' hb')
  refine⟨(setB b.d).run T (mk H.n),hnew H B,fun i=>if i=b.i then some H.n else β i,⟨by rw[hp.split];simp,hrun,hr',hp.ex.trans hex',hp.size,by rw[zb1];exact hp.defers,?_,?_,?_,?_,?_,?_,?_⟩⟩
  · intro b' hb' h2
    cases hb' with
    | head=>omega
    | tail _ hb'=>exact hp.hard b' hb' h2
  · intro i hi
    obtain⟨b',h1,h2⟩:=hp.listed i hi
    exact⟨b',List.mem_cons_of_mem _ h1,h2⟩
  · intro b' hb' hl
    cases hb' with
    | head=>exact absurd hl hnl
    | tail _ hb'=>exact hp.closed b' hb' hl
  · intro t ht
    rw[← hT t (fun e=>ht b List.mem_cons_self (by omega) hnl e.symm)]
    exact hp.val t fun b' hb'=>ht b' (List.mem_cons_of_mem _ hb')
  · intro b' hb' h0 hl c
    cases hb' with
    | head=>omega
    | tail _ hb'=>exact hrec b' (zo5 (S:=Li ls) done hp.closed 0 (fun j h=>by simp at h) b' hb' h0 hl) c
  · intro b' hb' k1 hl
    cases hb' with
    | head =>
      refine .inr ⟨H.n,o,B,mk,if_pos rfl,ho,⟨hgn.1.congr fun t ht=>hrd b (.inr rfl) t (by rw[h2,zaV];exact List.mem_append_left _ ht),hgn.2⟩,SemN.congr hsem fun t ht=>hrd b (.inr rfl) t (by rw[h2,zaV];exact List.mem_append_right _ ht),fun H c=>?_,hTd,?_,?_,?_,?_⟩
      · rw[← zcP hO hbo (hrd b (.inr rfl)),h1];exact hBm H c
      · rw[zaD (by omega) (by omega),if_pos rfl]
      · cases hφ:φ H.n with
        | none=>rfl
        | some x=>exact absurd (hp.hr.blk _ _ hφ).1 (by omega)
      · omega
      · exact hp.ex.n
    | tail _ hb' =>
      simp only[hβ b' hb']
      exact zfh (ls':=ls) hO hp hb' k1 hl (hrd b' (.inl hb')) (hdd b' hb') (fun p hlt h _=>⟨by rw[zaD (by omega) (by omega),if_neg (by omega)],h⟩) (by omega)
  · intro b1 hb1 b2 hb2 k1 k2 l1 l2 y he1 he2
    have hlt:∀ b' ∈ done,b'.cls=1→¬ Li ls b'.i→∀ y,β b'.i=some y→y<H.n:=fun b' hb' c1 c2 y hy=>by
      rcases hp.make b' hb' c1 c2 with⟨e0,_⟩ | ⟨y',_,_,_,e0,_,_,_,_,_,_,_,e8,_⟩
      · rw[e0] at hy;cases hy
      · rw[e0] at hy;cases hy;exact e8
    cases hb1 with
    | head=>cases hb2 with
      | head=>rfl
      | tail _ hb2 =>
        simp only[if_pos] at he1
        simp only[hβ b2 hb2] at he2
        cases he1
        exact absurd (hlt b2 hb2 k2 l2 _ he2) (by omega)
    | tail _ hb1=>cases hb2 with
      | head =>
        simp only[if_pos] at he2
        simp only[hβ b1 hb1] at he1
        cases he2
        exact absurd (hlt b1 hb1 k1 l1 _ he1) (by omega)
      | tail _ hb2 =>
        simp only[hβ b1 hb1] at he1
        simp only[hβ b2 hb2] at he2
        exact hp.apart b1 hb1 b2 hb2 k1 k2 l1 l2 y he1 he2
theorem Pre.advance(hO:OrdOk P N all ord)(hL:AllOk L):∀ (rest done:List DI) (T:Fr) (H:Hp) (β:Nat→Option Nat),Pre P w0 r N H0 φ0 L all k ord ls a w done rest T H φ β →
    ∃ done' rest' T' H' β',Pre P w0 r N H0 φ0 L all k ord ls a w done' rest' T' H' φ β'∧∀ h l,rest'=h::l→h.cls=2:=by
  intro rest
  induction rest with
  | nil=>intro done T H β hp;exact⟨done,[],T,H,β,hp,fun h l e=>by cases e⟩
  | cons b rest ih =>
    intro done T H β hp
    rcases zo6 hO (show b ∈ ord by rw[hp.split];simp) with h | h | h
    · obtain⟨T',hp'⟩:=hp.soft hO hL h
      exact ih _ _ _ _ hp'
    · obtain⟨T',H',β',hp'⟩:=hp.new hO hL h
      exact ih _ _ _ _ hp'
    · exact⟨done,b::rest,T,H,β,hp,fun h' l e=>by cases e;exact h⟩
end steps
end Go.Eng
namespace Go.Eng
open Go.RowKit
variable {ro:Option Nat} {P:Program} {w0:World} {r:Rec} {N:Nat} {H0:Hp} {φ0:Ph} {L:RL} {all:Array Oper} {k:BR} {ord:List DI}
variable {ls:Array Bool} {a:Act} {w:World} {done rest:List DI} {T:Fr} {H:Hp} {φ:Ph} {β:Nat→Option Nat}
theorem zry{i j:Nat}:Li (ls.setIfInBounds i true) j ↔ Li ls j ∨ (j=i∧i<ls.size):=by
  unfold Li
  by_cases h:i=j
  · subst h
    by_cases hi:i<ls.size
    · simp[hi]
    · simp[hi]
  · rw[getD_set_ne false h]
    exact⟨.inl,fun h'=>h'.resolve_right fun e=>h e.1.symm⟩
def Inv(P:Program)(w0:World)(r:Rec)(N:Nat)(H0:Hp)(φ0:Ph)(L:RL)(all:Array Oper)(k:BR)(ord:List DI)(ls:Array Bool)(a:Act)(w:World):Prop :=
  ∃ done rest T H φ β,Pre P w0 r N H0 φ0 L all k ord ls a w done rest T H φ β∧∀ h l,rest=h::l→h.cls=2
theorem Inv.finish(hO:OrdOk P N all ord)(hz:ls.size=all.size)(h:Inv P w0 r N H0 φ0 L all k ord ls a w)(hr:Region.ready .any all ls=[]):On P w0 r N H0 φ0 L k a w:=by
  obtain⟨done,rest,T,H,φ,β,hp,_⟩:=h
  have hall:∀ n,∀ l1 b l2,l1.length=n→ord=l1++b::l2→Li ls b.i:=by
    intro n
    induction n using Nat.strongRecOn with
    | _ n ih =>
      intro l1 b l2 hn hs
      by_cases hl:Li ls b.i
      · exact hl
      · exfalso
        have hb:b ∈ ord:=by rw[hs];simp
        obtain⟨o,h1,_,_,_,_,h2,_⟩:=zcu hO hb
        have hlt:b.i<all.size:=(Array.getElem?_eq_some_iff.1 h1).1
        have hrd:b.i ∈ Region.ready .any all ls:=by
          refine mem_ready.2 ⟨?_,o,h1,fun e he hbind=>?_⟩
          · have hlt':b.i<ls.size:=by omega
            unfold Li at hl
            simp[hlt'] at hl ⊢
            exact hl
          · have hbit:b.dm.testBit e.on=true:=by rw[h2,zfL];exact⟨e,by simpa using he,hbind,rfl⟩
            rcases hO.topo.down _ _ _ hs _ hbit with h3 | ⟨b',h3,h4⟩
            · simp at h3
            · obtain⟨m1,m2,e1⟩:=List.append_of_mem h3
              have:=ih m1.length (by rw[← hn,e1];simp) m1 b' (m2++b::l2) rfl (by rw[hs,e1];simp)
              rw[h4] at this
              exact this
        rw[hr] at hrd
        cases hrd
  have hord:∀ b ∈ ord,Li ls b.i:=fun b hb=>by
    obtain⟨l1,l2,e⟩:=List.append_of_mem hb
    exact hall _ l1 b l2 rfl e
  have hrest:rest=[]:=by
    cases rest with
    | nil=>rfl
    | cons b l=>exact absurd (hord b (by rw[hp.split];simp)) (zex hO hp.split hp.listed b List.mem_cons_self)
  subst hrest
  exact⟨T,H,φ,⟨⟨hp.size,fun t=>hp.val t fun b hb _ hl=>absurd (hord b (hp.mem b hb)) hl,hp.defers,hp.hr.gl⟩,hp.hr,hp.ex⟩,hp.run⟩
theorem zh4(a:Act)(d:Option Nat)(v:Value):(a.put d v).tmps.size=a.tmps.size∧(a.put d v).defers=a.defers:=by
  cases d<;>simp[Act.put]
theorem zrz{a:Act}{d:Nat}{v:Value}(h:d<a.tmps.size):(a.put (some d) v).tmps.getD d undef=v:=by simp[Act.put,Array.getD,h]
theorem zr0{a:Act}{d t:Nat}{v:Value}(h:d ≠ t):(a.put (some d) v).tmps.getD t undef=a.tmps.getD t undef:=by
  have e:∀ (x:Array Value),x.getD t undef=(x[t]?).getD undef:=fun x=>by simp
  show (a.tmps.setIfInBounds d v).getD t undef=_
  rw[e,e,Array.getElem?_setIfInBounds_ne h]
theorem zo7{H':Hp}{φ':Ph}(hex:EX H φ H' φ'){p:Nat}(hp:p<H.n)(h:φ p=none):φ' p=none:=by
  cases h':φ' p with
  | none=>rfl
  | some x=>exact absurd (hex.fresh p x h' h) (by omega)
theorem Pre.list_one(hO:OrdOk P N all ord)(hz:ls.size=all.size){b:DI}{o:Oper}{φ':Ph}{val:Value}{w':World}(hp:Pre P w0 r N H0 φ0 L all k ord ls a w done rest T H φ β)(hb:b ∈ done)(hc:b.cls ≠ 2)(hn:¬ Li ls b.i)
    (ho:all[b.i]?=some o) (hrd:∀ e ∈ o.after,Region.binds .any e=true→Li ls e.on) (hle:Le φ φ') (hr:HR P w0 H φ' w') (hex:EX H0 φ0 H φ') (hv:VR φ' ((getB b.d).run T) val)
    (hnone:∀ b' ∈ done,b'.cls=1→¬ Li ls b'.i→b'.i ≠ b.i→∀ y,β b'.i=some y→φ' y=none):Pre P w0 r N H0 φ0 L all k ord (ls.setIfInBounds b.i true) (a.put o.dst val) w' done rest T H φ' β:=by
  have hbo:=hp.mem b hb
  obtain⟨o',h1,_,_,_,h4,h5,_⟩:=zcu hO hbo
  rw[ho] at h1;cases h1
  have hlt:b.i<ls.size:=by rw[hz];exact (Array.getElem?_eq_some_iff.1 ho).1
  have hLi:∀ j,Li (ls.setIfInBounds b.i true) j ↔ Li ls j ∨ j=b.i:=fun j=>by rw[zry];exact or_congr Iff.rfl ⟨fun h=>h.1,fun h=>⟨h,hlt⟩⟩
  have hd:=zkb hO hbo hc
  have hdst:o.dst=some b.d:=by
    cases hdd:o.dst with
    | none=>rw[hdd] at h4;have:b.d=512:=h4;omega
    | some d=>rw[hdd] at h4;exact congrArg some h4.symm
  refine⟨hp.split,hp.run,hr,hex,by rw[(zh4 _ _ _).1];exact hp.size,by rw[(zh4 _ _ _).2];exact hp.defers.mono hle,?_,?_,?_,?_,?_,?_,?_⟩
  · intro b' hb' h2;exact (hLi _).2 (.inl (hp.hard b' hb' h2))
  · intro i hi
    rcases (hLi _).1 hi with h | h
    · exact hp.listed i h
    · exact⟨b,hb,h.symm⟩
  · intro b' hb' hl j hj
    refine (hLi _).2 (.inl ?_)
    rcases (hLi _).1 hl with h | h
    · exact hp.closed b' hb' h j hj
    · obtain⟨o',g1,_,_,_,_,g2,_⟩:=zcu hO (hp.mem b' hb')
      rw[h,ho] at g1;cases g1
      rw[g2,zfL] at hj
      obtain⟨e,he,hbind,rfl⟩:=hj
      exact hrd e (by simpa using he) hbind
  · intro t ht
    rw[hdst]
    by_cases hbt:b.d=t
    · subst hbt
      rw[zrz (by have:=hp.size;omega)];exact hv
    · rw[zr0 hbt]
      refine (hp.val t fun b' hb' hc' hl'=>?_).mono hle
      by_cases hii:b'.i=b.i
      · obtain⟨o',g1,g2⟩:=hO.mem b' (hp.mem b' hb')
        obtain⟨o'',g3,g4⟩:=hO.mem b hbo
        have:b'=b:=by
          rw[g2,g4]
          rw[hii,g3] at g1;cases g1
          rw[hii]
        rw[this];exact hbt
      · exact ht b' hb' hc' fun h=>((hLi _).1 h).elim hl' hii
  · intro b' hb' h0 hl c
    exact hp.look b' hb' h0 (fun h=>hl ((hLi _).2 (.inl h))) c
  · intro b' hb' h1 hl
    have hl':¬ Li ls b'.i:=fun h=>hl ((hLi _).2 (.inl h))
    have hne:b'.i ≠ b.i:=fun h=>hl ((hLi _).2 (.inr h))
    rcases hp.make b' hb' h1 hl' with h | ⟨y,o',B,mk,e0,e1,e2,e3,e4,e5,e6,e7,e8,e9⟩
    · exact .inl h
    · exact .inr ⟨y,o',B,mk,e0,e1,e2,e3,e4,e5,e6,hnone b' hb' h1 hl' hne y e0,e8,e9⟩
  · intro b1 hb1 b2 hb2 k1 k2 l1 l2
    exact hp.apart b1 hb1 b2 hb2 k1 k2 (fun h=>l1 ((hLi _).2 (.inl h))) (fun h=>l2 ((hLi _).2 (.inl h)))
theorem PreX.reads(hO:OrdOk P N all ord){b:DI}{o:Oper}{X:BR}(hp:PreX X P w0 r N H0 φ0 L all k ord ls a w done rest T H φ β)(hb:b ∈ ord)(ho:all[b.i]?=some o)(hn:¬ Li ls b.i)(hrd:∀ e ∈ o.after,Region.binds .any e=true→Li ls e.on) :
    ∀ t ∈ b.rd,VR φ ((getB t).run T) (a.tmps.getD t undef):=by
  intro t ht
  refine hp.val t fun b' hb' hc' hl' e=>?_
  have hd:=zkb hO (hp.mem b' hb') hc'
  obtain⟨o',h1,_,_,_,_,h5,_⟩:=zcu hO hb
  rw[ho] at h1;cases h1
  rcases (ziY (hO.pair b' (hp.mem b' hb') b hb) (by omega)).1 (by rw[e];exact ht) with h | ⟨h,_⟩
  · rw[h5,zfL] at h
    obtain⟨e',he',hbind,he2⟩:=h
    exact hl' (he2 ▸ hrd e' (by simpa using he') hbind)
  · exact hc' h
noncomputable def cid:Kont:=fun H v=>[⟨0,0,(setB 0).run noFr v,H⟩]
theorem zvN{H H':Hp}{v v':AV}(h:∀ x ∈ cid H' v',x ∈ cid H v):H'=H∧v'=v:=by
  have h1:=List.mem_singleton.1 (h _ (List.mem_singleton.2 rfl))
  injection h1 with _ _ h2 h3
  refine⟨h3,?_⟩
  have:=congrArg (fun T=>(getB 0).run T) h2
  simp only[zbr] at this
  simpa using this
theorem znf{o:Oper}(h:zcO o=1):∀ c,o.op ≠ .defer c:=by
  intro c hc
  simp only[zcO,hc] at h
  cases h
theorem Inv.step(hrec:zaU P r)(hO:OrdOk P N all ord)(hL:AllOk L)(hz:ls.size=all.size){Q:Exit→Act→World→Prop}{K:Act→World→Prop}(h:Inv P w0 r N H0 φ0 L all k ord ls a w){i:Nat}(hi:i ∈ Region.ready .any all ls)
    (hK:∀ a w,Inv P w0 r N H0 φ0 L all k ord (ls.setIfInBounds i true) a w→K a w):wpOpIn (fen ro) 0 P all Q i K a w:=by
  obtain⟨done,rest,T,H,φ,β,hp,hhead⟩:=h
  obtain⟨hun,o,ho,hafter⟩:=mem_ready.1 hi
  have hlt:i<all.size:=(Array.getElem?_eq_some_iff.1 ho).1
  have hnl:¬ Li ls i:=by
    have:i<ls.size:=by omega
    unfold Li
    simp[this] at hun ⊢
    exact hun
  have hb:∃ b ∈ ord,b.i=i:=by
    rcases hO.topo.full i (by
      show (2 ^ all.size - 1).testBit i=true
      rw[Nat.testBit_two_pow_sub_one];simpa using hlt) with h | h
    · simp at h
    · exact h
  obtain⟨b,hb,rfl⟩:=hb
  obtain⟨o',h1,hx,hrd,hcls,hdst,hdm,hok⟩:=zcu hO hb
  rw[ho] at h1;cases h1
  have hreads:=hp.reads hO hb ho hnl hafter
  have hin:b ∈ done ∨ b ∈ rest:=by
    have:=hb;rw[hp.split] at this;simpa using this
  rcases hin with hin | hin
  · have hc2:b.cls ≠ 2:=fun h=>hnl (hp.hard b hin h)
    have hlk:(∀ c,b.x.run r T H c=c H ((getB b.d).run T))→wpOpIn (fen ro) 0 P all Q b.i K a w:=fun hlook=>by
      have hv0:=hlook cid
      refine zlF (H:=H) (φ:=φ) (T:=T) (L:=cid H ((getB b.d).run T)) (c:=cid) hrec ?_ ho hok hp.size (fun t ht=>hreads t (by rw[hrd];exact ht)) hp.hr (by rw[← hx,hv0];exact fun _ h=>h) ?_
      · intro x hx
        rw[List.mem_singleton.1 hx]
        exact fun h=>by cases h
      · intro val v H' φ' w' g1 g2 g3 g4
        obtain⟨rfl,rfl⟩:=zvN g4
        refine hK _ _ ⟨done,rest,T,H',φ',β,?_,hhead⟩
        refine hp.list_one hO hz hin hc2 hnl ho hafter g3.keep g2 (hp.ex.trans g3) g1 fun b' hb' c1 c2 _ y hy=>?_
        rcases hp.make b' hb' c1 c2 with⟨e0,_⟩ | ⟨y',_,_,_,e0,_,_,_,_,_,_,e7,e8,_⟩
        · rw[e0] at hy;cases hy
        · rw[e0] at hy;cases hy
          exact zo7 g3 e8 e7
    rcases zo6 hO hb with h0 | h1 | h2
    · exact hlk (hp.look b hin h0 hnl)
    ·
      rcases hp.make b hin h1 hnl with⟨_,e1⟩ | ⟨y,o',B,mk,e0,e1,e2,e3,e4,e5,e6,e7,e8,e9⟩
      · exact hlk (e1 H)
      rw[ho] at e1;cases e1
      obtain⟨obj,val,g1,g2,g3⟩:=e3 φ a w hp.hr.gl fun t ht=>hreads t (by rw[hrd,zaV];exact List.mem_append_right _ ht)
      obtain⟨φ',k1,k2,k3,k4,k5⟩:=hp.hr.late e8 e7 (by rw[e6];exact g2)
      have hw:Region.wanted o (yielded all a.tmps)=true:=e2.1.wanted hok hp.size fun t ht=>hreads t (by rw[hrd,zaV];exact List.mem_append_left _ ht)
      unfold Go.wpOpIn
      simp only[ho,hw,if_true]
      refine⟨fun _ _=>trivial,?_⟩
      rw[Oper.semAt_eq _ _ _ (znf (hcls.symm.trans h1)),g1,Oper.uponIn_value]
      refine hK _ _ ⟨done,rest,T,H,φ',β,?_,hhead⟩
      refine hp.list_one hO hz hin hc2 hnl ho hafter k1 k4 ⟨hp.ex.keep.trans k1,?_,hp.ex.n,hp.ex.lim,hp.ex.low,hp.ex.other,hp.ex.loop,fun x C hx=>hp.ex.fzn x C (k5 ▸ hx)⟩ (by rw[e5];exact g3 φ' _ k2) fun b' hb' c1 c2 hne y' hy'=>?_
      · intro b' x hbx hn0
        by_cases hbb:b'=y
        · rw[hbb];exact e9
        · rw[k3 b' hbb] at hbx
          exact hp.ex.fresh b' x hbx hn0
      · have hββ:y' ≠ y:=fun he=>hne (hp.apart b' hb' b hin c1 h1 c2 hnl y' hy' (he ▸ e0))
        rw[k3 _ hββ]
        rcases hp.make b' hb' c1 c2 with⟨e0',_⟩ | ⟨y'',_,_,_,e0',_,_,_,_,_,_,e7',_,_⟩
        · rw[e0'] at hy';cases hy'
        · rw[e0'] at hy';cases hy'
          exact e7'
    · exact absurd h2 hc2
  ·
    obtain⟨l1,l2,he⟩:=List.append_of_mem hin
    have hl1:l1=[]:=by
      cases l1 with
      | nil=>rfl
      | cons hd l1 =>
        exfalso
        have hhd:=hhead hd (l1++b::l2) (by rw[he];rfl)
        have hs:ord=done.reverse++hd::(l1++b::l2):=by rw[hp.split,he];rfl
        obtain⟨j,hj,b',hb',hbj⟩:=hO.topo.hang _ _ _ hs hhd b (by simp)
        rw[hdm,zfL] at hj
        obtain⟨e,he1,he2,rfl⟩:=hj
        have:=hafter e (by simpa using he1) he2
        exact zex hO hs hp.listed b' hb' (by unfold Li;rw[hbj];exact this)
    subst hl1
    simp only[List.nil_append] at he
    subst he
    have hc2:=hhead b l2 rfl
    obtain⟨T,hp⟩:=Pre.gate hO hL hp
    have hreads:=hp.reads hO hb ho hnl hafter
    have hrun:=hp.run
    have e:(dbody k done b l2).run r T H=b.x.run r T H fun H v=>(recK (chk done b.dm)).run r ((setB b.d).run T v) H ((dgo k (b::done) l2).run r ((setB b.d).run T v) H):=by
      show (bi (nbeq b.cls 0) _ _:BR).run r T H=_
      rw[zam.2 (show b.cls ≠ 0 by omega)]
      show b.x.run r T H (fun H v=>(recK (chk done (bi (nbeq b.cls 2) b.dm 0))).run r ((setB b.d).run T v) H _)=_
      rw[zaa.2 hc2];rfl
    rw[e] at hrun
    refine zlF (H:=H) (φ:=φ) (T:=T) (L:=L) (c:=fun H v=>(recK (chk done b.dm)).run r ((setB b.d).run T v) H ((dgo k (b::done) l2).run r ((setB b.d).run T v) H)) hrec hL ho hok hp.size (fun t ht=>hreads t (by rw[hrd];exact ht)) hp.hr (by rw[← hx];exact hrun) ?_
    intro val v H' φ' w' g1 g2 g3 g4
    have hsoft:∀ b' ∈ chk done b.dm,zbV H' (b'.x.run r ((setB b.d).run T v) H'):=by
      intro b' hb'
      obtain⟨c1,c2⟩:=zkZ b' hb'
      obtain⟨o',_,c3,_,c4,_⟩:=zcu hO (hp.mem b' c1)
      rw[c3];exact zgn (c4.symm.trans c2)
    obtain⟨hlook,hrun'⟩:=zlb hL _ hsoft g4
    have hlt':b.i<ls.size:=by omega
    have hLi:∀ j,Li (ls.setIfInBounds b.i true) j ↔ Li ls j ∨ j=b.i:=fun j=>by rw[zry];exact or_congr Iff.rfl ⟨fun h=>h.1,fun h=>⟨h,hlt'⟩⟩
    have hne:∀ b' ∈ done,b'.i ≠ b.i:=fun b' hb'=>hO.topo.nodup _ _ _ hp.split b' (by simp[hb'])
    have hT:∀ t,t ≠ b.d→(getB t).run T=(getB t).run ((setB b.d).run T v):=fun t ht=>by rw[zbr,if_neg (fun h=>ht h.1.symm)]
    have hbl:∀ j,b.dm.testBit j=true→Li ls j:=by
      intro j hj
      rw[hdm,zfL] at hj
      obtain⟨e,he1,he2,rfl⟩:=hj
      exact hafter e (by simpa using he1) he2
    have hread:∀ b' ∈ done,¬ Li ls b'.i→b.d ≠ 512→b.d ∉ b'.rd:=by
      intro b' hb' hl' hd hm
      rcases (ziY (hO.pair b hb b' (hp.mem b' hb')) hd).1 hm with h | ⟨_,h | h⟩
      · obtain⟨m1,m2,em⟩:=List.append_of_mem (List.mem_reverse.2 hb')
        have hs':ord=m1++b'::(m2++b::l2):=by rw[hp.split,em];simp
        rcases hO.topo.down m1 b' _ hs' _ h with h1 | ⟨b'',h1,h2⟩
        · simp at h1
        · exact hne b'' (by rw[← List.mem_reverse,em];simp[h1]) h2
      · exact hl' (hbl _ h)
      · exact hne b' hb' h.symm
    have hT512:b.d=512→(setB b.d).run T v=T:=fun h=>by rw[h];rfl
    have hrd':∀ b' ∈ done,¬ Li ls b'.i→∀ t ∈ b'.rd,(getB t).run T=(getB t).run ((setB b.d).run T v):=by
      intro b' hb' hl' t ht
      by_cases hd:b.d=512
      · rw[hT512 hd]
      · exact hT t fun e=>hread b' hb' hl' hd (e ▸ ht)
    have hdd:∀ b' ∈ done,(getB b'.d).run T=(getB b'.d).run ((setB b.d).run T v):=by
      intro b' hb'
      by_cases hd:b.d=512
      · rw[hT512 hd]
      · exact hT _ (Ne.symm (ziZ hO hp.split hd hb'))
    have hpre:Pre P w0 r N H0 φ0 L all k ord (ls.setIfInBounds b.i true) (a.put o.dst val) w' (b::done) l2 ((setB b.d).run T v) H' φ' β:=by
      refine⟨by rw[hp.split];simp,hrun',g2,hp.ex.trans g3,by rw[(zh4 _ _ _).1];exact hp.size,by rw[(zh4 _ _ _).2,zb1];exact hp.defers.mono g3.keep,?_,?_,?_,?_,?_,?_,?_⟩
      · intro b' hb' h2
        cases hb' with
        | head=>exact (hLi _).2 (.inr rfl)
        | tail _ hb'=>exact (hLi _).2 (.inl (hp.hard b' hb' h2))
      · intro j hj
        rcases (hLi _).1 hj with h | h
        · obtain⟨b',c1,c2⟩:=hp.listed j h
          exact⟨b',List.mem_cons_of_mem _ c1,c2⟩
        · exact⟨b,List.mem_cons_self,h.symm⟩
      · intro b' hb' hl j hj
        refine (hLi _).2 (.inl ?_)
        cases hb' with
        | head=>exact hbl j hj
        | tail _ hb'=>exact hp.closed b' hb' (((hLi _).1 hl).resolve_right (hne b' hb')) j hj
      · intro t ht
        have hrest:(∀ b' ∈ done,b'.cls ≠ 2→¬ Li ls b'.i→b'.d ≠ t):=fun b' hb' hc' hl'=>ht b' (List.mem_cons_of_mem _ hb') hc' fun h=>((hLi _).1 h).elim hl' (hne b' hb')
        cases hod:o.dst with
        | none =>
          have hd:b.d=512:=by rw[hdst,hod];rfl
          rw[hT512 hd]
          exact (hp.val t hrest).mono g3.keep
        | some d =>
          have hd:b.d=d:=by rw[hdst,hod];rfl
          obtain⟨_,h6⟩:=zaw.1 (show bi (allL (fun d=>nble (Nat.succ d) N) (gdOf all o)) (match o.dst with | some d=>bi (nble (Nat.succ d) N) (nble (Nat.succ d) 511) false | none=>nbeq (zcO o) 2) false=true from hok)
          rw[hod] at h6
          obtain⟨h7,h8⟩:=zaw.1 h6
          have h7:=zah.1 h7
          have h8:=zah.1 h8
          by_cases hbt:d=t
          · subst hbt
            rw[zrz (by have:=hp.size;omega),hd,zbr,if_pos ⟨rfl,h8⟩]
            exact g1
          · rw[zr0 hbt,← hT t (fun e=>hbt (hd.symm.trans e.symm))]
            exact (hp.val t hrest).mono g3.keep
      · intro b' hb' h0 hl c
        cases hb' with
        | head=>omega
        | tail _ hb' =>
          have hl':¬ Li ls b'.i:=fun h=>hl ((hLi _).2 (.inl h))
          exact hlook b' (zo5 (S:=Li ls) done hp.closed b.dm hbl b' hb' h0 hl') c
      · intro b' hb' h1 hl
        cases hb' with
        | head=>omega
        | tail _ hb' =>
          have hl':¬ Li ls b'.i:=fun h=>hl ((hLi _).2 (.inl h))
          exact zfh (ls':=ls) hO hp hb' h1 hl' (hrd' b' hb' hl') (hdd b' hb') (fun p hlt h h6=>⟨g3.other p hlt h h6,zo7 g3 hlt h⟩) g3.n
      · intro b1 hb1 b2 hb2 k1 k2 l1' l2'
        cases hb1 with
        | head=>omega
        | tail _ hb1=>cases hb2 with
          | head=>omega
          | tail _ hb2=>exact hp.apart b1 hb1 b2 hb2 k1 k2 (fun h=>l1' ((hLi _).2 (.inl h))) (fun h=>l2' ((hLi _).2 (.inl h)))
    obtain⟨done',rest',T',H'',β',q1,q2⟩:=Pre.advance hO hL _ _ _ _ _ hpre
    exact hK _ _ ⟨done',rest',T',H'',φ',β',q1,q2⟩
theorem zr1{α:Type}{p q:α→Bool}(l:List α)(h:∀ x,q x=true→p x=true){x:α}(hx:x ∈ l)(h1:p x=true)(h2:q x=false):l.countP q<l.countP p:=by
  induction l with
  | nil=>cases hx
  | cons y l ih =>
    have hmono:l.countP q≤l.countP p:=List.countP_mono_left fun x _=>h x
    cases hx with
    | head=>rw[List.countP_cons_of_neg (by simp[h2]),List.countP_cons_of_pos h1];omega
    | tail _ hx =>
      have:=ih hx
      by_cases hq:q y=true
      · rw[List.countP_cons_of_pos hq,List.countP_cons_of_pos (h y hq)];omega
      · rw[List.countP_cons_of_neg hq]
        by_cases hpy:p y=true
        · rw[List.countP_cons_of_pos hpy];omega
        · rw[List.countP_cons_of_neg hpy];omega
theorem ztJ(hrec:zaU P r)(hO:OrdOk P N all ord)(hL:AllOk L){Q:Exit→Act→World→Prop}(hQ:∀ a w,On P w0 r N H0 φ0 L k a w→Q .normal a w)(fuel:Nat) :
    ∀ (ls:Array Bool) (a:Act) (w:World),ls.size=all.size→(List.range all.size).countP (fun j=>!ls.getD j false)≤fuel→Inv P w0 r N H0 φ0 L all k ord ls a w→wpAnyIn (fen ro) 0 P .any all Q fuel ls a w:=by
  induction fuel with
  | zero =>
    intro ls a w hz hc h
    have hr:Region.ready .any all ls=[]:=by
      cases hr:Region.ready .any all ls with
      | nil=>rfl
      | cons i l =>
        have hi:i ∈ Region.ready .any all ls:=by rw[hr];simp
        obtain⟨hun,o,ho,_⟩:=mem_ready.1 hi
        have hlt:i<all.size:=(Array.getElem?_eq_some_iff.1 ho).1
        have h0:=List.countP_eq_zero.1 (Nat.le_zero.1 hc) i (by simpa using hlt)
        have:i<ls.size:=by omega
        simp[this] at hun h0
        rw[hun] at h0;cases h0
    exact⟨hr,hQ a w (h.finish hO hz hr)⟩
  | succ fuel ih =>
    intro ls a w hz hc h
    refine⟨fun hr=>hQ a w (h.finish hO hz hr),fun i hi=>?_⟩
    refine h.step hrec hO hL hz hi fun a' w' h'=>ih _ a' w' (by simpa using hz) ?_ h'
    obtain⟨hun,o,ho,_⟩:=mem_ready.1 hi
    have hlt:i<all.size:=(Array.getElem?_eq_some_iff.1 ho).1
    have hlt':i<ls.size:=by omega
    have:(List.range all.size).countP (fun j=>!(ls.setIfInBounds i true).getD j false)<(List.range all.size).countP (fun j=>!ls.getD j false):=by
      refine zr1 _ ?_ (x:=i) (by simpa using hlt) ?_ ?_
      · intro x hx
        simp only[Bool.not_eq_true'] at hx ⊢
        cases hg:ls.getD x false with
        | false=>rfl
        | true=>rw[getD_set_true hg] at hx;cases hx
      · simp[hlt'] at hun ⊢;exact hun
      · simp[hlt']
    omega
theorem zvO{T:Fr}{H:Hp}{φ:Ph}{a:Act}{w:World}{id:Nat}{Q:Exit→Act→World→Prop}(hm:P.follows .mixedOrders=true)(hrec:zaU P r)(hL:AllOk L)(hs:St P w0 N H0 φ0 T H φ a w)(h:∀ x ∈ (ziS P N all k).run r T H,x ∈ L)
    (hQ:∀ a w,On P w0 r N H0 φ0 L k a w→Q .normal a w):(Code.region id all true).wpIn (fen ro) 0 P Q a w:=by
  unfold ziS at h
  cases hok:okD all.size (zew all.size (zft P N all 0 all.toList) 0)
  · rw[hok] at h;exact (zaq hL h).elim
  rw[hok,zag] at h
  have hO:=zy2 hok
  refine wpIn_region_any hm ?_
  have hzero:∀ i,¬ Li (Array.replicate all.size false) i:=fun i h=>by
    unfold Li at h
    by_cases hi:i<all.size
    · simp[hi] at h
    · simp[hi] at h
  have hw:HR P w0 H φ { w with drawn:=w.drawn+1 }:=⟨hs.hr.blk,hs.hr.inj,hs.hr.n,hs.hr.lim,⟨hs.hr.below.os,hs.hr.below.tape,hs.hr.below.output,hs.hr.below.size,hs.hr.below.block⟩,hs.hr.gl,hs.hr.op,hs.hr.fz,hs.hr.tl,hs.hr.fo⟩
  have hpre:Pre P w0 r N H0 φ0 L all k (zew all.size (zft P N all 0 all.toList) 0) (Array.replicate all.size false) a { w with drawn:=w.drawn+1 } [] (zew all.size (zft P N all 0 all.toList) 0) T H φ (fun _=>none) :=
    ⟨rfl,h,hw,hs.ex,hs.tr.size,hs.tr.defers,fun b hb=>(by cases hb),fun i hi=>absurd hi (hzero i),fun b hb=>(by cases hb),fun t _=>hs.tr.val t,fun b hb=>(by cases hb),fun b hb=>(by cases hb),fun b hb=>(by cases hb)⟩
  obtain⟨done',rest',T',H',β',q1,q2⟩:=Pre.advance hO hL _ _ _ _ _ hpre
  refine ztJ hrec hO hL hQ all.size _ a _ (by simp) ?_ ⟨done',rest',T',H',φ,β',q1,q2⟩
  refine Nat.le_trans List.countP_le_length ?_
  simp
end Go.Eng
