/- A part of the proof that the evaluator in GnC, and the driver in GnZ, answer as the model does; no conditions. -/
import Derived.Test.YtfmoohdaimlggaaGreatDoorGnZ
import Derived.Test.YtfmoohdaimlggaaGreatDoorGnLb
import Derived.Test.YtfmoohdaimlggaaGreatDoorGnYb
namespace Go.Eng
open Go.RowKit
variable {P:Program} {w0:World} {H:Hp} {φ:Ph} {w:World}
def Ph.name(φ:Ph)(n x l:Nat):Ph:=⟨fun b=>if b=n then some x else φ b,φ.k,φ.op,φ.fz,fun b=>if b=n then l else φ.tl b⟩
theorem HR.alias{B:AB}{blk:Nat}{o:Obj}(hr:HR P w0 H φ w)(hn':H.n≤32766)(hdead:∀ b,φ b=some blk→(hget H b).kind=0)(hfz:φ.fz blk=none ∨ B.kind=7)(hbase:OwnB w0 φ blk)(ho:w.heap[blk]?=some o)
    (hB:BRel P φ blk B o):HR P w0 (hnew H B) (φ.name H.n blk B.cs.length) w∧EX H φ (hnew H B) (φ.name H.n blk B.cs.length):=by
  let φ':Ph:=φ.name H.n blk B.cs.length
  show HR P w0 (hnew H B) φ' w∧EX H φ (hnew H B) φ'
  have hlim:=hr.lim
  have hfree:φ H.n=none:=by
    cases h:φ H.n with
    | none=>rfl
    | some x=>exact absurd (hr.blk _ _ h).1 (by omega)
  have hkeep:Le φ φ':=by
    refine⟨?_,rfl,fun _ _ h=>h,fun b x hb=>if_neg fun e=>by rw[e,hfree] at hb;cases hb⟩
    intro b x hb
    have:b ≠ H.n:=fun e=>by rw[e,hfree] at hb;cases hb
    exact⟨by show (if b=H.n then some blk else φ b)=_;rw[if_neg this];exact hb,rfl⟩
  have hφn:φ' H.n=some blk:=if_pos rfl
  have hold:∀ b x,φ' b=some x→b ≠ H.n→φ b=some x:=by
    intro b x hb hne;have hb':(if b=H.n then some blk else φ b)=some x:=hb;rwa [if_neg hne] at hb'
  have hs:(hnew H B).n=H.n+1:=zcA _ _
  refine⟨?_,?_⟩
  · refine⟨?_,?_,by omega,by show H.lim≤_;omega,hr.below.op hkeep.op,hr.gl.mono hkeep,hr.op,?_,?_,hr.fo⟩
    · intro b x hb
      by_cases hbn:b=H.n
      · subst hbn
        rw[hφn] at hb;cases hb
        exact⟨by omega,fun _=>hbase,o,ho,by rw[zaD (by omega) (by omega),if_pos rfl];exact hB.mono hkeep rfl⟩
      · obtain⟨h1,h2,o',h3,h4⟩:=hr.blk b x (hold b x hb hbn)
        exact⟨by omega,h2,o',h3,by rw[zaD (by omega) (by omega),if_neg (by omega)];exact h4.mono hkeep rfl⟩
    · intro b b' x hb hb' hk hk'
      by_cases hbn:b=H.n
      · by_cases hbn':b'=H.n
        · rw[hbn,hbn']
        · rw[hbn,hφn] at hb;cases hb
          have e:=hold b' _ hb' hbn'
          have l2:=(hr.blk _ _ e).1
          rw[zaD (by omega) (by omega),if_neg (by omega)] at hk'
          exact absurd (hdead b' e) hk'
      · have e1:=hold b x hb hbn
        have l1:=(hr.blk _ _ e1).1
        by_cases hbn':b'=H.n
        · rw[hbn',hφn] at hb';cases hb'
          rw[zaD (by omega) (by omega),if_neg (by omega)] at hk
          exact absurd (hdead b e1) hk
        · have e2:=hold b' x hb' hbn'
          have l2:=(hr.blk _ _ e2).1
          rw[zaD (by omega) (by omega),if_neg (by omega)] at hk hk'
          exact hr.inj b b' x e1 e2 hk hk'
    · intro x C hx
      refine⟨(hr.fz x C hx).1,fun b hb hl=>?_⟩
      by_cases hbn:b=H.n
      · subst hbn
        rw[hφn] at hb;cases hb
        rw[zaD (by omega) (by omega),if_pos rfl]
        rcases hfz with e | e
        · rw[show φ.fz blk=some C from hx] at e;cases e
        · exact .inr e
      · have e1:=hold b x hb hbn
        have l1:=(hr.blk _ _ e1).1
        rw[zaD (by omega) (by omega),if_neg (by omega)]
        exact (hr.fz x C hx).2 b e1 hl
    · intro b x hb hk
      by_cases hbn:b=H.n
      · subst hbn
        rw[zaD (by omega) (by omega),if_pos rfl]
        exact (if_pos rfl).symm
      · have e1:=hold b x hb hbn
        have l1:=(hr.blk _ _ e1).1
        rw[zaD (by omega) (by omega),if_neg (by omega)] at hk ⊢
        exact (hr.tl b x e1 hk).trans (if_neg hbn).symm
  · refine⟨hkeep,?_,by omega,rfl,?_,?_,?_,fun _ _ h=>.inl h⟩
    · intro b x hb hnone
      by_cases hbn:b=H.n
      · omega
      · rw[hold b x hb hbn] at hnone;cases hnone
    · intro b hb hb'
      rw[zaD (by omega) hb',if_neg (by omega)]
    · intro b hb _ _
      rw[zaD (by omega) (by omega),if_neg (by omega)]
    · intro b hb hb' hk
      rw[zaD (by omega) hb',if_neg (by omega)];exact hk
end Go.Eng
namespace Go.Eng
open Go.RowKit
variable {P:Program} {w0:World} {H Hb:Hp} {φ φ0:Ph} {w:World} {N:Nat} {T:Fr} {a:Act}
theorem zyt{o:Operand}{b:Bool}(ht:TR P φ N T a)(h8:((getO P o).run T).tag=8)(hp:((getO P o).run T).p=bi b 1 0):TR P φ N (zcY o b T) a:=by
  cases o with
  | tmp t =>
    unfold zcY
    show TR P φ N (bi (nble (Nat.succ t) 511) _ _) a
    cases hb:nble (Nat.succ t) 511
    · exact ht
    · refine⟨ht.size,?_,by rw[zag,zb1];exact ht.defers,ht.gl⟩
      intro t'
      rw[zag,zbr]
      by_cases he:t=t'
      · subst he
        rw[if_pos ⟨rfl,zah.1 hb⟩]
        obtain⟨b',e,e1,_⟩:=(ht.val t).of_bool h8
        rw[e]
        have:b'=b:=by
          have h1:bi b' 1 0=bi b 1 0:=e1.symm.trans hp
          cases b<;>cases b'<;>first | rfl | cases h1
        subst this
        exact zb7 _
      · rw[if_neg (fun h=>he h.1)];exact ht.val t'
  | _=>exact ht
theorem zkT{φ':Ph}{v:AV}{val:Value}(h:cl0 v=true)(hv:VR φ v val)(hz:φ'.fz=φ.fz):VR φ' v val:=by
  unfold cl0 at h
  rcases zbw.1 h with h | h
  · have:=zah.1 h
    cases hv with
    | int c p r s cs e1 e2=>exact .int c p r s cs e1 e2
    | bool b r s cs=>exact .bool b r s cs
    | str l r s cs=>exact .str l r s cs
    | _=>simp only at this;omega
  rcases zbw.1 h with h | h
  · have:=zaa.1 h
    cases hv with
    | nilp q r s cs=>exact .nilp q r s cs
    | nils q r s cs=>exact .nils q r s cs
    | nilm q r s cs=>exact .nilm q r s cs
    | nilf q r s cs=>exact .nilf q r s cs
    | nili q r s cs=>exact .nili q r s cs
    | int c p r s cs e1 e2=>simp only at this;omega
    | _=>simp only at this;omega
  rcases zbw.1 h with h | h
  · have:=zaa.1 h
    cases hv with
    | frz p q r s cs _ h=>exact .frz p q r s cs _ (hz ▸ h)
    | int c p r s cs e1 e2=>simp only at this;omega
    | _=>simp only at this;omega
  rcases zbw.1 h with h | h
  · have:=zaa.1 h
    cases hv with
    | fptr p q r s cs _ h=>exact .fptr p q r s cs _ (hz ▸ h)
    | int c p r s cs e1 e2=>simp only at this;omega
    | _=>simp only at this;omega
  · obtain⟨h1,h2⟩:=zaw.1 h
    have h1:=zaa.1 h1
    have h2:=zaa.1 h2
    rw[zaz] at h2
    cases hv with
    | fn f n r s cs first cap hcs hl =>
      have hc:cs=[]:=List.length_eq_zero_iff.1 h2
      subst hc
      have h3:=hcs.length
      have e1:first=[]:=List.length_eq_zero_iff.1 (by simp at h3;omega)
      have e2:cap=[]:=List.length_eq_zero_iff.1 (by simp at h3;omega)
      subst e1 e2
      exact .fn f n r s [] [] [] .nil hl
    | int c p r s cs e1 e2=>simp only at h1;omega
    | _=>simp only at h1;omega
theorem zjs{φ':Ph}{cs:List AV}(hz:φ'.fz=φ.fz):∀ {vs:List Value},allL cl0 cs=true→VRs φ cs vs→VRs φ' cs vs:=by
  induction cs with
  | nil=>intro vs _ h;cases h;exact .nil
  | cons c cs ih =>
    intro vs h hv
    obtain⟨h1,h2⟩:=zaw.1 (show bi (cl0 c) (allL cl0 cs) false=true from h)
    cases hv with | cons g1 g2=>exact .cons (zkT h1 g1 hz) (ih h2 g2)
theorem zfq{φ':Ph}{v:AV}{val:Value}(h:zbG v=true)(hv:VR φ v val)(hz:φ'.fz=φ.fz):VR φ' v val:=by
  rcases zbw.1 h with h | h
  · exact zkT h hv hz
  · obtain⟨h1,h2⟩:=zaw.1 h
    rcases zbw.1 h1 with e | e
    · have:=zaa.1 e
      cases hv with
      | agg p q r s cs l hcs ho=>exact .agg p q r s cs l (zjs hz h2 hcs) ho
      | int c p r s cs e1 e2=>simp only at this;omega
      | _=>simp only at this;omega
    · have:=zaa.1 e
      cases hv with
      | tup p q r s cs l hcs=>exact .tup p q r s cs l (zjs hz h2 hcs)
      | int c p r s cs e1 e2=>simp only at this;omega
      | _=>simp only at this;omega
structure Ent(P:Program)(w0:World)(N:Nat)(Hb H:Hp)(φ0 φ:Ph)(a:Act)(w:World)(T1:Fr)(H1:Hp)(φ1:Ph)(Q:List Nat):Prop where
  hr:HR P w0 H1 φ1 w
  ex:EX Hb φ0 H1 φ1
  val:∀ t,VR φ1 ((getB t).run T1) (a.tmps.getD t undef)
  marks:zaK T1=[]
  fz:φ1.fz=φ.fz
  k:φ1.k=φ.k
  lim:H1.lim=Hb.n
  n:Hb.n≤H1.n
  from_:∀ b x,φ1 b=some x→(hget H1 b).kind ≠ 0→b<Hb.n ∨ ∃ q ∈ Q,φ q=some x∧(hget H q).kind ≠ 0
  low:∀ b,b<Hb.n→φ1 b=φ b
theorem zt6{tm:Nat × Nat}{live:List (Nat × Nat)}:zia T H (tm::live)=ownQ T H tm++zia T H live:=zaV _ _
theorem zyu{n:Nat}{l:List Nat}:memQ n l=true ↔ n ∈ l:=by
  induction l with
  | nil=>simp[memQ]
  | cons a l ih =>
    show bi (nbeq a n) true (memQ n l)=true ↔ _
    rw[zbw,ih,zaa,List.mem_cons]
    exact⟨fun h=>h.imp Eq.symm id,fun h=>h.imp Eq.symm id⟩
theorem zmp{l:List Nat}(h:ziJ l=true):l.Nodup:=by
  induction l with
  | nil=>exact List.nodup_nil
  | cons a l ih =>
    have h':bi (memQ a l) false (ziJ l)=true:=h
    cases hm:memQ a l
    · rw[hm,zai] at h'
      exact List.nodup_cons.2 ⟨(fun hc=>by rw[zyu.2 hc] at hm;cases hm),ih h'⟩
    · rw[hm] at h';cases h'
theorem Ent.set{T1:Fr}{H1:Hp}{φ1:Ph}{Q:List Nat}(he:Ent P w0 N Hb H φ0 φ a w T1 H1 φ1 Q){t:Nat}(ht:t<511){v:AV}(hv:VR φ1 v (a.tmps.getD t undef)):Ent P w0 N Hb H φ0 φ a w ((setB t).run T1 v) H1 φ1 Q:=by
  refine⟨he.hr,he.ex,fun t'=>?_,by rw[zb1];exact he.marks,he.fz,he.k,he.lim,he.n,he.from_,he.low⟩
  rw[zbr]
  by_cases e:t=t'
  · subst e;rw[if_pos ⟨rfl,ht⟩];exact hv
  · rw[if_neg (fun h=>e h.1)];exact he.val t'
theorem zoc{T1:Fr}{H1:Hp}{φ1:Ph}{Q:List Nat}(hs:St P w0 N Hb φ0 T H φ a w)(hlim:Hb.lim=Hb.n)(he:Ent P w0 N Hb H φ0 φ a w T1 H1 φ1 Q){b x:Nat}{B:AB}{o:Obj}(hn:H1.n≤32766)(hx:φ b=some x)(hbl:H.lim≤b)(hk0:(hget H b).kind ≠ 0)(hk7:(hget H b).kind ≠ 7)(hqb:b ∉ Q)(ho:w.heap[x]?=some o)(hB:BRel P φ1 x B o) :
    Ent P w0 N Hb H φ0 φ a w T1 (hnew H1 B) (φ1.name H1.n x B.cs.length) (Q++[b])∧Le φ1 (φ1.name H1.n x B.cs.length)∧(φ1.name H1.n x B.cs.length) H1.n=some x:=by
  have hlimH:H.lim=Hb.n:=hs.ex.lim.trans hlim
  have hdead:∀ b',φ1 b'=some x→(hget H1 b').kind=0:=by
    intro b' hb
    cases hz:decide ((hget H1 b').kind=0) with
    | true=>exact of_decide_eq_true hz
    | false =>
      exfalso
      have hz:=of_decide_eq_false hz
      rcases he.from_ b' x hb hz with hlt | ⟨q,hqQ,hqx,hqk⟩
      · have hφb:φ b'=some x:=by rw[← he.low b' hlt];exact hb
        have hbn:b'<32768:=by have:=hs.hr.n;have:=(hs.hr.blk b' x hφb).1;omega
        have e1:hget H1 b'=hget Hb b':=he.ex.low b' (by omega) hbn
        have e2:hget H b'=hget Hb b':=hs.ex.low b' (by omega) hbn
        have:=hs.hr.inj b' b x hφb hx (by rw[e2,← e1];exact hz) hk0
        omega
      · have:=hs.hr.inj q b x hqx hx hqk hk0
        subst this
        exact hqb hqQ
  have hbase:=(hs.hr.blk _ _ hx).2.1 hbl
  have hnf:φ1.fz x=none:=by rw[he.fz];exact hs.hr.live hx hbl hk0 hk7
  have hnm:∀ b',b'<H1.n→hget (hnew H1 B) b'=hget H1 b':=fun b' hb=>by rw[zaD (by omega) (by omega),if_neg (by omega)]
  obtain⟨g3,g4⟩:=he.hr.alias hn hdead (.inl hnf) (hbase.mono (he.ex.keep.op.trans hs.ex.keep.op.symm)) ho hB
  refine⟨⟨g3,he.ex.trans g4,fun t=>(he.val t).mono g4.keep,he.marks,he.fz,he.k,he.lim,(zcA _ _).symm ▸ Nat.le_succ_of_le he.n,?_,?_⟩,g4.keep,if_pos rfl⟩
  · intro b' y hb hk
    by_cases hbn:b'=H1.n
    · subst hbn
      have hb':(if H1.n=H1.n then some x else φ1 H1.n)=some y:=hb
      rw[if_pos rfl] at hb'
      cases hb'
      exact .inr ⟨b,by simp,hx,hk0⟩
    · have hb':(if b'=H1.n then some x else φ1 b')=some y:=hb
      rw[if_neg hbn] at hb'
      rw[hnm b' (he.hr.blk b' y hb').1] at hk
      rcases he.from_ b' y hb' hk with h | ⟨q,h1,h2⟩
      · exact .inl h
      · exact .inr ⟨q,List.mem_append_left _ h1,h2⟩
  · intro b' hb
    show (if b'=H1.n then some x else φ1 b')=φ b'
    rw[if_neg (by have:=he.n;omega)]
    exact he.low b' hb
theorem zod{T1:Fr}{H1:Hp}{φ1:Ph}{Q:List Nat}{m:Nat}{v d:AV}{val:Value}(hs:St P w0 N Hb φ0 T H φ a w)(hlim:Hb.lim=Hb.n)(he:Ent P w0 N Hb H φ0 φ a w T1 H1 φ1 Q)(hvt:VR φ v val)(hd:zhx m H v=some d)(hn:H1.n≤32766)(hq:(Q++ownV v).Nodup) :
    ∃ φ2,Ent P w0 N Hb H φ0 φ a w T1 (hnew H1 ⟨6,m,0,d.cs⟩) φ2 (Q++ownV v)∧Le φ1 φ2∧VR φ2 ⟨25,d.p,H1.n,lenL d.cs,0,[]⟩ val:=by
  have hd':bi (nbeq v.tag 25) (bi (nbeq (hget H v.q).kind 6) (bi (nbeq (hget H v.q).t m) (bi (nble (Nat.succ v.q) H.n) (bi (nble H.lim v.q) (some ⟨16,v.p,0,0,0,za4 v.r (hget H v.q).cs⟩) none) none) none) none)
    (bi (isNil v 1) (some ⟨16,0,0,0,0,[]⟩) (bi (nbeq v.tag 11) (bi (nbeq v.r 0) (bi (nbeq v.s 1) (some ⟨16,2,0,0,0,[]⟩) none) none) none))=some d:=hd
  have virt:VR φ1 ⟨25,d.p,H1.n,lenL d.cs,0,[]⟩ val→∃ φ2,Ent P w0 N Hb H φ0 φ a w T1 (hnew H1 ⟨6,m,0,d.cs⟩) φ2 (Q++ownV v)∧Le φ1 φ2∧VR φ2 ⟨25,d.p,H1.n,lenL d.cs,0,[]⟩ val:=by
    intro hvr
    obtain⟨g1,g2⟩:=he.hr.early hn ⟨6,m,0,d.cs⟩
    have hnm:∀ b,b<H1.n→hget (hnew H1 ⟨6,m,0,d.cs⟩) b=hget H1 b:=fun b hb=>by rw[zaD (by omega) (by omega),if_neg (by omega)]
    exact⟨φ1,⟨g1,he.ex.trans g2,he.val,he.marks,he.fz,he.k,he.lim,(zcA _ _).symm ▸ Nat.le_succ_of_le he.n,fun b x hb hk=>by
      rcases he.from_ b x hb (by rwa [hnm b (he.hr.blk b x hb).1] at hk) with h | ⟨q,h1,h2⟩
      · exact .inl h
      · exact .inr ⟨q,List.mem_append_left _ h1,h2⟩,he.low⟩,Le.refl φ1,hvr⟩
  cases h25:nbeq v.tag 25
  · rw[h25,zai] at hd'
    cases hnil:isNil v 1
    · rw[hnil,zai] at hd'
      obtain⟨h11,hd'⟩:=zas hd'
      obtain⟨hr0,hd'⟩:=zas hd'
      obtain⟨hs1,hd'⟩:=zas hd'
      cases hd'
      have hr0:=zaa.1 hr0
      have hs1:=zaa.1 hs1
      obtain⟨x,cap,e1,_,_,_,e2,_⟩:=hvt.of_sl (zaa.1 h11)
      rw[hs1] at e2
      have e3:cap=0:=e2 rfl
      rw[hr0,e3] at e1
      refine virt ?_
      rw[e1]
      exact .owne _ _ _ _
    · rw[hnil,zag] at hd'
      cases hd'
      have:=hvt.isNil hnil
      simp only at this
      exact virt (by rw[this];exact .ownn _ _ _)
  · rw[h25,zag] at hd'
    obtain⟨h6,hd'⟩:=zas hd'
    obtain⟨htm,hd'⟩:=zas hd'
    obtain⟨hqn,hd'⟩:=zas hd'
    obtain⟨hql,hd'⟩:=zas hd'
    cases hd'
    have h6:=zaa.1 h6
    have htm:=zaa.1 htm
    have hqn:v.q<H.n:=zah.1 hqn
    have hql:=zah.1 hql
    have htag:=zaa.1 h25
    have hov:ownV v=[v.q]:=by unfold ownV;rw[h25];rfl
    rw[zbv] at virt ⊢
    by_cases hp1:v.p=1
    · obtain⟨x,hx,g1,g2,hval1⟩:=hvt.of_own htag hp1
      have hL':isL (hget H v.q)=true:=by unfold isL;rw[zaa.2 h6];rfl
      obtain⟨l,rest,ty,fr,ho,k1,k2,k3,k4,k5,k6,k7⟩:=hs.hr.list hx hL'
      have:=k3 h6;subst this
      rw[htm] at k2 k4 k6
      have htl:((hget H v.q).cs.take v.r).length=v.r:=by rw[List.length_take];omega
      have hll:l.length=(hget H v.q).cs.length * m:=by rw[← k1.length,zbP k2]
      have hB:BRel P φ1 x ⟨6,m,0,(hget H v.q).cs.take v.r⟩ (.cells (l.take (v.r * m)++(l.drop (v.r * m)++rest)).toArray ty):=by
        refine⟨(fun h=>by cases h),(fun h=>by cases h),(fun h=>by cases h),fun _=>.inr (.inr ⟨.inl rfl,l.take (v.r * m),l.drop (v.r * m)++rest,ty,(0,0),rfl,?_,fun a ha=>k2 a (List.mem_of_mem_take ha),fun _=>rfl,?_,?_,k6⟩)⟩
        · rw[he.fz]
          show FZs φ.fz (zba ((hget H v.q).cs.take v.r)) _
          rw[← zc1 k2];exact k1.take _
        · show _=φ1.k x * m
          rw[he.k,← k4,← List.append_assoc,List.take_append_drop]
        · show ((hget H v.q).cs.take v.r).length<2 ^ 40
          omega
      rw[← List.append_assoc,List.take_append_drop] at hB
      rw[hov] at hq ⊢
      have hqb:v.q ∉ Q:=fun h=>by
        rw[List.nodup_append] at hq
        exact hq.2.2 _ h _ (by simp) rfl
      obtain⟨r1,r2,r3⟩:=zoc hs hlim he hn hx hql (by omega) (by omega) hqb ho hB
      refine⟨_,r1,r2,?_⟩
      rw[hval1,zaz,hp1]
      have e:(φ1.name H1.n x ((hget H v.q).cs.take v.r).length).k x=φ.k x:=by rw[← he.k];rfl
      have htl2:(φ1.name H1.n x ((hget H v.q).cs.take v.r).length).tl H1.n=v.r:=(if_pos rfl).trans htl
      have:=VR.own (φ:=φ1.name H1.n x ((hget H v.q).cs.take v.r).length) H1.n x v.r 0 [] r3 (by rw[htl2];exact Nat.le_refl _) (by rw[htl2,e];omega)
      rw[e] at this
      show VR _ ⟨25,1,H1.n,((hget H v.q).cs.take v.r).length,0,[]⟩ _
      rw[htl] at this ⊢
      exact this
    · have key:∃ base,val=.slice base 0 0∧v.r=0∧((v.p=0∧base=none) ∨ (v.p=2∧∃ a,base=some a)):=by
        clear virt
        cases hvt<;>first | exact absurd rfl hp1 | exact⟨_,rfl,rfl,.inl ⟨rfl,rfl⟩⟩ | exact⟨_,rfl,rfl,.inr ⟨rfl,_,rfl⟩⟩ | (simp only at htag;omega)
      obtain⟨base,e1,hr0,hp⟩:=key
      rw[hr0,List.take_zero] at virt ⊢
      refine virt ?_
      rw[e1]
      rcases hp with⟨e2,rfl⟩ | ⟨e2,ad,rfl⟩
      · rw[e2];exact .ownn _ _ _
      · rw[e2];exact .owne _ _ _ _
theorem zpm{T1:Fr}{H1:Hp}{φ1:Ph}{Q:List Nat}{v:AV}{val:Value}{cs:List AV}{x ty:Nat}{l rest:List Value}(hs:St P w0 N Hb φ0 T H φ a w)(hlim:Hb.lim=Hb.n)(he:Ent P w0 N Hb H φ0 φ a w T1 H1 φ1 Q)(hval:val=.pointer (some ⟨x,0,none⟩))(hx:φ v.p=some x)(hk1:(hget H v.p).kind=1)(hpl:H.lim≤v.p)(hn:H1.n≤32766)(hq:v.p ∉ Q)
    (ho:w.heap[x]?=some (.cells (l++rest).toArray ty)) (b1:VRs φ1 cs l) (b2:∀ c ∈ cs,za6 c=true) (b3:((hget H v.p).e=0→(l++rest).length=φ.k x * (hget H v.p).t)∧(2≤(hget H v.p).e→φ.op (10+(hget H v.p).e) (.int .i64 (x:Int))∧(hget H v.p).e<18)) :
    ∃ φ2,Ent P w0 N Hb H φ0 φ a w T1 (hnew H1 ⟨1,(hget H v.p).t,(hget H v.p).e,cs⟩) φ2 (Q++[v.p])∧Le φ1 φ2∧VR φ2 ⟨10,H1.n,0,0,0,[]⟩ val:=by
  have hB:BRel P φ1 x ⟨1,(hget H v.p).t,(hget H v.p).e,cs⟩ (.cells (l++rest).toArray ty):=by
    refine⟨fun _=>⟨l,rest,ty,rfl,b1,b2,fun h0=>?_,fun h2=>by rw[he.ex.keep.op,← hs.ex.keep.op];exact b3.2 h2⟩,(fun h=>by cases h),(fun h=>by cases h),(fun h=>by have h':4≤1:=h;omega)⟩
    show _=φ1.k x * (hget H v.p).t
    rw[he.k];exact b3.1 h0
  obtain⟨r1,r2,r3⟩:=zoc hs hlim he hn hx hpl (by omega) (by omega) hq ho hB
  refine⟨_,r1,r2,?_⟩
  rw[hval]
  exact .ptr H1.n x 0 0 0 [] r3
theorem VRs.at{φ:Ph}{cs:List AV}:∀ {l:List Value},VRs φ cs l→∀ (j:Nat) (c:AV),cs[j]?=some c→∃ v,l[j]?=some v∧VR φ c v:=by
  induction cs with
  | nil=>intro l _ j c h;simp at h
  | cons c0 cs ih =>
    intro l h j c hj
    cases h with
    | cons h1 h2 =>
      cases j with
      | zero=>simp at hj;subst hj;exact⟨_,rfl,h1⟩
      | succ j=>simpa using ih h2 j c (by simpa using hj)
theorem zt7{m:Nat}{φ1:Ph}(hz:φ1.fz=φ.fz){cs:List AV}:∀ {j:Nat} {cs':List AV} {l:List Value},zob m H cs j=some cs'→VRs φ cs l→(∀ c ∈ cs,za6 c=true) →
    ∃ c d vj,cs[j]?=some c∧zhx m H c=some d∧cs'[j]?=some d∧l[j]?=some vj∧VR φ c vj∧∀ (φ2:Ph) (e:AV),Le φ1 φ2→VR φ2 e vj→za6 e=true→VRs φ2 (putN e j cs') l∧∀ c ∈ putN e j cs',za6 c=true:=by
  induction cs with
  | nil=>intro j cs' l h;cases h
  | cons c0 cs ih =>
    intro j cs' l h hv hok
    cases hv with
    | cons h1 h2 =>
    cases j with
    | zero =>
      have h':bi (allL cl0 cs) (om (zhx m H c0) none fun d=>some (d::cs)) none=some cs':=h
      obtain⟨ha,h'⟩:=zas h'
      obtain⟨d,hd,h'⟩:=za1 h'
      cases h'
      refine⟨c0,d,_,rfl,hd,rfl,rfl,h1,fun φ2 e hle he heo=>⟨?_,?_⟩⟩
      · exact .cons he ((zjs (φ':=φ1) hz ha h2).mono hle)
      · intro c hc
        have hc':c ∈ e::cs:=hc
        rcases List.mem_cons.1 hc' with rfl | hc'
        · exact heo
        · exact hok c (by simp[hc'])
    | succ j =>
      have h':bi (cl0 c0) (om (zob m H cs j) none fun l=>some (c0::l)) none=some cs':=h
      obtain⟨ha,h'⟩:=zas h'
      obtain⟨cs1,hc1,h'⟩:=za1 h'
      cases h'
      obtain⟨c,d,vj,g1,g2,g3,g4,g5,g6⟩:=ih hc1 h2 fun c hc=>hok c (by simp[hc])
      refine⟨c,d,vj,by simpa using g1,g2,by simpa using g3,by simpa using g4,g5,fun φ2 e hle he heo=>?_⟩
      obtain⟨k1,k2⟩:=g6 φ2 e hle he heo
      refine⟨.cons ((zkT (φ':=φ1) ha h1 hz).mono hle) k1,?_⟩
      intro c hc
      have hc':c ∈ c0::putN e j cs1:=hc
      rcases List.mem_cons.1 hc' with rfl | hc'
      · exact hok c (by simp)
      · exact k2 c hc'
theorem zuY{L:RL}{c:Fr→Hp→RL}(hL:AllOk L)(hs:St P w0 N Hb φ0 T H φ a w)(hlim:Hb.lim=Hb.n):∀ (live:List (Nat × Nat)) (ds:List AV) (T1:Fr) (H1:Hp) (φ1:Ph) (Q:List Nat),ziK live=true→zmQ T H live=some ds→(Q++zia T H live).Nodup →
    Ent P w0 N Hb H φ0 φ a w T1 H1 φ1 Q→(∀ x ∈ zfp live ds T1 H1 c,x ∈ L)→∃ T' H' φ' Q',Ent P w0 N Hb H φ0 φ a w T' H' φ' Q'∧∀ x ∈ c T' H',x ∈ L:=by
  intro live
  induction live with
  | nil =>
    intro ds T1 H1 φ1 Q _ h hq he hsub
    have h':some ([]:List AV)=some ds:=h
    cases h'
    exact⟨T1,H1,φ1,Q,he,hsub⟩
  | cons tm live ih =>
    intro ds T1 H1 φ1 Q hsl0 h hq he hsub
    obtain⟨t,m⟩:=tm
    obtain⟨ht,hsl⟩:=zaw.1 (show bi (nble (Nat.succ t) 511) (ziK live) false=true from hsl0)
    have ht:=zah.1 ht
    obtain⟨d,hd,h⟩:=za1 (show om (zvH T H (t,m)) none (fun v=>om (zmQ T H live) none fun l=>some (v::l))=some ds from h)
    obtain⟨ds',hds,h⟩:=za1 h
    cases h
    rw[zt6,← List.append_assoc] at hq
    have closed:zbG ((getB t).run T)=true→(getB t).run T=d→(∀ x ∈ zfp live ds' ((setB t).run T1 d) H1 c,x ∈ L)→∃ T' H' φ' Q',Ent P w0 N Hb H φ0 φ a w T' H' φ' Q'∧∀ x ∈ c T' H',x ∈ L:=by
      intro hc e hsub
      subst e
      exact ih ds' _ H1 φ1 Q hsl hds (hq.sublist (List.Sublist.append_right (List.sublist_append_left _ _) _)) (he.set ht (zfq hc (hs.tr.val t) he.fz)) hsub
    cases m with
    | zero =>
      obtain⟨hc,hd⟩:=zas (show bi (zbG ((getB t).run T)) (some ((getB t).run T)) none=some d from hd)
      exact closed hc (Option.some.inj hd) hsub
    | succ m =>
      have hsub0:∀ x ∈ bi (nble 999 m) (zfp live ds' ((setB t).run T1 d) H1 c) (bi (nble H1.n 32765)
        (bi (nble 199 m) (zfp live ds' ((setB t).run T1 ⟨10,Nat.succ H1.n,0,0,0,[]⟩) (hnew (hnew H1 ⟨6,Nat.mod (Nat.sub m 199) 50,0,(nthL d.cs (Nat.div (Nat.sub m 199) 50)).cs⟩) ⟨1,d.q,d.r,putN ⟨25,(nthL d.cs (Nat.div (Nat.sub m 199) 50)).p,H1.n,lenL (nthL d.cs (Nat.div (Nat.sub m 199) 50)).cs,0,[]⟩ (Nat.div (Nat.sub m 199) 50) d.cs⟩) c)
          (bi (nbeq m 99) (zfp live ds' ((setB t).run T1 ⟨10,H1.n,0,0,0,[]⟩) (hnew H1 ⟨1,d.q,d.r,d.cs⟩) c)
            (zfp live ds' ((setB t).run T1 ⟨25,d.p,H1.n,lenL d.cs,0,[]⟩) (hnew H1 ⟨6,m,0,d.cs⟩) c))) (zab 242)),x ∈ L:=hsub
      have hd0:bi (nble 999 m) (bi (zbG ((getB t).run T)) (some ((getB t).run T)) none) (bi (nble 199 m) (zjE (Nat.div (Nat.sub m 199) 50) (Nat.mod (Nat.sub m 199) 50) H ((getB t).run T)) (bi (nbeq m 99) (zl9 H ((getB t).run T)) (zhx m H ((getB t).run T))))=some d:=hd
      have hoq0:ownQ T H (t,m+1)=bi (nble 999 m) [] (bi (nble 199 m) (((getB t).run T).p::ownV (nthL (hget H ((getB t).run T).p).cs (Nat.div (Nat.sub m 199) 50))) (bi (nbeq m 99) [((getB t).run T).p] (ownV ((getB t).run T)))):=rfl
      cases hm999:nble 999 m
      case true =>
        rw[hm999,zag] at hsub0 hd0
        obtain⟨hc,hd0⟩:=zas hd0
        exact closed hc (Option.some.inj hd0) hsub0
      rw[hm999,zai] at hsub0 hd0 hoq0
      cases hn:nble H1.n 32765
      · rw[hn] at hsub0;exact (zaq hL hsub0).elim
      rw[hn,zag] at hsub0
      have hn:=zah.1 hn
      have hvt:=hs.tr.val t
      cases hm199:nble 199 m
      case true =>
        rw[hm199,zag] at hsub0 hd0 hoq0
        rw[hoq0] at hq
        generalize Nat.div (Nat.sub m 199) 50=j at hsub0 hd0 hq
        generalize Nat.mod (Nat.sub m 199) 50=k at hsub0 hd0
        generalize hv:(getB t).run T=v at hd0 hvt hq
        unfold zjE at hd0
        obtain⟨h10,hd0⟩:=zas hd0
        obtain⟨hq0,hd0⟩:=zas hd0
        obtain⟨hk1,hd0⟩:=zas hd0
        obtain⟨hpn,hd0⟩:=zas hd0
        obtain⟨hpl,hd0⟩:=zas hd0
        obtain⟨cs',hcs,hd0⟩:=za1 hd0
        cases hd0
        have hk1:=zaa.1 hk1
        have hpl:=zah.1 hpl
        have hq0:=zaa.1 hq0
        obtain⟨x,hval1,hx⟩:=hvt.of_ptr (zaa.1 h10)
        rw[hq0] at hval1
        obtain⟨_,_,o,ho,hB0⟩:=hs.hr.blk _ _ hx
        obtain⟨l,rest,ty,rfl,b1,b2,b3⟩:=hB0.cells hk1
        obtain⟨cj,dj,vj,g1,g2,g3,g4,g5,g6⟩:=zt7 (φ1:=φ1) he.fz hcs b1 b2
        have ecj:nthL (hget H v.p).cs j=cj:=by rw[zcG,g1];rfl
        have edj:nthL cs' j=dj:=by rw[zcG,g3];rfl
        rw[ecj] at hq
        have hq1:(Q++(v.p::ownV cj)).Nodup:=hq.sublist (List.sublist_append_left _ _)
        have hq2:(Q++ownV cj).Nodup:=hq1.sublist (List.Sublist.append_left (List.sublist_cons_self _ _) Q)
        simp only[edj] at hsub0
        obtain⟨φ2,e1,le1,vr1⟩:=zod hs hlim he g5 g2 (by omega) hq2
        obtain⟨c1,c2⟩:=g6 φ2 ⟨25,dj.p,H1.n,lenL dj.cs,0,[]⟩ le1 vr1 rfl
        have hnp:v.p ∉ Q++ownV cj:=by
          intro hm
          rw[List.nodup_append] at hq1
          rcases List.mem_append.1 hm with hm | hm
          · exact hq1.2.2 _ hm _ (by simp) rfl
          · exact (List.nodup_cons.1 hq1.2.1).1 hm
        obtain⟨φ3,e2,le2,vr2⟩:=zpm (v:=v) hs hlim e1 hval1 hx hk1 hpl (by rw[zcA];omega) hnp ho c1 c2 b3
        rw[zcA] at vr2
        refine ih ds' _ _ φ3 _ hsl hds ?_ (e2.set ht vr2) hsub0
        have hperm:(Q++(v.p::ownV cj)++zia T H live).Perm (Q++ownV cj++[v.p]++zia T H live):=by
          refine List.Perm.append_right _ ?_
          rw[List.append_assoc]
          refine List.Perm.append_left _ ?_
          exact (List.perm_append_comm (l₁:=[v.p]) (l₂:=ownV cj))
        exact hperm.nodup_iff.1 hq
      rw[hm199,zai] at hsub0 hd0 hoq0
      cases hm99:nbeq m 99
      case true =>
        rw[hm99,zag] at hsub0 hd0 hoq0
        rw[hoq0] at hq
        generalize hv:(getB t).run T=v at hd0 hvt hq
        unfold zl9 at hd0
        obtain⟨h10,hd0⟩:=zas hd0
        obtain⟨hq0,hd0⟩:=zas hd0
        obtain⟨hk1,hd0⟩:=zas hd0
        obtain⟨hpn,hd0⟩:=zas hd0
        obtain⟨hpl,hd0⟩:=zas hd0
        obtain⟨hcl,hd0⟩:=zas hd0
        cases hd0
        have hk1:=zaa.1 hk1
        have hpl:=zah.1 hpl
        have hq0:=zaa.1 hq0
        obtain⟨x,hval1,hx⟩:=hvt.of_ptr (zaa.1 h10)
        rw[hq0] at hval1
        obtain⟨_,_,o,ho,hB0⟩:=hs.hr.blk _ _ hx
        obtain⟨l,rest,ty,rfl,b1,b2,b3⟩:=hB0.cells hk1
        have hnp:v.p ∉ Q:=fun hm=>by
          exact (List.nodup_append.1 (hq.sublist (List.sublist_append_left _ _))).2.2 v.p hm v.p (by simp) rfl
        obtain⟨φ3,e2,le2,vr2⟩:=zpm (v:=v) hs hlim he hval1 hx hk1 hpl (by omega) hnp ho (zjs he.fz hcl b1) b2 b3
        exact ih ds' _ _ φ3 _ hsl hds hq (e2.set ht vr2) hsub0
      rw[hm99,zai] at hsub0 hd0 hoq0
      rw[hoq0] at hq
      obtain⟨φ2,e1,_,vr1⟩:=zod hs hlim he hvt hd0 (by omega) (hq.sublist (List.sublist_append_left _ _))
      exact ih ds' _ _ φ2 _ hsl hds hq (e1.set ht vr1) hsub0
end Go.Eng
namespace Go.Eng
open Go.RowKit
variable {P:Program} {w0:World} {H Hb:Hp} {φ φ0:Ph} {w:World} {N:Nat} {T:Fr} {a:Act} {lab:Lab} {r:Rec}
def FV(z:Nat→Option (List Value))(a:AV)(v:Value):Prop:=∀ φ:Ph,φ.fz=z→VR φ a v
def FVs(z:Nat→Option (List Value))(a:List AV)(v:List Value):Prop:=∀ φ:Ph,φ.fz=z→VRs φ a v
theorem zvI{z:Nat→Option (List Value)}{φ:Ph}(h:∀ x C,z x=some C→φ.fz x=some C):Le ⟨φ.f,φ.k,φ.op,z,φ.tl⟩ φ:=⟨fun _ _ h=>⟨h,rfl⟩,rfl,h,fun _ _ _=>rfl⟩
theorem FV.mono{z z':Nat→Option (List Value)}{a:AV}{v:Value}(h:FV z a v)(hz:∀ x C,z x=some C→z' x=some C):FV z' a v:=by
  intro φ e
  subst e
  exact (h ⟨φ.f,φ.k,φ.op,z,φ.tl⟩ rfl).mono (zvI hz)
theorem FVs.mono{z z':Nat→Option (List Value)}{a:List AV}{v:List Value}(h:FVs z a v)(hz:∀ x C,z x=some C→z' x=some C):FVs z' a v:=by
  intro φ e
  subst e
  exact (h ⟨φ.f,φ.k,φ.op,z,φ.tl⟩ rfl).mono (zvI hz)
theorem zhy{t:TypeId}{v a':AV}{H':Hp}{val:Value}(h:frzV P t v H=some (a',H'))(hr:HR P w0 H φ w)(hv:VR φ v val):∃ φ',Frz P w0 w H φ H' φ'∧FV φ'.fz a' val:=by
  have h0:bi (nbeq v.tag 13) (bi (cl0 v) (some (v,H)) none) (om (zff P 20 t) none (fun ts=>om (frzL P (frzE P 20) ts (cellsOf v) H) none fun x=>bi (bi (zaC P t) (nbeq v.tag 15) (bi (nbeq v.tag 15) false (nbeq (lenL x.1) 1))) (some (zbE (zaC P t) x.1,x.2)) none))=some (a',H'):=h
  cases h13:nbeq v.tag 13
  case true =>
    rw[h13,zag] at h0
    obtain⟨hc,h0⟩:=zas h0
    cases h0
    exact⟨φ,Frz.refl hr,fun ψ e=>zkT hc hv e⟩
  rw[h13,zai] at h0
  have h':=h0
  obtain⟨ts,_,h'⟩:=za1 h'
  obtain⟨⟨cs,H1⟩,h2,h'⟩:=za1 h'
  obtain⟨h3,h'⟩:=zas h'
  cases h'
  cases h15:nbeq v.tag 15
  · rw[h15] at h3
    cases hag:zaC P t
    · rw[hag] at h3
      have h3:nbeq (lenL cs) 1=true:=h3
      have hl:=zaa.1 h3
      rw[zaz] at hl
      obtain⟨c,rfl⟩:=List.length_eq_one_iff.1 hl
      have e1:cellsOf v=[v]:=by unfold cellsOf;rw[h15];rfl
      rw[e1] at h2
      obtain⟨φ',f1,f2,_,_⟩:=zl7 (zl8 20) _ _ _ _ _ h2 φ w [val] hr (.cons hv .nil)
      refine⟨φ',f1,fun ψ e=>?_⟩
      cases f2 with | cons g1 _=>exact FZ.vr (φ:=ψ) (by rw[e];exact g1)
    · rw[hag] at h3;cases h3
  · rw[h15] at h3
    cases hag:zaC P t
    · rw[hag] at h3;cases h3
    · obtain⟨l,rfl,hl,_⟩:=hv.of_agg (zaa.1 h15)
      have e1:cellsOf v=v.cs:=by unfold cellsOf;rw[h15];rfl
      rw[e1] at h2
      obtain⟨φ',f1,f2,_,f4⟩:=zl7 (zl8 20) _ _ _ _ _ h2 φ w l hr hl
      refine⟨φ',f1,fun ψ e=>?_⟩
      exact .agg 0 0 0 0 cs l (FZs.vrs (φ:=ψ) (by rw[e];exact f2)) f4
theorem zjF(ts:List TypeId):∀ {vs as:List AV} {H H':Hp} {φ:Ph} {vals:List Value},zdV P ts vs H=some (as,H')→HR P w0 H φ w→VRs φ vs vals→∃ φ',Frz P w0 w H φ H' φ'∧FVs φ'.fz as vals:=by
  induction ts with
  | nil =>
    intro vs as H H' φ vals h hr hv
    cases vs with
    | nil =>
      have h':some (([]:List AV),H)=some (as,H'):=h
      cases h';cases hv
      exact⟨φ,Frz.refl hr,fun _ _=>.nil⟩
    | cons v vs=>cases h
  | cons t ts ih =>
    intro vs as H H' φ vals h hr hv
    cases vs with
    | nil=>cases h
    | cons v vs =>
      have h':om (frzV P t v H) none (fun x=>om (zdV P ts vs x.2) none fun y=>some (x.1::y.1,y.2))=some (as,H'):=h
      obtain⟨⟨a1,H1⟩,h1,h'⟩:=za1 h'
      obtain⟨⟨as2,H2⟩,h2,h'⟩:=za1 h'
      cases h'
      cases hv with
      | cons hv1 hv2 =>
        obtain⟨φ1,f1,g1⟩:=zhy h1 hr hv1
        obtain⟨φ2,f2,g2⟩:=ih h2 f1.hr (hv2.mono f1.ex.keep)
        exact⟨φ2,f1.trans f2,fun ψ e=>.cons ((g1.mono f2.ex.keep.fz) ψ e) (g2 ψ e)⟩
theorem zyv{H0:Hp}:∀ (live:List (Nat × Nat)) (T:Fr) (H:Hp) (φ:Ph) (x:Fr × Hp),frzS P live T H=some x→St P w0 N H0 φ0 T H φ a w→∃ φ',St P w0 N H0 φ0 x.1 x.2 φ' a w:=by
  intro live
  induction live with
  | nil =>
    intro T H φ x h hs
    have h':some (T,H)=some x:=h
    cases h'
    exact⟨φ,hs⟩
  | cons tm live ih =>
    intro T H φ x h hs
    obtain⟨y,h1,h2⟩:=za1 (show om (zrc P tm T H) none (fun x=>frzS P live x.1 x.2)=some x from h)
    have key:∃ φ',St P w0 N H0 φ0 y.1 y.2 φ' a w:=by
      unfold zrc at h1
      cases hm:nble 1000 tm.2
      · rw[hm] at h1
        have h1':some (T,H)=some y:=h1
        cases h1'
        exact⟨φ,hs⟩
      · rw[hm,zag] at h1
        obtain⟨ht,h1⟩:=zas h1
        obtain⟨v,hv,h1⟩:=za1 h1
        cases h1
        obtain⟨φ1,f1,g1⟩:=zhy hv hs.hr (hs.tr.val tm.1)
        have htr:=hs.tr.mono f1.ex.keep
        refine⟨φ1,⟨htr.size,?_,by rw[zb1];exact htr.defers,htr.gl⟩,f1.hr,hs.ex.trans f1.ex⟩
        intro t'
        rw[zbr]
        by_cases e:tm.1=t'
        · subst e;rw[if_pos ⟨rfl,zah.1 ht⟩];exact g1 φ1 rfl
        · rw[if_neg (fun h=>e h.1)];exact htr.val t'
    obtain⟨φ',hs'⟩:=key
    exact ih _ _ φ' x h2 hs'
end Go.Eng
