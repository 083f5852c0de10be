/- A part of the proof that the evaluator in GnC, and the driver in GnZ, answer as the model does; no conditions. -/
import Derived.Test.YtfmoohdaimlggaaGreatDoorGnLa
namespace Go.Eng
open Go.RowKit
variable {P:Program} {w0:World} {H:Hp} {φ φ' φ'':Ph} {w:World} {n0:Nat} {L:List (Nat × AB)}
theorem zlP(n:Nat)(v:AV)(l:List (Nat × AB)):matV H n0 (n+1) v l =
    bi (bi (nble 10 v.tag) (nble v.tag 12) false)
      (bi (nble (Nat.succ v.p) n0) (some (v,l)) (bi (bi (nbeq (hget H v.p).kind 1) true (nbeq (hget H v.p).kind 2)) (om (matL (matV H n0 n) (hget H v.p).cs l) none fun y =>
        some (⟨v.tag,Nat.add n0 (lenL y.l),v.q,v.r,v.s,[]⟩,appL y.l [(v.p,⟨(hget H v.p).kind,(hget H v.p).t,(hget H v.p).e,y.v⟩)])) none))
      (bi (bi (nble 13 v.tag) (nble v.tag 16) false) (bi (nbeq v.tag 14) none (om (matL (matV H n0 n) v.cs l) none fun y=>some (⟨v.tag,v.p,v.q,v.r,v.s,y.v⟩,y.l))) (bi (bi (nbeq v.tag 18) true (nble 24 v.tag)) none (some (v,l)))):=rfl
theorem zgy{f:AV→List (Nat × AB)→Option (AV × List (Nat × AB))}{v:AV}{vs:List AV}{l:List (Nat × AB)}{y:MS}(h:matL f (v::vs) l=some y) :
    ∃ a b,f v l=some a∧matL f vs a.2=some b∧y=⟨a.1::b.v,b.l⟩:=by
  have h':om (f v l) none (fun x=>om (matL f vs x.2) none fun y=>some ⟨x.1::y.v,y.l⟩)=some y:=h
  cases ha:f v l with
  | none=>rw[ha] at h';cases h'
  | some a =>
    rw[ha,zan] at h'
    cases hb:matL f vs a.2 with
    | none=>rw[hb] at h';cases h'
    | some b=>rw[hb,zan] at h';cases h';exact⟨a,b,rfl,hb,rfl⟩
def zgz(P:Program)(H:Hp)(n0:Nat)(φ' φ'':Ph)(a:Nat × AB):Prop :=
  n0≤a.1∧(∃ x,φ' a.1=some x)∧(a.2.kind=(hget H a.1).kind∧(hget H a.1).kind<6)∧(hget H a.1).kind ≠ 0∧∀ x o,BRel P φ' x (hget H a.1) o→BRel P φ'' x a.2 o
def zk2(P:Program)(H:Hp)(n0:Nat)(φ' φ'':Ph)(L:List (Nat × AB))(f:AV→List (Nat × AB)→Option (AV × List (Nat × AB))):Prop :=
  ∀ v l y,f v l=some y→l <+: y.2∧(y.2 <+: L→∀ val,VR φ' v val→VR φ'' y.1 val∧(y.1.tag=v.tag∧(v.tag=15→y.1.cs.map (·.tag)=v.cs.map (·.tag)))∧∀ a ∈ y.2,a ∈ l ∨ zgz P H n0 φ' φ'' a)
theorem zlp{f:AV→List (Nat × AB)→Option (AV × List (Nat × AB))}(hf:zk2 P H n0 φ' φ'' L f)(vs:List AV):∀ (l:List (Nat × AB)) (y:MS),matL f vs l=some y →
    l <+: y.l∧(y.l <+: L→∀ vals,VRs φ' vs vals→VRs φ'' y.v vals∧y.v.map (·.tag)=vs.map (·.tag)∧∀ a ∈ y.l,a ∈ l ∨ zgz P H n0 φ' φ'' a):=by
  induction vs with
  | nil=>intro l y h;cases h;exact⟨List.prefix_rfl,fun _ vals h=>by cases h;exact⟨.nil,rfl,fun a h=>.inl h⟩⟩
  | cons v vs ih =>
    intro l y h
    obtain⟨a,b,ha,hb,rfl⟩:=zgy h
    obtain⟨h1,h2⟩:=hf v l a ha
    obtain⟨h3,h4⟩:=ih a.2 b hb
    refine⟨h1.trans h3,fun hp vals hv=>?_⟩
    cases hv with
    | cons g1 g2 =>
      obtain⟨e1,e2,e3⟩:=h2 (h3.trans hp) _ g1
      obtain⟨e4,e5,e6⟩:=h4 hp _ g2
      refine⟨.cons e1 e4,by simp[e2.1,e5],fun c hc=>?_⟩
      rcases e6 c hc with h | h
      · exact e3 c h
      · exact .inr h
theorem zx3{kt:Nat}{a b:AV}(h:a.tag=b.tag∧(b.tag=15→a.cs.map (·.tag)=b.cs.map (·.tag))):keyA kt a=keyA kt b:=by
  unfold keyA
  rw[h.1]
  cases nble 32 kt
  · rfl
  · rw[zag,zag]
    cases hb:nbeq b.tag 15
    · rfl
    · have e:=h.2 (zaa.1 hb)
      have e1:lenL a.cs=lenL b.cs:=by
        rw[zaz,zaz]
        have:=congrArg List.length e
        simpa using this
      have e2:∀ l:List AV,allL (fun c=>nbeq c.tag (Nat.mod kt 8)) l=(l.map (·.tag)).all fun t=>nbeq t (Nat.mod kt 8):=fun l=>by rw[zcH,List.all_map];rfl
      rw[e1,e2,e2,e]
theorem zx4{n:Nat}(ih:∀ m<n,zk2 P H n0 φ' φ'' L (matV H n0 m)){b q r s:Nat}{k v:AV}{ek ev:Value}{l:List (Nat × AB)}{y:AV × List (Nat × AB)}
    (h:matV H n0 n ⟨16,b,q,r,s,[k,v]⟩ l=some y) (hp:y.2 <+: L) (hk:VR φ' k ek) (hv:VR φ' v ev) :
    ∃ k' v',y.1=⟨16,b,q,r,s,[k',v']⟩∧VR φ'' k' ek∧(k'.tag=k.tag∧(k.tag=15→k'.cs.map (·.tag)=k.cs.map (·.tag)))∧VR φ'' v' ev∧∀ a ∈ y.2,a ∈ l ∨ zgz P H n0 φ' φ'' a:=by
  cases n with
  | zero=>cases h
  | succ n =>
    rw[zlP] at h
    have h':om (matL (matV H n0 n) [k,v] l) none (fun y=>some ((⟨16,b,q,r,s,y.v⟩:AV),y.l))=some y:=h
    cases hm:matL (matV H n0 n) [k,v] l with
    | none=>rw[hm] at h';cases h'
    | some z =>
      rw[hm,zan] at h'
      cases h'
      obtain⟨a,z1,ha,hb,rfl⟩:=zgy hm
      obtain⟨a2,z2,ha2,hb2,rfl⟩:=zgy hb
      cases hb2
      have ihn:=ih n (Nat.lt_succ_self n)
      obtain⟨p1,q1⟩:=ihn _ _ _ ha
      obtain⟨p2,q2⟩:=ihn _ _ _ ha2
      obtain⟨e1,e2,e3⟩:=q2 hp _ hv
      obtain⟨e4,e5,e6⟩:=q1 (p2.trans hp) _ hk
      exact⟨a.1,a2.1,rfl,e4,e5,e1,fun c hc=>(e3 c hc).elim (e6 c) .inr⟩
theorem zoL{n:Nat}(ih:∀ m<n,zk2 P H n0 φ' φ'' L (matV H n0 m))(hn:zk2 P H n0 φ' φ'' L (matV H n0 n)){kt ck:Nat}{cs:List AV}{es:List MapEntry}(he:Ents φ' kt ck cs es) :
    ∀ (l:List (Nat × AB)) (y:MS),matL (matV H n0 n) cs l=some y→y.l <+: L→Ents φ'' kt ck y.v es∧∀ a ∈ y.l,a ∈ l ∨ zgz P H n0 φ' φ'' a:=by
  induction he with
  | nil=>intro l y h _;cases h;exact⟨.nil,fun a h=>.inl h⟩
  | cons g1 g2 g3 g4 _ ihe =>
    intro l y h hp
    obtain⟨a,b,ha,hb,rfl⟩:=zgy h
    obtain⟨h3,_⟩:=zlp hn _ a.2 b hb
    obtain⟨k',v',e1,e2,e3,e4,e5⟩:=zx4 ih ha (h3.trans hp) g1 g3
    obtain⟨e6,e7⟩:=ihe a.2 b hb hp
    refine⟨?_,fun c hc=>?_⟩
    · rw[e1];exact .cons e2 ((zx3 e3).trans g2) e4 g4 e6
    · rcases e7 c hc with h | h
      · exact e5 c h
      · exact .inr h
theorem zs8{a b:AV}(h:a.tag=b.tag):za6 a=za6 b:=by unfold za6;rw[h]
theorem zk3{l l':List AV}(h:l.map (·.tag)=l'.map (·.tag))(hl:∀ c ∈ l',za6 c=true):∀ c ∈ l,za6 c=true:=by
  intro c hc
  obtain⟨i,hi⟩:=List.mem_iff_getElem?.1 hc
  have h1:(l.map (·.tag))[i]?=some c.tag:=by simp[hi]
  rw[h] at h1
  simp only[List.getElem?_map,Option.map_eq_some_iff] at h1
  obtain⟨d,hd,he⟩:=h1
  rw[zs8 he.symm]
  exact hl d (List.mem_of_getElem? hd)
theorem VR.leaf(hlow:∀ b,b<n0→φ'' b=φ' b)(hk:∀ x,φ''.k x=φ'.k x)(hop:φ''.op=φ'.op){v:AV}{val:Value}(h:VR φ' v val)(h1:v.tag<10 ∨ 16<v.tag ∨ (v.tag≤12∧v.p<n0))(h24:v.tag<24):VR φ'' v val:=by
  cases h with
  | frz | fptr | own | ownn | owne | optr=>simp at h24
  | int c p r s cs e1 e2=>exact .int c p r s cs e1 e2
  | bool b r s cs=>exact .bool b r s cs
  | str l r s cs=>exact .str l r s cs
  | ptr b x off r s cs h=>exact .ptr b x off r s cs (by rw[hlow b (by simp at h1;omega)];exact h)
  | sl b x off len cap s cs h g1 g2 g3 g4=>exact .sl b x off len cap s cs (by rw[hlow b (by simp at h1;omega)];exact h) g1 g2 g3 (fun e1 e2=>(g4 e1 e2).trans (hk x).symm)
  | map b x q r s cs h=>exact .map b x q r s cs (by rw[hlow b (by simp at h1;omega)];exact h)
  | fn=>simp at h1
  | yld=>simp at h1
  | agg=>simp at h1
  | tup=>simp at h1
  | nilp q r s cs=>exact .nilp q r s cs
  | nils q r s cs=>exact .nils q r s cs
  | nilm q r s cs=>exact .nilm q r s cs
  | nilf q r s cs=>exact .nilf q r s cs
  | nili q r s cs=>exact .nili q r s cs
  | unk=>exact .unk _ _ _ _ _ _
  | ud p q r s cs=>exact .ud p q r s cs
  | neg p q r s cs n h=>exact .neg p q r s cs n h
  | pos p q r s cs n h=>exact .pos p q r s cs n h
  | opq p q r s cs _ h1 h2 h3=>exact .opq p q r s cs _ (h1.mono hop) h2 h3
theorem zx5(hr:HR P w0 H φ' w)(hlow:∀ b,b<n0→φ'' b=φ' b)(hk:∀ x,φ''.k x=φ'.k x)(hop:φ''.op=φ'.op)(hnew:∀ i a,L[i]?=some a→φ'' (n0+i)=φ' a.1)(n:Nat):zk2 P H n0 φ' φ'' L (matV H n0 n):=by
  induction n using Nat.strongRecOn with
  | _ n ih =>
    cases n with
    | zero=>intro v l y h;cases h
    | succ n =>
      intro v l y h
      rw[zlP] at h
      cases h1:bi (nble 10 v.tag) (nble v.tag 12) false
      · rw[h1,zai] at h
        cases h2:bi (nble 13 v.tag) (nble v.tag 16) false
        · rw[h2,zai] at h
          cases h18:bi (nbeq v.tag 18) true (nble 24 v.tag)
          · rw[h18,zai] at h
            cases h
            have h24:v.tag<24:=by
              cases h24:nble 24 v.tag
              · exact zaW.1 h24
              · rw[h24] at h18;cases hb:nbeq v.tag 18<;>rw[hb] at h18<;>cases h18
            refine⟨List.prefix_rfl,fun _ val hv=>⟨hv.leaf hlow hk hop ?_ h24,⟨rfl,fun _=>rfl⟩,fun a h=>.inl h⟩⟩
            have e1:=mt zaw.2 (by rw[h1];simp)
            have e2:=mt zaw.2 (by rw[h2];simp)
            rw[zah,zah] at e1 e2
            omega
          · rw[h18] at h;cases h
        · rw[h2,zag] at h
          obtain⟨e1,e2⟩:=zaw.1 h2
          have e1:=zah.1 e1
          have e2:=zah.1 e2
          have h14:nbeq v.tag 14=false:=by
            cases h14:nbeq v.tag 14
            · rfl
            · rw[h14] at h;cases h
          rw[h14,zai] at h
          cases hm:matL (matV H n0 n) v.cs l with
          | none=>rw[hm] at h;cases h
          | some z =>
            rw[hm,zan] at h
            cases h
            obtain⟨g1,g2⟩:=zlp (ih n (Nat.lt_succ_self n)) v.cs l z hm
            refine⟨g1,fun hp val hv=>?_⟩
            cases hv with
            | fn f q r s cs first cap hcs hq =>
              obtain⟨g3,g4,g5⟩:=g2 hp _ hcs
              exact⟨.fn f q r s _ first cap g3 hq,⟨rfl,fun h=>by cases h⟩,g5⟩
            | agg p q r s cs vals hcs hok =>
              obtain⟨g3,g4,g5⟩:=g2 hp _ hcs
              exact⟨.agg p q r s _ vals g3 (zk3 g4 hok),⟨rfl,fun _=>g4⟩,g5⟩
            | yld=>exact absurd rfl (zam.1 h14)
            | tup p q r s cs vals hcs =>
              obtain⟨g3,g4,g5⟩:=g2 hp _ hcs
              exact⟨.tup p q r s _ vals g3,⟨rfl,fun h=>by cases h⟩,g5⟩
            | int=>simp at e1;omega
            | _=>simp at e1 e2
      · rw[h1,zag] at h
        obtain⟨t1,t2⟩:=zaw.1 h1
        have t1:=zah.1 t1
        have t2:=zah.1 t2
        cases hb:nble (Nat.succ v.p) n0
        · rw[hb,zai] at h
          cases hkd:bi (nbeq (hget H v.p).kind 1) true (nbeq (hget H v.p).kind 2)
          · rw[hkd] at h;cases h
          · rw[hkd,zag] at h
            cases hm:matL (matV H n0 n) (hget H v.p).cs l with
            | none=>rw[hm] at h;cases h
            | some z =>
              rw[hm,zan,zaV] at h
              cases h
              have hn:=ih n (Nat.lt_succ_self n)
              obtain⟨g1,g2⟩:=zlp hn _ l z hm
              refine⟨g1.trans (List.prefix_append _ _),fun hp val hv=>?_⟩
              have hzl:z.l <+: L:=(List.prefix_append _ _).trans hp
              have hat:φ'' (n0+z.l.length)=φ' v.p:=by
                refine hnew z.l.length (v.p,⟨(hget H v.p).kind,(hget H v.p).t,(hget H v.p).e,z.v⟩) ?_
                obtain⟨t,ht⟩:=hp
                rw[← ht];simp
              have hx:∃ x,φ' v.p=some x:=by
                cases hv with
                | ptr b x off r s cs h=>exact⟨x,h⟩
                | sl b x off len cap s cs h=>exact⟨x,h⟩
                | map b x q r s cs h=>exact⟨x,h⟩
                | int=>simp at t1;omega
                | _=>simp at t1 t2
              obtain⟨x,hx⟩:=hx
              obtain⟨_,_,o,_,hB⟩:=hr.blk _ _ hx
              have hkne:(hget H v.p).kind ≠ 0:=by
                rcases zbw.1 hkd with h | h<;>have:=zaa.1 h<;>omega
              have hsub:∀ a ∈ z.l,a ∈ l ∨ zgz P H n0 φ' φ'' a:=by
                rcases zbw.1 hkd with h | h
                · obtain⟨vals,_,_,_,hcs,_,_⟩:=hB.cells (zaa.1 h)
                  exact (g2 hzl _ hcs).2.2
                · obtain⟨es,_,hes,_⟩:=hB.map (zaa.1 h)
                  exact (zoL (fun m hm=>ih m (by omega)) hn hes l z hm hzl).2
              have hgood:zgz P H n0 φ' φ'' (v.p,⟨(hget H v.p).kind,(hget H v.p).t,(hget H v.p).e,z.v⟩):=by
                refine⟨Nat.le_of_lt_succ (zaW.1 hb),⟨x,hx⟩,⟨rfl,by show (hget H v.p).kind<6;rcases zbw.1 hkd with h | h<;>have:=zaa.1 h<;>omega⟩,hkne,fun x o hB=>⟨fun h1=>?_,fun h2=>?_,fun h3=>?_,fun h4=>?_⟩⟩
                · obtain⟨vals,rest,t,e1,e2,e3,e4⟩:=hB.cells h1
                  obtain⟨f1,f2,_⟩:=g2 hzl _ e2
                  exact⟨vals,rest,t,e1,f1,zk3 f2 e3,fun he=>by rw[hk];exact e4.1 he,fun he=>by rw[hop];exact e4.2 he⟩
                · obtain⟨es,e1,e2,e3⟩:=hB.map h2
                  exact⟨es,e1,(zoL (fun m hm=>ih m (by omega)) hn e2 l z hm hzl).1,e3⟩
                · have h3:(hget H v.p).kind=3:=h3
                  rcases zbw.1 hkd with h | h<;>have:=zaa.1 h<;>omega
                · have h4:4≤(hget H v.p).kind:=h4
                  rcases zbw.1 hkd with h | h<;>have:=zaa.1 h<;>omega
              have hlen:Nat.add n0 (lenL z.l)=n0+z.l.length:=by rw[zaz];rfl
              refine⟨?_,⟨rfl,fun h=>absurd h (by omega)⟩,fun a ha=>?_⟩
              · simp only[hlen]
                cases hv with
                | ptr b x off r s cs h=>exact .ptr _ x off r s _ (hat.trans h)
                | sl b x off len cap s cs h e1 e2 e3 e4=>exact .sl _ x off len cap s _ (hat.trans h) e1 e2 e3 (fun f1 f2=>(e4 f1 f2).trans (hk x).symm)
                | map b x q r s cs h=>exact .map _ x q r s _ (hat.trans h)
                | int=>simp at t1;omega
                | _=>simp at t1 t2
              · rcases List.mem_append.1 ha with h | h
                · exact hsub a h
                · rw[List.mem_singleton.1 h];exact .inr hgood
        · rw[hb,zag] at h
          cases h
          exact⟨List.prefix_rfl,fun _ val hv=>⟨hv.leaf hlow hk hop (by have:=zah.1 hb;omega) (by omega),⟨rfl,fun _=>rfl⟩,fun a h=>.inl h⟩⟩
end Go.Eng
namespace Go.Eng
open Go.RowKit
variable {P:Program} {w0:World} {H:Hp} {φ φ' φ'':Ph} {w:World} {n0:Nat} {L:List (Nat × AB)}
mutual
theorem VR.swap(hlow:∀ b x,φ b=some x→φ'' b=φ' b)(hk:∀ x,φ''.k x=φ'.k x)(hop:φ''.op=φ'.op)(hfz:φ''.fz=φ'.fz)(htl:∀ b x,φ b=some x→φ''.tl b=φ'.tl b){a:AV}{v0 v:Value}(h:VR φ a v0)(h':VR φ' a v):VR φ'' a v:=by
  cases h' with
  | int c p r s cs e1 e2=>exact .int c p r s cs e1 e2
  | bool b r s cs=>exact .bool b r s cs
  | str l r s cs=>exact .str l r s cs
  | ptr b x off r s cs h'=>obtain⟨y,_,hy⟩:=h.of_ptr rfl;exact .ptr b x off r s cs ((hlow b y hy).trans h')
  | sl b x off len cap s cs h' g1 g2 g3 g4=>obtain⟨y,_,_,hy,_⟩:=h.of_sl rfl;exact .sl b x off len cap s cs ((hlow b y hy).trans h') g1 g2 g3 (fun e1 e2=>(g4 e1 e2).trans (hk x).symm)
  | map b x q r s cs h'=>obtain⟨y,_,hy⟩:=h.of_map rfl;exact .map b x q r s cs ((hlow b y hy).trans h')
  | fn f n r s cs first cap h' h1=>obtain⟨_,_,_,hy,_⟩:=h.of_fn rfl;exact .fn f n r s cs first cap (VRs.swap hlow hk hop hfz htl hy h') h1
  | yld b x q r s cs h'=>obtain⟨y,_,hy⟩:=h.of_yld rfl;exact .yld b x q r s cs ((hlow b y hy).trans h')
  | agg p q r s cs l h' h1=>obtain⟨_,_,hy,_⟩:=h.of_agg rfl;exact .agg p q r s cs l (VRs.swap hlow hk hop hfz htl hy h') h1
  | tup p q r s cs l h'=>obtain⟨_,_,hy⟩:=h.of_tup rfl;exact .tup p q r s cs l (VRs.swap hlow hk hop hfz htl hy h')
  | nilp q r s cs=>exact .nilp q r s cs
  | nils q r s cs=>exact .nils q r s cs
  | nilm q r s cs=>exact .nilm q r s cs
  | nilf q r s cs=>exact .nilf q r s cs
  | nili q r s cs=>exact .nili q r s cs
  | unk=>exact .unk _ _ _ _ _ _
  | ud p q r s cs=>exact .ud p q r s cs
  | neg p q r s cs n e=>exact .neg p q r s cs n e
  | pos p q r s cs n e=>exact .pos p q r s cs n e
  | opq p q r s cs _ h1 h2 h3=>exact .opq p q r s cs _ (h1.mono hop) h2 h3
  | frz p q r s cs v h1=>exact .frz p q r s cs v (hfz ▸ h1)
  | fptr p q r s cs v h1=>exact .fptr p q r s cs v (hfz ▸ h1)
  | own b x r s cs e1 e2 e3 =>
    obtain⟨y,hy,_⟩:=h.of_own rfl rfl
    have t1:φ''.tl b=φ'.tl b:=htl b y hy
    have t2:=hk x
    rw[← t2]
    exact .own b x r s cs ((hlow b y hy).trans e1) (by omega) (by omega)
  | ownn b s cs=>exact .ownn b s cs
  | owne b s cs a=>exact .owne b s cs a
  | optr b x q r s cs e1 e2 =>
    obtain⟨y,hy,_⟩:=h.of_optr rfl
    exact .optr b x q r s cs ((hlow b y hy).trans e1) (by rw[htl b y hy];exact e2)
theorem VRs.swap(hlow:∀ b x,φ b=some x→φ'' b=φ' b)(hk:∀ x,φ''.k x=φ'.k x)(hop:φ''.op=φ'.op)(hfz:φ''.fz=φ'.fz)(htl:∀ b x,φ b=some x→φ''.tl b=φ'.tl b){a:List AV}{v0 v:List Value}(h:VRs φ a v0)(h':VRs φ' a v):VRs φ'' a v:=by
  cases h' with
  | nil=>exact .nil
  | cons g1 g2=>cases h with
    | cons e1 e2=>exact .cons (VR.swap hlow hk hop hfz htl e1 g1) (VRs.swap hlow hk hop hfz htl e2 g2)
end
theorem Ents.swap(hlow:∀ b x,φ b=some x→φ'' b=φ' b)(hk:∀ x,φ''.k x=φ'.k x)(hop:φ''.op=φ'.op)(hfz:φ''.fz=φ'.fz)(htl:∀ b x,φ b=some x→φ''.tl b=φ'.tl b){kt ck:Nat}{cs:List AV}{e:List MapEntry}(h':Ents φ' kt ck cs e):∀ {e0:List MapEntry},Ents φ kt ck cs e0→Ents φ'' kt ck cs e:=by
  induction h' with
  | nil=>exact fun _=>.nil
  | cons g1 g2 g3 g4 _ ih =>
    intro e0 h
    cases h with
    | cons f1 f2 f3 f4 f5=>exact .cons (VR.swap hlow hk hop hfz htl f1 g1) g2 (VR.swap hlow hk hop hfz htl f3 g3) g4 (ih f5)
theorem BRel.swap(hlow:∀ b x,φ b=some x→φ'' b=φ' b)(hk:∀ x,φ''.k x=φ'.k x)(hop:φ''.op=φ'.op)(hfz:φ''.fz=φ'.fz)(htl:∀ b x,φ b=some x→φ''.tl b=φ'.tl b){x:Nat}{B:AB}{o0 o:Obj}(h:BRel P φ x B o0)(h':BRel P φ' x B o):BRel P φ'' x B o where
  cells hB:=by
    obtain⟨l0,r0,t0,_,f1,_⟩:=h.cells hB
    obtain⟨l,r,t,e1,e2,e3,e4⟩:=h'.cells hB
    exact⟨l,r,t,e1,VRs.swap hlow hk hop hfz htl f1 e2,e3,fun he=>by rw[hk];exact e4.1 he,fun he=>by rw[hop];exact e4.2 he⟩
  map hB:=by
    obtain⟨es0,_,f1,_⟩:=h.map hB
    obtain⟨es,e1,e2,e3⟩:=h'.map hB
    exact⟨es,e1,Ents.swap hlow hk hop hfz htl e2 f1,e3⟩
  walk hB:=by
    obtain⟨m0,s0,r0,f1,f2,_⟩:=h.walk hB
    obtain⟨m,s,r,e1,e2,e3⟩:=h'.walk hB
    rw[e1] at f1
    injection f1 with f1 _
    subst f1
    exact⟨m,s,r,e1,VR.swap hlow hk hop hfz htl f2 e2,e3⟩
  ext hB:=by
    rcases h'.ext hB with e | ⟨e,rec,f,rp,fn,top,g,T,e1,e2⟩ | ⟨e,l,r,t,fr,e1,e2,e3,e4,e5,e6⟩
    · exact .inl e
    rotate_left
    · rcases h.ext hB with e' | ⟨e',_⟩ | ⟨_,l0,r0,t0,fr0,f1,f2,f3⟩
      · exact absurd e'.1 (by omega)
      · exact absurd e' (by omega)
      · exact .inr (.inr ⟨e,l,r,t,fr,e1,hfz ▸ e2,e3,e4,by rw[hk];exact e5,e6⟩)
    · rcases h.ext hB with e' | ⟨_,rec',f',rp',fn',top',g',T',_,e2'⟩ | ⟨e',_⟩
      · exact absurd e'.1 (by omega)
      rotate_left
      · exact absurd e' (by omega)
      · refine .inr <| .inl ⟨e,rec,f,rp,fn,top,g,T,e1,⟨e2.hfn,e2.htop,e2.code,e2.cs,e2.mks,e2.size,fun t=>?_,e2.st,e2.pend⟩⟩
        have hT:T'=T:=by
          have:=e2'.cs.symm.trans e2.cs
          injection this with _ h2
          injection h2 with h2
          rw[← zi6 T',h2,zi6]
        have hv:=e2'.val t
        rw[hT] at hv
        exact VR.swap hlow hk hop hfz htl hv (e2.val t)
theorem zn1(l:List (Nat × AB)):zm4 l=tupV (l.map fun a=>⟨a.2.kind,a.2.t,a.2.e,0,0,a.2.cs⟩):=by
  unfold zm4
  refine congrArg tupV ?_
  induction l with
  | nil=>rfl
  | cons a l ih=>exact congrArg (_::·) ih
theorem zup{m m':AV × List (Nat × AB)}(h:zm5 m m'=true):m.1=m'.1∧m.2.map (·.2)=m'.2.map (·.2):=by
  obtain⟨h1,h2⟩:=zaw.1 h
  refine⟨zjV _ _ _ h1,?_⟩
  have h3:=zjV _ _ _ h2
  rw[zn1,zn1] at h3
  have h4:=congrArg AV.cs h3
  simp only[tupV] at h4
  have:∀ l l':List (Nat × AB),l.map (fun a=>(⟨a.2.kind,a.2.t,a.2.e,0,0,a.2.cs⟩:AV))=l'.map (fun a=>⟨a.2.kind,a.2.t,a.2.e,0,0,a.2.cs⟩)→l.map (·.2)=l'.map (·.2):=by
    intro l
    induction l with
    | nil=>intro l' h;cases l' with
      | nil=>rfl
      | cons _ _=>cases h
    | cons a l ih=>intro l' h;cases l' with
      | nil=>cases h
      | cons b l' =>
        simp only[List.map_cons,List.cons.injEq] at h ⊢
        refine⟨?_,ih l' h.2⟩
        obtain⟨a1,⟨ak,at',ae,ac⟩⟩:=a
        obtain⟨b1,⟨bk,bt,be,bc⟩⟩:=b
        simp at h ⊢
        exact h.1
  exact this _ _ h4
theorem zs9{l l':List (Nat × AB)}(h:l.map (·.2)=l'.map (·.2)):∀ H,zbU l H=zbU l' H:=by
  induction l generalizing l' with
  | nil=>cases l' with
    | nil=>exact fun _=>rfl
    | cons _ _=>cases h
  | cons a l ih=>cases l' with
    | nil=>cases h
    | cons b l' =>
      intro H
      simp only[List.map_cons,List.cons.injEq] at h
      show zbU l (hnew H a.2)=zbU l' (hnew H b.2)
      rw[h.1];exact ih h.2 _
theorem zd9(l:List (Nat × AB)):∀ H,(zbU l H).n=H.n+l.length∧(zbU l H).lim=H.lim:=by
  induction l with
  | nil=>exact fun _=>⟨rfl,rfl⟩
  | cons a l ih =>
    intro H
    obtain⟨h1,h2⟩:=ih (hnew H a.2)
    refine⟨?_,h2⟩
    show (zbU l (hnew H a.2)).n=_
    rw[h1,zcA]
    show H.n+1+l.length=H.n+(l.length+1)
    omega
theorem zbX{b:Nat}(l:List (Nat × AB)):∀ H,H.n+l.length≤32767→b<H.n→hget (zbU l H) b=hget H b:=by
  induction l with
  | nil=>exact fun _ _ _=>rfl
  | cons a l ih =>
    intro H hn hb
    simp only[List.length_cons] at hn
    have e:(hnew H a.2).n=H.n+1:=zcA _ _
    show hget (zbU l (hnew H a.2)) b=_
    rw[ih (hnew H a.2) (by omega) (by omega),zaD (by omega) (by omega),if_neg (by omega)]
theorem zi1(l:List (Nat × AB)):∀ H i a,H.n+l.length≤32767→l[i]?=some a→hget (zbU l H) (H.n+i)=a.2:=by
  induction l with
  | nil=>intro H i a _ h;simp at h
  | cons x l ih =>
    intro H i a hn h
    simp only[List.length_cons] at hn
    have e:(hnew H x.2).n=H.n+1:=zcA _ _
    show hget (zbU l (hnew H x.2)) _=_
    cases i with
    | zero =>
      simp at h;subst h
      rw[zbX l _ (by omega) (by omega),zaD (by omega) (by omega),if_pos (by omega)]
    | succ i =>
      have:=ih (hnew H x.2) i a (by omega) (by simpa using h)
      rw[show H.n+(i+1)=(hnew H x.2).n+i by omega]
      exact this
theorem zqB{n:Nat}{l:List (Nat × AB)}(h:hasN n l=false):∀ a ∈ l,a.1 ≠ n:=by
  induction l with
  | nil=>intro a ha;cases ha
  | cons b l ih =>
    have h':bi (nbeq b.1 n) true (hasN n l)=false:=h
    intro a ha
    cases hb:nbeq b.1 n
    · rw[hb,zai] at h'
      cases ha with
      | head=>exact zam.1 hb
      | tail _ ha=>exact ih h' a ha
    · rw[hb] at h';cases h'
theorem zqC{l:List (Nat × AB)}(h:zfK l=true):∀ (i j:Nat) (a b:Nat × AB),l[i]?=some a→l[j]?=some b→a.1=b.1→i=j:=by
  induction l with
  | nil=>intro i j a b h;simp at h
  | cons x l ih =>
    have h':bi (hasN x.1 l) false (zfK l)=true:=h
    cases hx:hasN x.1 l
    · rw[hx,zai] at h'
      have hne:=zqB hx
      intro i j a b hi hj hab
      cases i with
      | zero=>cases j with
        | zero=>rfl
        | succ j =>
          simp at hi hj;subst hi
          exact absurd hab.symm (hne b (List.mem_of_getElem? hj))
      | succ i=>cases j with
        | zero =>
          simp at hi hj;subst hj
          exact absurd hab (hne a (List.mem_of_getElem? hi))
        | succ j=>rw[ih h' i j a b (by simpa using hi) (by simpa using hj) hab]
    · rw[hx] at h';cases h'
theorem HR.lock(h:HR P w0 H φ w):HR P w0 (ziU H) φ w:=⟨fun b x hb=>by
  obtain⟨h1,h2,h3⟩:=h.blk b x hb
  exact⟨h1,fun hl=>h2 (Nat.le_trans h.lim hl),h3⟩,h.inj,h.n,Nat.le_refl _,h.below,h.gl,h.op,fun x C hx=>⟨(h.fz x C hx).1,fun b hb hl=>(h.fz x C hx).2 b hb (Nat.le_trans h.lim hl)⟩,h.tl,h.fo⟩
theorem zx6{c:CRes}{m:AV × List (Nat × AB)}{v:Value}{w':World}(hr:HR P w0 H φ w)(hv:VR φ' c.v v)(hr':HR P w0 c.H φ' w')(hex:EX (ziU H) φ c.H φ')(hm:matR H c=some m)(hn:H.n+m.2.length≤32766) :
    ∃ φ'',VR φ'' m.1 v∧HR P w0 (zbU m.2 H) φ'' w'∧EX H φ (zbU m.2 H) φ'':=by
  have hm':matV c.H H.n 20 c.v []=some m∧zfK m.2=true:=by
    have h1:bi (nbeq c.ok 1) (om (matV c.H H.n 20 c.v []) none fun y=>bi (zfK y.2) (some y) none) none=some m:=hm
    cases hb:nbeq c.ok 1
    · rw[hb] at h1;cases h1
    · rw[hb,zag] at h1
      cases hmv:matV c.H H.n 20 c.v [] with
      | none=>rw[hmv] at h1;cases h1
      | some y =>
        rw[hmv,zan] at h1
        cases hnd:zfK y.2
        · rw[hnd] at h1;cases h1
        · rw[hnd] at h1;cases h1;exact⟨rfl,hnd⟩
  obtain⟨hmv,hnd⟩:=hm'
  let φ'':Ph:=⟨fun b=>if b<H.n then φ' b else (m.2[b - H.n]?).bind fun a=>φ' a.1,φ'.k,φ'.op,φ'.fz,fun b=>if b<H.n then φ'.tl b else ((m.2[b - H.n]?).map fun a=>φ'.tl a.1).getD 0⟩
  have hlow:∀ b,b<H.n→φ'' b=φ' b:=fun b hb=>by simp[φ'',hb]
  have hk:∀ x,φ''.k x=φ'.k x:=fun _=>rfl
  have hnew:∀ i a,m.2[i]?=some a→φ'' (H.n+i)=φ' a.1:=fun i a ha=>by
    have:¬ H.n+i<H.n:=by omega
    have e:H.n+i - H.n=i:=by omega
    show (if H.n+i<H.n then φ' (H.n+i) else (m.2[H.n+i - H.n]?).bind fun a=>φ' a.1)=_
    rw[if_neg this,e,ha];rfl
  obtain⟨_,hall⟩:=zx5 hr' hlow hk rfl hnew 20 _ _ _ hmv
  obtain⟨hv'',_,hgood⟩:=hall List.prefix_rfl v hv
  have hgood:∀ a ∈ m.2,zgz P c.H H.n φ' φ'' a:=fun a ha=>(hgood a ha).resolve_left (by simp)
  have hold:∀ b x,b<H.n→φ' b=some x→φ b=some x:=by
    intro b x hb hx
    cases hφ:φ b with
    | none=>exact absurd (hex.fresh b x hx hφ) (by show ¬ H.n≤b;omega)
    | some y=>rw[(hex.keep b y hφ).1] at hx;exact hx
  have hsplit:∀ b x,φ'' b=some x→(b<H.n∧φ' b=some x∧φ b=some x) ∨ (∃ i a,b=H.n+i∧m.2[i]?=some a∧φ' a.1=some x∧zgz P c.H H.n φ' φ'' a):=by
    intro b x hx
    by_cases hb:b<H.n
    · have h1:=(hlow b hb) ▸ hx
      exact .inl ⟨hb,h1,hold b x hb h1⟩
    · right
      have h1:((m.2[b - H.n]?).bind fun a=>φ' a.1)=some x:=by
        have:φ'' b=(m.2[b - H.n]?).bind fun a=>φ' a.1:=by simp[φ'',hb]
        rw[← this];exact hx
      cases ha:m.2[b - H.n]? with
      | none=>rw[ha] at h1;cases h1
      | some a=>rw[ha] at h1;exact⟨b - H.n,a,by omega,ha,h1,hgood a (List.mem_of_getElem? ha)⟩
  have hH:∀ b,b<H.n→hget c.H b=hget H b:=fun b hb=>by
    have h1:=hr.n
    exact hex.low b hb (by omega)
  have hn':H.n+m.2.length≤32767:=by omega
  have hkeep:∀ b x,φ b=some x→φ'' b=φ' b:=fun b x hb=>hlow b (hr.blk b x hb).1
  refine⟨φ'',hv'',⟨?_,?_,by rw[(zd9 _ _).1];exact hn',by rw[(zd9 _ _).1,(zd9 _ _).2];have:=hr.lim;omega,hr'.below.op rfl,fun g hg=>(hkeep g _ (hr.gl g hg)).trans (hex.keep g _ (hr.gl g hg)).1,hr'.op,?_,?_,hr'.fo⟩,⟨?_,?_,by rw[(zd9 _ _).1];omega,(zd9 _ _).2,?_,?_,?_,?_⟩⟩
  · intro b x hx
    rw[(zd9 _ _).1]
    rcases hsplit b x hx with⟨h1,h2,h3⟩ | ⟨i,a,rfl,h1,h2,h3⟩
    · obtain⟨_,g2,o,g3,g4⟩:=hr'.blk b x h2
      obtain⟨_,g2',o0,_,g5⟩:=hr.blk b x h3
      refine⟨by omega,by rw[(zd9 _ _).2];exact fun hl=>(g2' hl).mono hex.keep.op,o,g3,?_⟩
      rw[zbX _ _ hn' h1]
      rw[hH b h1] at g4
      exact BRel.swap hkeep hk rfl rfl (fun b x hb=>if_pos (hr.blk b x hb).1) g5 g4
    · obtain⟨_,g2,o,g3,g4⟩:=hr'.blk a.1 x h2
      have hi:=(List.getElem?_eq_some_iff.1 h1).1
      refine⟨by omega,fun _=>g2 (by rw[hex.lim];exact h3.1),o,g3,?_⟩
      rw[zi1 _ _ _ _ hn' h1]
      exact h3.2.2.2.2 x o g4
  · intro b b' x hb hb' k1 k2
    rcases hsplit b x hb with⟨h1,h2,h3⟩ | ⟨i,a,rfl,h1,h2,h3⟩<;>rcases hsplit b' x hb' with⟨h1',h2',h3'⟩ | ⟨j,a',rfl,h1',h2',h3'⟩
    · rw[zbX _ _ hn' h1] at k1
      rw[zbX _ _ hn' h1'] at k2
      exact hr.inj b b' x h3 h3' k1 k2
    · rw[zbX _ _ hn' h1,← hH b h1] at k1
      have:=hr'.inj b a'.1 x h2 h2' k1 h3'.2.2.2.1
      have:=h3'.1
      omega
    · rw[zbX _ _ hn' h1',← hH b' h1'] at k2
      have:=hr'.inj a.1 b' x h2 h2' h3.2.2.2.1 k2
      have:=h3.1
      omega
    · have e:=hr'.inj a.1 a'.1 x h2 h2' h3.2.2.2.1 h3'.2.2.2.1
      rw[zqC hnd i j a a' h1 h1' e]
  · intro x C hx
    refine⟨(hr'.fz x C hx).1,fun b hb hl=>?_⟩
    rw[(zd9 _ _).2] at hl
    rcases hsplit b x hb with⟨h1,h2,h3⟩ | ⟨i,a,rfl,h1,h2,h3⟩
    · rw[zbX _ _ hn' h1]
      rcases hex.fzn x C hx with e | e
      · exact (hr.fz x C e).2 b h3 hl
      · rcases e b (by omega) h3 with e | e
        · have:H.n≤b:=e
          omega
        · exact .inl e
    · rw[zi1 _ _ _ _ hn' h1]
      have h4:=(hr'.fz x C hx).2 a.1 h2 (by rw[hex.lim];exact h3.1)
      have h5:=h3.2.2.1
      have h6:=h3.2.2.2.1
      omega
  · intro b x hb hk
    rcases hsplit b x hb with⟨h1,h2,h3⟩ | ⟨i,a,rfl,h1,h2,h3⟩
    · rw[zbX _ _ hn' h1] at hk ⊢
      show _=if b<H.n then φ'.tl b else _
      rw[if_pos h1]
      exact (hr.tl b x h3 hk).trans (hex.keep.tl b x h3).symm
    · rw[zi1 _ _ _ _ hn' h1] at hk
      have h5:=h3.2.2.1
      omega
  · exact⟨fun b x hb=>⟨(hkeep b x hb).trans (hex.keep b x hb).1,(hex.keep b x hb).2⟩,hex.keep.op,hex.keep.fz,fun b x hb=>(if_pos (hr.blk b x hb).1).trans (hex.keep.tl b x hb)⟩
  · intro b x hb hnone
    rcases hsplit b x hb with⟨h1,h2,h3⟩ | ⟨i,a,rfl,_⟩
    · rw[h3] at hnone;cases hnone
    · omega
  · intro b hb _
    exact zbX _ _ hn' (by have:=hr.lim;omega)
  · intro b hb _ _
    exact zbX _ _ hn' hb
  · intro b hb _ hk
    rw[zbX _ _ hn' hb];exact hk
  · intro x C hx
    rcases hex.fzn x C hx with e | e
    · exact .inl e
    · exact .inr fun b hbb hb=>by
        have h2:=(hr.blk b x hb).1
        rcases e b hbb hb with e | e
        · have h1:H.n≤b:=e
          omega
        · exact .inr e
end Go.Eng
