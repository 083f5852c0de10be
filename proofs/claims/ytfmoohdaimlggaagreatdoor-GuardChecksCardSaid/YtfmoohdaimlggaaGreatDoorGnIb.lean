/- A part of the proof that the evaluator in GnC, and the driver in GnZ, answer as the model does; no conditions. -/
import Derived.Test.YtfmoohdaimlggaaGreatDoorGnTa
import Derived.Laws.Externs
import Derived.Lib.Bytealg
import Derived.Test.YtfmoohdaimlggaaGreatDoorGnWd
namespace Go.Eng
open Go.Lib
noncomputable def cmpS(x y:AV):Nat:=bi (zbp x y) 18446744073709551615 (bi (zbp y x) 1 0)
noncomputable def zjc:Native:=fun args H=>bi (nbeq (lenL args) 2) (bi (nbeq (nthL args 0).tag 9) (bi (nbeq (nthL args 1).tag 9) [⟨1,0,mk1 3 (cmpS (nthL args 0) (nthL args 1)),H⟩] (zaG 76)) (zaG 76)) (zaG 76)
variable {P:Program}
theorem zgs:∀ p q:List UInt8,compareBytes p q=if Op.bytesLess p q then -1 else if Op.bytesLess q p then 1 else 0
  | [],[]=>rfl
  | [],_::_=>rfl
  | _::_,[]=>rfl
  | a::p,b::q=>by
    have ih:=zgs p q
    unfold compareBytes
    simp only[Op.bytesLess]
    by_cases h1:a<b
    · simp[h1]
    · by_cases h2:b<a
      · have h3:¬ a=b:=fun e=>h1 (by rw[e] at h2 ⊢;exact h2)
        have h4:¬ b=a:=fun e=>h3 e.symm
        simp[h1,h2,h3,h4]
      · have h3:a=b:=by
          have:a.toNat=b.toNat:=by
            have g1:¬ a.toNat<b.toNat:=h1
            have g2:¬ b.toNat<a.toNat:=h2
            omega
          exact UInt8.toNat_inj.1 this
        subst h3
        simp[h1,ih]
theorem zrF{f:Nat}{fn:Func}(hf:P.funcs[f]?=some fn)(hname:(fn.name == "runtime.NumGoroutine")=false)(hb:fn.body.isNone=true)(hn:Extern.findNext fn=none)(he:Extern.find fn=some Extern.BytealgCompare.compare):zji P f zjc:=by
  intro w0 H φ w args vals ha hr hall
  unfold zjc at hall ⊢
  cases h0:nbeq (lenL args) 2
  · rw[h0] at hall;exact (zaI hall).elim
  rw[h0,zag] at hall
  rw[zag]
  have h0:=zaa.1 h0
  rw[zaz] at h0
  match args,vals,ha,h0 with
  | [a,b],_,.cons ha (.cons hb' .nil),_ =>
    simp only[show nthL [a,b] 0=a from rfl,show nthL [a,b] 1=b from rfl] at hall ⊢
    cases h1:nbeq a.tag 9
    · rw[h1] at hall;exact (zaI hall).elim
    rw[h1,zag] at hall
    rw[zag]
    cases h2:nbeq b.tag 9
    · rw[h2] at hall;exact (zaI hall).elim
    rw[zag]
    obtain⟨p,rfl,e1,e1'⟩:=ha.of_str (zaa.1 h1)
    obtain⟨q,rfl,e2,e2'⟩:=hb'.of_str (zaa.1 h2)
    refine⟨.int .i64 (compareBytes p q),w,?_,⟨_,List.mem_singleton.2 rfl,φ,?_,hr,EX.refl H φ⟩⟩
    · rw[run_callFunc_extern hf hname hb hn he]
      have:=run_compareString (P:=P) ⟨p.toArray⟩ ⟨q.toArray⟩ w
      rw[show ([Value.string ⟨p.toArray⟩,.string ⟨q.toArray⟩]:List Value).toArray=#[.string ⟨p.toArray⟩,.string ⟨q.toArray⟩] from rfl,this]
      simp only[Result.andThen]
    · have hm:kMod 3=18446744073709551616:=by decide +kernel
      have key:∀ n:Nat,n<18446744073709551616→VR φ (mk1 3 n) (.int .i64 (valI 3 n)):=fun n hn=>VR.int (φ:=φ) 3 n 0 0 [] (by decide) (by rw[hm];exact hn)
      have h1:=zhM e1 e1' e2 e2'
      have h2:=zhM e2 e2' e1 e1'
      unfold cmpS
      rw[h1,h2,zgs]
      cases Op.bytesLess p q
      · cases Op.bytesLess q p
        · exact key 0 (by decide)
        · exact key 1 (by decide)
      · exact key 18446744073709551615 (by decide)
theorem zgt(a b:AV):zbp a b=true ↔ (a.p * 256 ^ b.q<b.p * 256 ^ a.q ∨ (a.p * 256 ^ b.q=b.p * 256 ^ a.q∧a.q<b.q)):=by
  unfold zbp
  rw[zbD,zbD]
  unfold zmT
  rw[zbw,zaw,zah,zaa,zah]
  exact Iff.rfl
theorem zkl{a b:AV}(h:zbp a b=false)(h2:zbp b a=false):a.q=b.q∧a.p=b.p:=by
  rw[← Bool.not_eq_true,zgt] at h h2
  have hq:a.q=b.q:=by omega
  refine⟨hq,?_⟩
  rw[hq] at h h2
  have:a.p * 256 ^ b.q=b.p * 256 ^ b.q:=by omega
  exact Nat.eq_of_mul_eq_mul_right (Nat.pos_of_ne_zero (by simp)) this
theorem zg9{a b c:AV}(h:zbp a b=true)(h2:zbp b c=true):zbp a c=true:=by
  rw[zgt] at h h2 ⊢
  have pa:0<256 ^ a.q:=Nat.pow_pos (by decide)
  have pb:0<256 ^ b.q:=Nat.pow_pos (by decide)
  have pc:0<256 ^ c.q:=Nat.pow_pos (by decide)
  generalize 256 ^ a.q=A at *
  generalize 256 ^ b.q=B at *
  generalize 256 ^ c.q=C at *
  have e1:a.p * C * B=a.p * B * C:=by rw[Nat.mul_assoc,Nat.mul_comm C B,← Nat.mul_assoc]
  have e2:b.p * A * C=b.p * C * A:=by rw[Nat.mul_assoc,Nat.mul_comm A C,← Nat.mul_assoc]
  have e3:c.p * B * A=c.p * A * B:=by rw[Nat.mul_assoc,Nat.mul_comm B A,← Nat.mul_assoc]
  rcases h with h | ⟨h,hq⟩<;>rcases h2 with h2 | ⟨h2,hq2⟩
  · left
    have g1:=Nat.mul_lt_mul_of_pos_right h pc
    have g2:=Nat.mul_lt_mul_of_pos_right h2 pa
    exact Nat.lt_of_mul_lt_mul_right (a:=B) (by omega)
  · left
    have g1:=Nat.mul_lt_mul_of_pos_right h pc
    have g2:b.p * C * A=c.p * B * A:=by rw[h2]
    exact Nat.lt_of_mul_lt_mul_right (a:=B) (by omega)
  · left
    have g1:a.p * B * C=b.p * A * C:=by rw[h]
    have g2:=Nat.mul_lt_mul_of_pos_right h2 pa
    exact Nat.lt_of_mul_lt_mul_right (a:=B) (by omega)
  · right
    have g1:a.p * B * C=b.p * A * C:=by rw[h]
    have g2:b.p * C * A=c.p * B * A:=by rw[h2]
    exact⟨Nat.eq_of_mul_eq_mul_right pb (by omega),by omega⟩
end Go.Eng
namespace Go.Eng
open Go.RowKit
variable {P:Program} {w0:World} {H:Hp} {φ:Ph} {w:World}
noncomputable section
def zpR(H:Hp)(v:AV):Option AV:=bi (nbeq v.tag 25) (bi (isL (hget H v.q)) (some ⟨24,bi (nbeq v.p 0) 0 1,0,(hget H v.q).t,0,za4 v.r (hget H v.q).cs⟩) none) (bi (zbG v) (some v) none)
def zmB(H:Hp)(l:List AV):Option (List AV):=rnL (zpR H) l
def zis(v:AV):Bool:=nble v.tag 9
def znk(v:AV):Bool:=bi (zis v) true (bi (nbeq v.tag 16) (allL zis v.cs) false)
def natB(P:Program)(f:Nat)(V:List AV→AV):Native:=fun args H=>om (zmB H args) (zaG 310) fun vs=>bi (znk (V vs)) [⟨okN (zac P f vs (V vs)),301,V vs,H⟩] (zaG 311)
end
theorem zwq{z:Nat→Option (List Value)}{c:AV}{v:Value}(hr:HR P w0 H φ w)(hv:VR φ c v)(h25:c.tag=25)(hL:isL (hget H c.q)=true)(hz:∀ x C,φ.fz x=some C→z x=some C)
    (hc:∀ x,φ c.q=some x→∃ C t fr,w.heap[x]?=some (.cells C t fr)∧z x=some C.toList):FZ z ⟨24,bi (nbeq c.p 0) 0 1,0,(hget H c.q).t,0,za4 c.r (hget H c.q).cs⟩ v:=by
  rw[zbv]
  by_cases hr0:c.r=0
  · rw[hr0,List.take_zero]
    cases hv<;>simp only at h25 hr0<;>first | exact .nils 0 _ 0 | exact .empty 0 _ _ _ | (subst hr0;exact .empty 0 _ _ _) | (exact absurd h25 (by omega))
  · have hp:c.p=1:=by
      cases hv<;>first | rfl | exact absurd rfl hr0 | (simp only at h25;omega)
    obtain⟨x,hx,g1,g2,rfl⟩:=zeP hv h25 (by omega)
    obtain⟨l,rest,ty,fr,ho,k1,k2,k3,k4,k5,k6,k7⟩:=hr.list hx hL
    obtain⟨C,t',fr',ho',hzx⟩:=hc x hx
    rw[ho] at ho'
    cases ho'
    have htl:((hget H c.q).cs.take c.r).length=c.r:=by rw[List.length_take];omega
    have hfz2:FZs z (zba ((hget H c.q).cs.take c.r)) (l.take (c.r * (hget H c.q).t)):=by
      have:=(k1.mono hz).take (c.r * (hget H c.q).t)
      rwa [zc1 k2] at this
    have hll:l.length=(hget H c.q).cs.length * (hget H c.q).t:=by rw[← k1.length,zbP k2]
    have hle:c.r * (hget H c.q).t≤(hget H c.q).cs.length * (hget H c.q).t:=Nat.mul_le_mul_right _ (by omega)
    rw[hp]
    have:=FZ.sl (z:=z) 0 (hget H c.q).t 0 ((hget H c.q).cs.take c.r) x 0 (φ.k x) (l++rest).toArray.toList (l.take (c.r * (hget H c.q).t)) hzx hfz2 (fun a ha=>k2 a (List.mem_of_mem_take ha)) (by omega) (fun h=>by cases h) (by omega)
      (by
        rw[List.drop_zero,List.length_take,show min (c.r * (hget H c.q).t) l.length=c.r * (hget H c.q).t by omega]
        exact List.take_append_of_le_length (by omega)) (by omega)
    rw[htl] at this
    exact this
theorem ztP{z:Nat→Option (List Value)}(hr:HR P w0 H φ w)(hz:∀ x C,φ.fz x=some C→z x=some C)
    (hc:∀ b x,isL (hget H b)=true→φ b=some x→∃ C t fr,w.heap[x]?=some (.cells C t fr)∧z x=some C.toList):∀ {l as:List AV} {vals:List Value},zmB H l=some as→VRs φ l vals→FVs z as vals:=by
  intro l
  induction l with
  | nil =>
    intro as vals h hv
    have h':some ([]:List AV)=some as:=h
    cases h';cases hv
    exact fun _ _=>.nil
  | cons v l ih =>
    intro as vals h hv
    have h':om (zpR H v) none (fun x=>om (zmB H l) none fun y=>some (x::y))=some as:=h
    obtain⟨a,h1,h'⟩:=za1 h'
    obtain⟨as',h2,h'⟩:=za1 h'
    cases h'
    cases hv with
    | cons g1 g2 =>
      have ih2:=ih h2 g2
      refine fun ψ e=>.cons ?_ (ih2 ψ e)
      unfold zpR at h1
      cases h25:nbeq v.tag 25
      · rw[h25,zai] at h1
        obtain⟨hcl,h1⟩:=zas h1
        cases h1
        exact zgD (fun x C hx=>by rw[e];exact hz x C hx) hcl g1
      · rw[h25,zag] at h1
        obtain⟨hL,h1⟩:=zas h1
        cases h1
        have:=zwq hr g1 (zaa.1 h25) hL hz (fun x hx=>hc v.q x hL hx)
        exact FZ.vr (φ:=ψ) (by rw[e];exact this)
theorem ztQ{z:Nat→Option (List Value)}{v:AV}{val:Value}(h:znk v=true)(hv:FV z v val):VR φ v val:=by
  rcases zbw.1 h with h | h
  · have h1:=hv ⟨φ.f,φ.k,φ.op,z,φ.tl⟩ rfl
    have h9:v.tag≤9:=zah.1 h
    cases h1 with
    | int c p r s cs e1 e2=>exact .int c p r s cs e1 e2
    | bool b r s cs=>exact .bool b r s cs
    | str l r s cs=>exact .str l r s cs
    | _=>simp only at h9;omega
  · obtain⟨h16,hall⟩:=zaw.1 h
    obtain⟨l,rfl,hl⟩:=(hv ⟨φ.f,φ.k,φ.op,z,φ.tl⟩ rfl).of_tup (zaa.1 h16)
    have key:∀ {cs:List AV} {l:List Value},allL zis cs=true→VRs ⟨φ.f,φ.k,φ.op,z,φ.tl⟩ cs l→VRs φ cs l:=by
      intro cs
      induction cs with
      | nil=>intro l _ h;cases h;exact .nil
      | cons c cs ih =>
        intro l ha h
        obtain⟨h1,h2⟩:=zaw.1 (show bi (zis c) (allL zis cs) false=true from ha)
        cases h with
        | cons g1 g2 =>
          refine .cons ?_ (ih h2 g2)
          have h9:c.tag≤9:=zah.1 h1
          cases g1 with
          | int c p r s cs e1 e2=>exact .int c p r s cs e1 e2
          | bool b r s cs=>exact .bool b r s cs
          | str l r s cs=>exact .str l r s cs
          | _=>simp only at h9;omega
    have e:v=⟨16,v.p,v.q,v.r,v.s,v.cs⟩:=by
      have:=zaa.1 h16
      cases v;simp only at this;subst this;rfl
    rw[e]
    exact .tup _ _ _ _ _ l (key hall hl)
theorem zwr(f:Nat)(V:List AV→AV):zdZ P f (natB P f V):=by
  intro w0 H φ w args vals hargs hr hall
  unfold natB at hall ⊢
  cases hf:zmB H args with
  | none=>rw[hf] at hall;exact (zaI hall).elim
  | some vs =>
    rw[hf,zan] at hall
    rw[zan]
    cases hpl:znk (V vs)
    · rw[hpl] at hall;exact (zaI hall).elim
    rw[hpl,zag] at hall
    rw[zag]
    have hp:zac P f vs (V vs):=zak.1 (hall _ (List.mem_singleton.2 rfl))
    have hlt:∀ b x,φ b=some x→x<w.heap.size:=by
      intro b x hb
      obtain⟨_,_,o,h3,_⟩:=hr.blk b x hb
      exact (Array.getElem?_eq_some_iff.1 h3).1
    have hG:P.globals.size≤w.heap.size:=by
      rcases Nat.eq_zero_or_pos P.globals.size with h0 | h0
      · omega
      · have:=hlt _ _ (hr.gl (P.globals.size - 1) (by omega));omega
    let z:Nat→Option (List Value):=fun x=>match φ.fz x with
      | some C=>some C
      | none=>(match w.heap[x]? with | some (.cells C _ _)=>some C.toList | _=>none)
    have hzf:∀ x C,φ.fz x=some C→z x=some C:=fun x C h=>by simp only[z,h]
    have hz:zd4 z w:=fun x C h=>by
      simp only[z] at h
      cases hfx:φ.fz x with
      | some C1 =>
        rw[hfx] at h
        have h:some C1=some C:=h
        cases h
        exact (hr.fz x _ hfx).1
      | none =>
        rw[hfx] at h
        simp only at h
        split at h
        · rename_i C' t fr ho;cases h;exact⟨t,fr,by rw[ho]⟩
        · cases h
    have hc:∀ b x,isL (hget H b)=true→φ b=some x→∃ C t fr,w.heap[x]?=some (.cells C t fr)∧z x=some C.toList:=fun b x hL hb=>by
      obtain⟨l,rest,ty,fr,ho,_⟩:=hr.list hb hL
      refine⟨_,ty,fr,ho,?_⟩
      simp only[z]
      cases hfx:φ.fz x with
      | none=>simp only[ho]
      | some C' =>
        obtain⟨t',fr',ho'⟩:=(hr.fz x C' hfx).1
        rw[ho] at ho'
        cases ho'
        simp
    refine Calls.mono (hp z w vals hz hG (ztP hr hzf hc hf hargs)) fun e w' he=>?_
    cases e with
    | returned v =>
      obtain⟨z',z1,z2,z3,z4,z5⟩:=he
      refine⟨_,List.mem_singleton.2 rfl,φ,ztQ hpl z4,⟨?_,hr.inj,hr.n,hr.lim,hr.below.trans (z5.mono hr.below.size),hr.gl,hr.op,?_,hr.tl,hr.fo⟩,EX.refl _ _⟩
      · intro b y hb
        obtain⟨h1,h2,o,h3,h4⟩:=hr.blk b y hb
        exact⟨h1,h2,o,by rw[z5.block y (hlt b y hb)];exact h3,h4⟩
      · intro x C hx
        refine⟨?_,(hr.fz x C hx).2⟩
        obtain⟨t,fr,ho⟩:=(hr.fz x C hx).1
        have:x<w.heap.size:=(Array.getElem?_eq_some_iff.1 ho).1
        exact⟨t,fr,by rw[z5.block x this];exact ho⟩
    | panicked ch=>exact he.elim
    | outgrown=>exact he.elim
end Go.Eng
