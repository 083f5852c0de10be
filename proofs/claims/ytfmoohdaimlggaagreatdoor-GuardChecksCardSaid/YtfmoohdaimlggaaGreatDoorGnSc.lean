/- A part of the proof that the evaluator in GnC, and the driver in GnZ, answer as the model does; no conditions. -/
import Derived.Test.YtfmoohdaimlggaaGreatDoorGnYa
import Derived.Laws.StructEq
import Derived.Great.BuildSlice
import Derived.Laws.MakeOwn
import Derived.Laws.Strings3
namespace Go.Eng
open Go.RowKit
variable {P:Program} {w0:World} {H:Hp} {φ:Ph} {c:Kont} {w:World}
theorem zg3{t:TypeId}{d:TypeDesc}{cs:List Value}{off:Nat}{v:Value}(ht:(tyB P t).run=some d)(hg:zaC P t=false)(hv:cs[off]?=some v):(part t cs.toArray off).run P w=.ok v w:=by
  simp only[part,Sem.run_bind,zdP ht,hg,Result.andThen_ok]
  simp[hv]
theorem ziB{t:TypeId}{d:TypeDesc}{cs:List Value}{off sz:Nat}(ht:(tyB P t).run=some d)(hs:(szB P t).run=some sz)(hg:zaC P t=true):(part t cs.toArray off).run P w=.ok (.agg ((cs.drop off).take sz).toArray) w:=by
  simp only[part,Sem.run_bind,zdP ht,hg,Result.andThen_ok,if_true,zaS hs,Sem.run_pure']
  congr 2
  apply Array.ext'
  simp[List.extract_eq_take_drop]
def EqG(P:Program)(d:Nat)(φ:Ph)(w:World)(t:TypeId)(g:Box (List AV→List AV→Option Bool)):Prop :=
  ∀ (A B:List AV) (xs ys:List Value) (b:Bool),VRs φ A xs→VRs φ B ys→g.run A B=some b→(Op.equalIn d t (.agg xs.toArray) (.agg ys.toArray)).run P w=.ok b w
theorem za1{α β:Type}{o:Option α}{f:α→Option β}{b:β}(h:om o none f=some b):∃ a,o=some a∧f a=some b:=by
  cases o with
  | none=>cases h
  | some a=>exact⟨a,rfl,h⟩
theorem zas{β:Type}{x:Bool}{f:Option β}{b:β}(h:bi x f none=some b):x=true∧f=some b:=by
  cases x
  · cases h
  · exact⟨rfl,h⟩
theorem zlZ{β:Type}{x:Bool}{f:Option β}{b:β}(h:bi x none f=some b):x=false∧f=some b:=by
  cases x
  · exact⟨rfl,h⟩
  · cases h
theorem zoZ{A:List AV}{off tag:Nat}(h:(nthL A off).tag=tag)(ht:tag ≠ 18):∃ a,A[off]?=some a∧nthL A off=a:=by
  rw[zcG] at h ⊢
  cases ha:A[off]? with
  | none=>rw[ha] at h;exact absurd h.symm ht
  | some a=>exact⟨a,rfl,rfl⟩
theorem ziC{tag off d:Nat}{t:TypeId}{td:TypeDesc}(ht:(tyB P t).run=some td)(hk:(∃ k,td=.int k∧tag=zap k) ∨ (td=.bool∧tag=8) ∨ (td=.string∧tag=9)){A B:List AV}{xs ys:List Value}{b:Bool}(hA:VRs φ A xs)(hB:VRs φ B ys)
    (h:(zjH tag off).run A B=some b):∃ x y,(part t xs.toArray off).run P w=.ok x w∧(part t ys.toArray off).run P w=.ok y w∧(Op.equalIn (d+1) t x y).run P w=.ok b w:=by
  obtain⟨h1,h⟩:=zas h
  obtain⟨h2,h⟩:=zas h
  have h18:tag ≠ 18:=by
    rcases hk with⟨k,_,rfl⟩ | ⟨_,rfl⟩ | ⟨_,rfl⟩
    · have:=zaT k;omega
    · omega
    · omega
  obtain⟨a,ha,ea⟩:=zoZ (zaa.1 h1) h18
  obtain⟨a',ha',ea'⟩:=zoZ (zaa.1 h2) h18
  rw[ea] at h1 h;rw[ea'] at h2 h
  obtain⟨x,hx,rx⟩:=hA.get ha
  obtain⟨y,hy,ry⟩:=hB.get ha'
  have hg:zaC P t=false:=by
    unfold zaC;rw[ht]
    rcases hk with⟨k,rfl,_⟩ | ⟨rfl,_⟩ | ⟨rfl,_⟩<;>rfl
  refine⟨x,y,zg3 ht hg hx,zg3 ht hg hy,?_⟩
  have hb:=Option.some.inj h
  subst hb
  rcases hk with⟨k,rfl,rfl⟩ | ⟨rfl,rfl⟩ | ⟨rfl,rfl⟩
  · obtain⟨rfl,l1,q1⟩:=rx.of_int (zaT k) (zaa.1 h1)
    obtain⟨rfl,l2,q2⟩:=ry.of_int (zaT k) (zaa.1 h2)
    rw[q1,q2]
    simp only[Op.equalIn,Sem.run_bind,zav ht,Result.andThen_ok,if_true]
    have:(valI (zap k) a.p == valI (zap k) a'.p)=nbeq a.p a'.p:=by
      rw[Bool.eq_iff_iff,beq_iff_eq,zaa];exact zhj (zaT k) l1 l2
    rw[this];rfl
  · obtain⟨p,rfl,e1,q1⟩:=rx.of_bool (zaa.1 h1)
    obtain⟨q,rfl,e2,q2⟩:=ry.of_bool (zaa.1 h2)
    rw[q1,q2,e1,e2,zi8 ht]
    cases p<;>cases q<;>rfl
  · obtain⟨p,rfl,e1,q1⟩:=rx.of_str (zaa.1 h1)
    obtain⟨q,rfl,e2,q2⟩:=ry.of_str (zaa.1 h2)
    rw[q1,q2,e1,e2,zj9]
    simp only[Op.equalIn,Sem.run_bind,zav ht,Result.andThen_ok]
    have:((⟨p.toArray⟩:ByteArray) == ⟨q.toArray⟩)=decide (p=q):=by
      show (p.toArray == q.toArray)=_
      rw[Bool.eq_iff_iff,beq_iff_eq,decide_eq_true_eq];simp
    rw[this];rfl
theorem zxS{d:Nat}{ih:TypeId→Option (Box (List AV→List AV→Option Bool))}(hih:∀ t g,ih t=some g→EqG P (d+1) φ w t g):∀ (l:List Field) (g:Box (List AV→List AV→Option Bool)),eqFs P ih l=some g →
    ∀ (A B:List AV) (xs ys:List Value) (b:Bool),VRs φ A xs→VRs φ B ys→g.run A B=some b→(Op.eqFields (d+1) xs.toArray ys.toArray l).run P w=.ok b w:=by
  intro l
  induction l with
  | nil=>intro g h A B xs ys b _ _ hb;cases h;cases hb;rfl
  | cons f l ihl =>
    intro g h A B xs ys b hA hB hb
    obtain⟨hn,h⟩:=zlZ h
    obtain⟨sz,hs,h⟩:=za1 h
    obtain⟨td,ht,h⟩:=za1 h
    obtain⟨g1,hg1,h⟩:=za1 h
    obtain⟨g2,hg2,h⟩:=za1 h
    cases h
    obtain⟨b1,hb1,hb⟩:=za1 hb
    obtain⟨b2,hb2,hb⟩:=za1 hb
    have hb:=Option.some.inj hb
    have hn':f.name ≠ "_":=by simpa using hn
    have key:∃ x y,(part f.type xs.toArray f.offset).run P w=.ok x w∧(part f.type ys.toArray f.offset).run P w=.ok y w∧(Op.equalIn (d+1) f.type x y).run P w=.ok b1 w:=by
      cases td<;>simp only[zo2,reduceCtorEq] at hg1
      case int k=>cases hg1;exact ziC ht (.inl ⟨k,rfl,rfl⟩) hA hB hb1
      case bool=>cases hg1;exact ziC ht (.inr (.inl ⟨rfl,rfl⟩)) hA hB hb1
      case string=>cases hg1;exact ziC ht (.inr (.inr ⟨rfl,rfl⟩)) hA hB hb1
      case struct fs =>
        obtain⟨g,hg,h⟩:=za1 hg1
        cases h
        obtain⟨x',hx',hb1⟩:=za1 hb1
        obtain⟨y',hy',hb1⟩:=za1 hb1
        rw[zbB] at hx' hy'
        obtain⟨_,rfl⟩:=zbL hx'
        obtain⟨_,rfl⟩:=zbL hy'
        have hga:zaC P f.type=true:=by unfold zaC;rw[ht]
        exact⟨_,_,ziB ht hs hga,ziB ht hs hga,hih _ _ hg _ _ _ _ _ ((hA.drop _).take _) ((hB.drop _).take _) hb1⟩
    obtain⟨x,y,h1,h2,h3⟩:=key
    rw[Op.eqFields]
    simp only[if_pos hn',Sem.run_bind,h1,h2,h3,Result.andThen_ok]
    cases b1
    · have hb:false=b:=hb
      subst hb;simp
    · have hb:b2=b:=hb
      subst hb
      simpa using ihl g2 hg2 A B xs ys _ hA hB hb2
theorem zxT(fuel:Nat):∀ (d:Nat) (t:TypeId) (g:Box (List AV→List AV→Option Bool)),fuel≤d→eqTB P fuel t=some g→EqG P (d+1) φ w t g:=by
  induction fuel with
  | zero=>intro d t g _ h;cases h
  | succ fuel ih =>
    intro d t g hd h A B xs ys b hA hB hb
    change (match (tyB P t).run with | some (.struct fs)=>bi (P.stoodInHeld t) none (eqFs P (eqTB P fuel) fs.toList) | _=>none)=some g at h
    cases ht:(tyB P t).run with
    | none=>rw[ht] at h;cases h
    | some td =>
      rw[ht] at h
      cases td<;>simp only[reduceCtorEq] at h
      case struct fs =>
        obtain⟨hp,h⟩:=zlZ h
        have hf:P.fieldsOf t=fs:=by simp[Program.fieldsOf,show P.underlying t=_ from ht]
        obtain⟨d,rfl⟩:∃ d',d=d'+1:=⟨d - 1,by omega⟩
        rw[run_equalIn_struct (P:=P) w (d+1) t _ _ (by rw[hf];exact ht) hp,hf]
        exact zxS (fun t g hg=>ih d t g (by omega) hg) _ _ h A B xs ys b hA hB hb
theorem zma{want:Bool}{g:Box (List AV→List AV→Option Bool)}{t:TypeId}{x y:Operand}{a b:AV}{va vb:Value}(hm:P.eqGuardType P.depth t=false)(hg:eqTB P 20 t=some g)(ha:VR φ a va)(hb:VR φ b vb)(hr:HR P w0 H φ w)(hok:AllOk ((zgH want g).run a b H c)) :
    Out P w0 (BinY P (bi want .eql .neq) t x y va vb w) H φ ((zgH want g).run a b H c) c:=by
  refine Out.bi hok fun h1 hok=>Out.bi hok fun h2 hok=>Out.om hok fun e he _=>?_
  obtain⟨xs,rfl,hA,_⟩:=ha.of_agg (zaa.1 h1)
  obtain⟨ys,rfl,hB,_⟩:=hb.of_agg (zaa.1 h2)
  rw[zdQ]
  refine Out.same hr (zb7 _) ?_
  have:=zxT (P:=P) (φ:=φ) (w:=w) 20 9999 t g (by omega) hg _ _ _ _ _ hA hB he
  simp only[BinY,Sem.run_bind,run_eqGuard_agg w _ t x y _ _ hm,Result.andThen_ok]
  exact zkA want this (by rintro op (rfl | rfl)<;>rfl)
section two
variable {op:BinOp} {t ty:TypeId} {x y:Operand} {a b:AV} {va vb:Value}
theorem bad2(hok:AllOk (badB2.run a b H c)):False:=zaY hok
theorem zsO(ha:VR φ a va)(hb:VR φ b vb)(hr:HR P w0 H φ w)(hok:AllOk ((zgJ op).run a b H c)):Out P w0 (BinY P op t x y va vb w) H φ ((zgJ op).run a b H c) c:=by
  cases op<;>simp only[zgJ] at hok ⊢
  case eql=>exact zlV (want:=true) ha hb hr hok
  case neq=>exact zlV (want:=false) ha hb hr hok
  case lss=>exact zf0 (.inl ⟨rfl,rfl⟩) ha hb hr hok
  case gtr=>exact zf0 (.inr (.inl ⟨rfl,rfl⟩)) ha hb hr hok
  case leq=>exact zf0 (.inr (.inr (.inl ⟨rfl,rfl⟩))) ha hb hr hok
  case geq=>exact zf0 (.inr (.inr (.inr ⟨rfl,rfl⟩))) ha hb hr hok
  case add=>exact zxK ha hb hr hok
  all_goals exact (bad2 hok).elim
theorem zg4{n m:Nat}{d:TypeDesc}(hd:zoT n m d)(ht:(tyB P t).run=some d)(ha:VR φ a va)(hb:VR φ b vb)(hr:HR P w0 H φ w)(hok:AllOk ((zet op n m).run a b H c)):Out P w0 (BinY P op t x y va vb w) H φ ((zet op n m).run a b H c) c:=by
  cases op<;>simp only[zet] at hok ⊢
  case eql=>exact zlU (want:=true) hd ht ha hb hr hok
  case neq=>exact zlU (want:=false) hd ht ha hb hr hok
  all_goals exact (bad2 hok).elim
theorem zqI(ht:(tyB P t).run=some .bool)(ha:VR φ a va)(hb:VR φ b vb)(hr:HR P w0 H φ w)(hok:AllOk ((zf7 op).run a b H c)):Out P w0 (BinY P op t x y va vb w) H φ ((zf7 op).run a b H c) c:=by
  cases op<;>simp only[zf7] at hok ⊢
  case eql=>exact zkB (want:=true) ht ha hb hr hok
  case neq=>exact zkB (want:=false) ht ha hb hr hok
  all_goals exact (bad2 hok).elim
theorem zsP(ha:VR φ a va)(hb:VR φ b vb)(hr:HR P w0 H φ w)(hok:AllOk ((zgK P op t).run a b H c)):Out P w0 (BinY P op t x y va vb w) H φ ((zgK P op t).run a b H c) c:=by
  unfold zgK at hok ⊢
  cases hm:P.eqGuardType P.depth t
  · rw[hm,zai] at hok
    rw[zai]
    cases hg:eqTB P 20 t with
    | none=>rw[hg] at hok;exact (bad2 hok).elim
    | some g =>
      rw[hg,zan] at hok
      rw[zan]
      cases op<;>simp only at hok ⊢
      case eql=>exact zma (want:=true) hm hg ha hb hr hok
      case neq=>exact zma (want:=false) hm hg ha hb hr hok
      all_goals exact (bad2 hok).elim
  · rw[hm] at hok;exact (bad2 hok).elim
theorem VR.of_neg{φ:Ph}{a:AV}{v:Value}(h:VR φ a v)(ht:a.tag=21):∃ n:Int,v=.int .i64 n∧n<0:=by
  cases h<;>simp only at ht<;>first | exact⟨_,rfl,by assumption⟩ | omega
theorem VR.of_pos{φ:Ph}{a:AV}{v:Value}(h:VR φ a v)(ht:a.tag=22):∃ n:Int,v=.int .i64 n∧0≤n:=by
  cases h<;>simp only at ht<;>first | exact⟨_,rfl,by assumption⟩ | omega
theorem zjk{b:AV}{vb:Value}(hb:VR φ b vb)(h:bi (nbeq b.tag 3) (nbeq b.p 0) false=true):vb=.int .i64 0:=by
  cases h3:nbeq b.tag 3
  · rw[h3] at h;cases h
  · rw[h3,zag] at h
    obtain⟨rfl,_,_⟩:=hb.of_int (c:=3) (by omega) (zaa.1 h3)
    rw[zaa.1 h]
    have:valI 3 0=0:=by decide +kernel
    rw[this];rfl
theorem zu2{f:Box (AV→AV→Hp→Kont→RL)}(hf:intC op 3=some f)(ha:VR φ a va)(hb:VR φ b vb)(hr:HR P w0 H φ w)(hok:AllOk ((ziP op f).run a b H c)):Out P w0 (BinY P op t x y va vb w) H φ ((ziP op f).run a b H c) c:=by
  have plain:AllOk (f.run a b H c)→Out P w0 (BinY P op t x y va vb w) H φ (f.run a b H c) c:=fun hok=>znA (by omega) hf ha hb hr hok
  cases op<;>simp only[ziP] at hok ⊢
  case lss =>
    refine Out.bi2 hok (fun _ hok=>plain hok) fun _ hok=>Out.bi hok fun h0 hok=>Out.bi2 hok (fun h _=>?_) fun _ hok=>Out.bi hok fun h _=>?_
    · have:=zjk hb h0;subst this
      obtain⟨n,rfl,hn⟩:=ha.of_neg (zaa.1 h)
      exact Out.same hr (zb7 true) (zdm (by simp[binOp,Op.intCmp,hn]))
    · have:=zjk hb h0;subst this
      obtain⟨n,rfl,hn⟩:=ha.of_pos (zaa.1 h)
      exact Out.same hr (zb7 false) (zdm (by simp[binOp,Op.intCmp];omega))
  case geq =>
    refine Out.bi2 hok (fun _ hok=>plain hok) fun _ hok=>Out.bi hok fun h0 hok=>Out.bi2 hok (fun h _=>?_) fun _ hok=>Out.bi hok fun h _=>?_
    · have:=zjk hb h0;subst this
      obtain⟨n,rfl,hn⟩:=ha.of_neg (zaa.1 h)
      exact Out.same hr (zb7 false) (zdm (by simp[binOp,Op.intCmp];omega))
    · have:=zjk hb h0;subst this
      obtain⟨n,rfl,hn⟩:=ha.of_pos (zaa.1 h)
      exact Out.same hr (zb7 true) (zdm (by simp[binOp,Op.intCmp,hn]))
  case gtr =>
    refine Out.bi2 hok (fun _ hok=>plain hok) fun _ hok=>Out.bi hok fun h hok=>Out.bi hok fun h3 _=>?_
    obtain⟨n,rfl,hn⟩:=ha.of_pos (zaa.1 h)
    obtain⟨rfl,_,_⟩:=hb.of_int (c:=3) (by omega) (zaa.1 h3)
    refine Out.same hr (.opq 1 0 0 0 [] (.bool (decide (n > valI 3 b.p))) ⟨fun _=>⟨_,rfl⟩,fun h=>by omega,fun h=>by omega,fun h=>by omega⟩ rfl rfl) (zdm (by simp[binOp,Op.intCmp];rfl))
  all_goals exact plain hok
theorem zsQ{k:IntKind}(ha:VR φ a va)(hb:VR φ b vb)(hr:HR P w0 H φ w)(hok:AllOk ((zgL op k).run a b H c)):Out P w0 (BinY P op t x y va vb w) H φ ((zgL op k).run a b H c) c:=by
  unfold zgL at hok ⊢
  cases hf:intC op (zap k) with
  | none=>rw[hf] at hok;exact (bad2 hok).elim
  | some f =>
    rw[hf,zan] at hok
    rw[zan]
    cases h3:nbeq (zap k) 3
    · rw[h3,zai] at hok
      exact znA (zaT k) hf ha hb hr hok
    · rw[h3,zag] at hok
      rw[zaa.1 h3] at hf
      exact zu2 hf ha hb hr hok
theorem zsR(ha:VR φ a va)(hb:VR φ b vb)(hr:HR P w0 H φ w)(hok:AllOk ((zgM P op t).run a b H c)):Out P w0 (BinY P op t x y va vb w) H φ ((zgM P op t).run a b H c) c:=by
  unfold zgM at hok ⊢
  cases ht:(tyB P t).run with
  | none=>rw[ht] at hok;exact (bad2 hok).elim
  | some d =>
    rw[ht] at hok
    cases d<;>simp only at hok ⊢
    case int k=>exact zsQ ha hb hr hok
    case string=>exact zsO ha hb hr hok
    case bool=>exact zqI ht ha hb hr hok
    case pointer e=>exact zg4 (.inl ⟨rfl,rfl,e,rfl⟩) ht ha hb hr hok
    case slice e =>
      refine Out.bi2 hok (fun _ hok=>zg4 (.inr (.inl ⟨rfl,rfl,e,rfl⟩)) ht ha hb hr hok) fun _ hok=>?_
      cases op
      case eql=>exact zkR (want:=true) ht ha hb hr hok
      case neq=>exact zkR (want:=false) ht ha hb hr hok
      all_goals exact (bad2 hok).elim
    case map k e=>exact zg4 (.inr (.inr (.inl ⟨rfl,rfl,k,e,rfl⟩))) ht ha hb hr hok
    case func p r v=>exact zg4 (.inr (.inr (.inr ⟨rfl,rfl,p,r,v,rfl⟩))) ht ha hb hr hok
    case struct fs=>exact zsP ha hb hr hok
    all_goals exact (bad2 hok).elim
theorem znF{left:Bool}(ha:VR φ a va)(hb:VR φ b vb)(hr:HR P w0 H φ w)(hok:AllOk ((zh0 P left t ty).run a b H c)):Out P w0 (BinY P (bi left .shl .shr) t x y va vb w) H φ ((zh0 P left t ty).run a b H c) c:=by
  unfold zh0 at hok ⊢
  split at hok
  · rename_i k d h1 h2
    exact z07 (zaT k) (zaT d) ha hb hr hok
  · exact (bad2 hok).elim
theorem zxU(ha:VR φ a va)(hb:VR φ b vb)(hr:HR P w0 H φ w)(hok:AllOk ((binC P op t ty).run a b H c)) :
    Out P w0 (BinY P op t x y va vb w) H φ ((binC P op t ty).run a b H c) c:=by
  cases op<;>simp only[binC] at hok ⊢
  case shl=>exact znF (left:=true) ha hb hr hok
  case shr=>exact znF (left:=false) ha hb hr hok
  all_goals exact zsR ha hb hr hok
end two
theorem zsS{k p:Nat}(hk:k<8)(hp:p<kMod k):(kOf k).wrap ((BitVec.ofInt (kOf k).bits (if (kOf k).signed then -1 else (kOf k).max) ^^^ BitVec.ofInt (kOf k).bits (valI k p)).toNat:Int)=valI k (Nat.sub (Nat.pred (kMod k)) p)∧Nat.sub (Nat.pred (kMod k)) p<kMod k:=by
  have e4:∀ x y,Nat.sub x y=x - y:=fun _ _=>rfl
  have e5:∀ x,Nat.pred x=x - 1:=fun _=>rfl
  rw[e5,e4]
  have hpos:=@zcx k
  have hall:(BitVec.ofInt (kOf k).bits (if (kOf k).signed then -1 else (kOf k).max))=BitVec.allOnes (kOf k).bits:=by
    refine kinds (p:=fun k=>(BitVec.ofInt (kOf k).bits (if (kOf k).signed then -1 else (kOf k).max))=BitVec.allOnes (kOf k).bits) ?_ ?_ ?_ ?_ ?_ ?_ ?_ ?_ hk<;>decide +kernel
  have hx:(BitVec.allOnes (kOf k).bits ^^^ BitVec.ofInt (kOf k).bits (valI k p)).toNat=kMod k - 1 - p:=by
    rw[BitVec.allOnes_xor,BitVec.toNat_not,ze3 hk hp,zfT hk];rfl
  rw[hall,hx]
  exact⟨zfU hk _ (by omega),by omega⟩
theorem z0D{op:UnOp}{t:TypeId}{a:AV}{va:Value}(ha:VR φ a va)(hr:HR P w0 H φ w)(hok:AllOk ((unC P op t).run a H c)) :
    Out P w0 (fun v w'=>(Op.unary op va).run P w=.ok v w') H φ ((unC P op t).run a H c) c:=by
  unfold unC at hok ⊢
  split at hok
  · refine Out.bi hok fun h1 _=>?_
    obtain⟨b,rfl,e,_⟩:=ha.of_bool (zaa.1 h1)
    rw[e]
    have:mk1 8 (Nat.sub 1 (bi b 1 0))=bV (!b):=by cases b<;>rfl
    rw[this]
    exact Out.same hr (zb7 _) rfl
  · rename_i k h2
    refine Out.bi hok fun h1 _=>?_
    obtain⟨rfl,l1,_⟩:=ha.of_int (zaT k) (zaa.1 h1)
    refine Out.same hr (zck (zaT k) (by unfold negN;rw[zbI];exact Nat.mod_lt _ zcx)) ?_
    have h0:(kOf (zap k)).wrap (0 - valI (zap k) a.p)=valI (zap k) (negN (zap k) a.p):=by
      refine zcB (zaT k) _ ?_
      have e:((Nat.sub (kMod (zap k)) a.p:Nat):Int)=-(a.p:Int)+kMod (zap k):=by show ((kMod (zap k) - a.p:Nat):Int)=_;omega
      have e2:((negN (zap k) a.p:Nat):Int)=((Nat.sub (kMod (zap k)) a.p:Nat):Int) % (kMod (zap k):Int):=by unfold negN;rw[zbI];exact_mod_cast rfl
      rw[e2,e,Int.add_emod_right,Int.sub_emod,zcs l1]
      simp
    simp only[Op.unary,Op.intArith,h0];rfl
  · rename_i k h2
    refine Out.bi hok fun h1 _=>?_
    obtain⟨rfl,l1,_⟩:=ha.of_int (zaT k) (zaa.1 h1)
    obtain⟨g1,g2⟩:=zsS (zaT k) l1
    refine Out.same hr (zck (zaT k) g2) ?_
    simp only[Op.unary,Op.intBits]
    rw[← g1];rfl
  · exact (zaY hok).elim
end Go.Eng
namespace Go.Eng
open Go.RowKit
variable {P:Program} {w0:World} {H:Hp} {φ:Ph} {c:Kont} {w:World}
theorem zxV{j k p:Nat}(hj:j<8)(hk:k<8)(hp:p<kMod j):(kOf k).wrap (valI j p)=valI k (cnvN j k p)∧cnvN j k p<kMod k:=by
  have e1:∀ x y,Nat.mod x y=x % y:=fun _ _=>rfl
  have e2:∀ x y,Nat.sub x y=x - y:=fun _ _=>rfl
  have e3:∀ x y,Nat.mul x y=x * y:=fun _ _=>rfl
  have e4:∀ x y,Nat.add x y=x+y:=fun _ _=>rfl
  unfold cnvN
  rw[zbI]
  cases h:zbb j p
  · rw[zai,e1,zea h]
    exact⟨zcB hk _ (by simp),Nat.mod_lt _ zcx⟩
  · rw[zag,e1,e2,e3,e4,zeN (zfy.1 h)]
    refine⟨zcB hk _ ?_,Nat.mod_lt _ zcx⟩
    have hle:kMod j≤kMod k * kMod j:=Nat.le_mul_of_pos_left _ zcx
    rw[Int.natCast_emod]
    have:((p+(kMod k * kMod j - kMod j):Nat):Int)=((p:Int) - kMod j)+(kMod k:Int) * (kMod j:Int):=by
      rw[← Int.natCast_mul];omega
    rw[this,Int.add_mul_emod_self_left]
theorem z0E{e:TypeId}(h:isU8 P e=true):(tyB P e).run=some (.int .u8):=by
  unfold isU8 at h
  split at h
  · assumption
  · cases h
theorem zqJ{l:List AV}{vs:List Value}(hl:VRs φ l vs){n m:Nat}
    (h:(List.rec (motive:=fun _=>Nat→Option Nat) (fun n=>some n) (fun v _ ih n=>bi (nbeq v.tag 4) (ih (Nat.add (Nat.mul n 256) v.p)) none) l) n=some m) :
    ∃ bs:List UInt8,vs=(bs.map fun b=>(b.toNat:Int)).map (Value.int .u8)∧m=n * 256 ^ bs.length+zaJ bs:=by
  induction l generalizing vs n with
  | nil=>cases hl;cases h;exact⟨[],rfl,by simp[zdR]⟩
  | cons a l ih =>
    cases hl with
    | cons h1 h2 =>
      obtain⟨ht,h⟩:=zas h
      obtain⟨rfl,hp,_⟩:=h1.of_int (c:=4) (by omega) (zaa.1 ht)
      rw[zhh] at hp
      obtain⟨bs,rfl,rfl⟩:=ih h2 h
      refine⟨UInt8.ofNat a.p::bs,?_,?_⟩
      · have hb:(UInt8.ofNat a.p).toNat=a.p:=by simp[UInt8.toNat_ofNat'];omega
        simp only[List.map_cons,hb]
        have:valI 4 a.p=(a.p:Int):=zbs (by rw[zfE];exact hp)
        rw[this];rfl
      · rw[zc4,List.length_cons,Nat.pow_succ]
        have hb:(UInt8.ofNat a.p).toNat=a.p:=by simp[UInt8.toNat_ofNat'];omega
        rw[hb]
        show (n * 256+a.p) * _+_=_
        rw[Nat.add_mul,Nat.mul_comm (256 ^ bs.length) 256,Nat.mul_assoc]
        omega
theorem zu3(bs:List UInt8)(s:ByteArray):(bs.map fun b=>(b.toNat:Int)).foldl (fun r n=>r.push (UInt8.ofNat n.toNat)) s=⟨s.data++bs.toArray⟩:=by
  induction bs generalizing s with
  | nil=>simp
  | cons b bs ih =>
    simp only[List.map_cons,List.foldl_cons]
    rw[ih]
    have:UInt8.ofNat ((b.toNat:Int)).toNat=b:=by simp
    rw[this]
    cases s;simp[ByteArray.push]
theorem zu4{s t:TypeId}{a:AV}{va:Value}(ha:VR φ a va)(hr:HR P w0 H φ w)(hok:AllOk ((ziQ P s t).run a H c)) :
    Out P w0 (fun v w'=>(convert s t va).run P w=.ok v w') H φ ((ziQ P s t).run a H c) c:=by
  unfold ziQ at hok ⊢
  split at hok
  · rename_i j k h1 h2
    refine Out.bi hok fun h3 _=>?_
    obtain⟨rfl,l1,_⟩:=ha.of_int (zaT j) (zaa.1 h3)
    obtain⟨g1,g2⟩:=zxV (zaT j) (zaT k) l1
    refine Out.same hr (zck (zaT k) g2) ?_
    rw[← g1]
    simp only[convert,Sem.run_bind,zav h1,zav h2,Result.andThen_ok,zlS];rfl
  · rename_i h1 h2
    refine Out.bi hok fun h3 _=>?_
    obtain⟨p,rfl,_,_⟩:=ha.of_str (zaa.1 h3)
    refine Out.same hr ha ?_
    simp only[convert,Sem.run_bind,zav h1,zav h2,Result.andThen_ok];rfl
  · rename_i e h1 h2
    cases hu:isU8 P e
    · rw[hu] at hok;exact (zaY hok).elim
    rw[hu,zag] at hok
    rw[zag]
    have he:=z0E hu
    refine Out.bi2 hok (fun h3 _=>?_) fun _ hok=>Out.bi hok fun h3 hok=>Out.bi hok fun hk hok=>Out.om hok fun l hl hok=>Out.om hok fun n hn _=>?_
    · have:va=.slice none 0 0:=ha.isNil h3
      subst this
      refine Out.same (val:=.string ⟨[].toArray⟩) hr (zi9 []) ?_
      simp only[convert,Sem.run_bind,zav h1,zav h2,zav he,Result.andThen_ok,Conv.bytesToString];rfl
    · obtain⟨x,cap,rfl,hx,_⟩:=ha.of_sl (zaa.1 h3)
      obtain⟨_,_,o,ho,hB⟩:=hr.blk _ _ hx
      obtain⟨vs,rest,t',rfl,hvs,_,_⟩:=hB.cells (zaa.1 hk)
      rw[zbB] at hl
      obtain⟨hlen,rfl⟩:=zbL hl
      have hll:=hvs.length
      obtain⟨bs,hbs,hn'⟩:=zqJ ((hvs.drop a.q).take a.r) (show _=some n from hn)
      have hblen:bs.length=a.r:=by
        have:=congrArg List.length hbs
        simp only[List.length_map,List.length_take,List.length_drop] at this
        rw[List.length_drop] at hlen
        omega
      have e:((vs++rest).drop a.q).take a.r=(vs.drop a.q).take a.r:=by
        rw[List.drop_append,List.take_append]
        rw[List.length_drop] at hlen
        have:a.r - (vs.drop a.q).length=0:=by rw[List.length_drop];omega
        rw[this];simp
      have hv:VR φ ⟨9,n,a.r,0,0,[]⟩ (.string ⟨bs.toArray⟩):=by
        have:=zi9 (φ:=φ) bs
        rw[hblen] at this
        rw[hn',Nat.zero_mul,Nat.zero_add];exact this
      refine Out.same hr hv ?_
      have hld:=zbO (P:=P) ho (off:=a.q) (n:=a.r) (by rw[List.length_drop] at hlen;rw[List.length_append];omega)
      rw[e,hbs] at hld
      simp only[convert,Sem.run_bind,zav h1,zav h2,zav he,Result.andThen_ok]
      rw[run_bytesToString w _ a.r cap _ hld,zu3]
      simp
  · exact (zaY hok).elim
theorem zmb{t:TypeId}{d:TypeDesc}{sz off n:Nat}{cs:List AV}{vs:List Value}{S:Sem Value}(ht:(tyB P t).run=some d)(hs:(szB P t).run=some sz)(hcs:VRs φ cs vs)(h1:∀ c ∈ cs,za6 c=true)(hr:HR P w0 H φ w)
    (hS:∀ v,(part t vs.toArray off).run P w=.ok v w→S.run P w=.ok v w) (hok:AllOk (zh1 (zaC P t) off sz cs H c n)) :
    Out P w0 (fun v w'=>S.run P w=.ok v w') H φ (zh1 (zaC P t) off sz cs H c n) c:=by
  unfold zh1 at hok ⊢
  refine Out.bi2 hok (fun hg hok=>Out.om hok fun l hl _=>?_) fun hg hok=>Out.known hok fun hne=>?_
  · rw[zbB] at hl
    obtain⟨_,rfl⟩:=zbL hl
    exact Out.same hr (.agg _ _ _ _ _ _ ((hcs.drop off).take sz) fun c hc=>h1 c (List.mem_of_mem_drop (List.mem_of_mem_take hc))) (hS _ (ziB ht hs hg))
  · rw[zcG] at hne ⊢
    cases ha:cs[off]? with
    | none=>rw[ha] at hne;exact absurd rfl hne
    | some e =>
      obtain⟨v,hv,hve⟩:=hcs.get ha
      exact Out.same hr hve (hS _ (zg3 ht hg hv))
theorem zsT{s:TypeId}{fs:Array Field}{f:Nat}{fd:Field}{d:TypeDesc}{sz:Nat}{a:AV}{va:Value}(hs:(tyB P s).run=some (.struct fs))(hf:fs[f]?=some fd)(ht:(tyB P fd.type).run=some d)(hz:(szB P fd.type).run=some sz)
    (ha:VR φ a va) (hr:HR P w0 H φ w) (hok:AllOk ((zig (zaC P fd.type) fd.offset sz).run a H c)) :
    Out P w0 (fun v w'=>(Instr.field s va f).run P w=.ok v w') H φ ((zig (zaC P fd.type) fd.offset sz).run a H c) c:=by
  refine Out.bi hok fun h1 hok=>?_
  obtain⟨l,rfl,hl,hc⟩:=ha.of_agg (zaa.1 h1)
  refine zmb ht hz hl hc hr (fun v hv=>?_) hok
  simp only[Instr.field,Sem.run_bind,zav hs,Result.andThen_ok,hf,asAgg,Sem.run_pure',hv]
theorem zmv{s:TypeId}{fs:Array Field}{f:Nat}{fd:Field}{sz:Nat}{a:AV}{va:Value}(hs:(tyB P s).run=some (.struct fs))(hf:fs[f]?=some fd)(hz:(szB P fd.type).run=some sz)(hz0:sz ≠ 0)
    (ha:VR φ a va) (hr:HR P w0 H φ w) (hok:AllOk ((zeu fd.offset).run a H c)) :
    Out P w0 (fun v w'=>(Instr.fieldAt s va f).run P w=.ok v w') H φ ((zeu fd.offset).run a H c) c:=by
  refine Out.bi hok fun h1 _=>?_
  obtain⟨x,rfl,hx⟩:=ha.of_ptr (zaa.1 h1)
  refine Out.same (val:=.pointer (some ⟨x,a.q+fd.offset,none⟩)) hr (.ptr _ _ _ _ _ _ hx) ?_
  simp only[Instr.fieldAt,Sem.run_bind,zav hs,Result.andThen_ok,hf,Instr.sureAddr,Sem.run_pure',fieldPlace,zaS hz,if_neg hz0,Addr.add_mid]
theorem zgb{a:AV}{va:Value}{n:Nat}(ha:VR φ a va)(h:ixOk a n=true):∃ k,va=.int k (a.p:Int)∧a.p≤n:=by
  unfold ixOk at h
  cases h1:nble a.tag 7
  · rw[h1] at h;cases h
  rw[h1,zag] at h
  cases h2:nble a.p n
  · rw[h2] at h;cases h
  rw[h2,zag,zdQ] at h
  have hneg:zbb a.tag a.p=false:=by simpa using h
  obtain⟨rfl,_,_⟩:=ha.of_int (c:=a.tag) (by have:=zah.1 h1;omega) rfl
  exact⟨_,by rw[zea hneg],zah.1 h2⟩
theorem zu5{t e:TypeId}{sz:Nat}{a b:AV}{va vb:Value}(ht:(tyB P t).run=some (.slice e))(hz:(szB P e).run=some sz)(ha:VR φ a va)(hb:VR φ b vb)(hr:HR P w0 H φ w)(hok:AllOk ((zjN sz).run a b H c)) :
    Out P w0 (fun v w'=>(Instr.indexAt t va vb).run P w=.ok v w') H φ ((zjN sz).run a b H c) c:=by
  refine Out.bi hok fun h1 hok=>Out.bi hok fun h2 hok=>Out.bi2 hok (fun _ hok=>(zaY hok).elim) fun h3 _=>?_
  obtain⟨x,cap,rfl,hx,_⟩:=ha.of_sl (zaa.1 h1)
  obtain⟨k,rfl,hi⟩:=zgb hb h2
  have h3':=zam.1 h3
  have e5:∀ x,Nat.pred x=x - 1:=fun _=>rfl
  rw[e5] at hi
  refine Out.same (val:=.pointer (some ⟨x,a.q+b.p * sz,none⟩)) hr (.ptr _ _ _ _ _ _ hx) ?_
  have hlt:(0:Int)≤(b.p:Int)∧(b.p:Int)<(a.r:Int):=by omega
  simp only[Instr.indexAt,Sem.run_bind,asIntOf,Sem.run_pure',zav ht,Result.andThen_ok,hlt,and_self,if_true,zaS hz,Addr.add_mid,Int.toNat_natCast]
theorem zsU{t e:TypeId}{n sz:Nat}{a b:AV}{va vb:Value}(ht:(tyB P t).run=some (.array n e))(hz:(szB P e).run=some sz)(ha:VR φ a va)(hb:VR φ b vb)(hr:HR P w0 H φ w)(hok:AllOk ((zih n sz).run a b H c)) :
    Out P w0 (fun v w'=>(Instr.indexAt t va vb).run P w=.ok v w') H φ ((zih n sz).run a b H c) c:=by
  refine Out.bi hok fun h1 hok=>Out.bi hok fun h2 hok=>Out.bi2 hok (fun _ hok=>(zaY hok).elim) fun h3 _=>?_
  obtain⟨x,rfl,hx⟩:=ha.of_ptr (zaa.1 h1)
  obtain⟨k,rfl,hi⟩:=zgb hb h2
  have h3':=zam.1 h3
  have e5:∀ x,Nat.pred x=x - 1:=fun _=>rfl
  rw[e5] at hi
  refine Out.same (val:=.pointer (some ⟨x,a.q+b.p * sz,none⟩)) hr (.ptr _ _ _ _ _ _ hx) ?_
  have hlt:(0:Int)≤(b.p:Int)∧(b.p:Int)<(n:Int):=by omega
  simp only[Instr.indexAt,Sem.run_bind,asIntOf,Sem.run_pure',zav ht,Result.andThen_ok,Instr.sureAddr,hlt,and_self,if_true,zaS hz,Addr.add_mid,Int.toNat_natCast]
theorem zsV{t e:TypeId}{d:TypeDesc}{n sz:Nat}{a b:AV}{va vb:Value}(ht:(tyB P t).run=some (.array n e))(he:(tyB P e).run=some d)(hz:(szB P e).run=some sz)(ha:VR φ a va)(hb:VR φ b vb)(hr:HR P w0 H φ w)(hok:AllOk ((zii (zaC P e) n sz).run a b H c)) :
    Out P w0 (fun v w'=>(Instr.index t va vb).run P w=.ok v w') H φ ((zii (zaC P e) n sz).run a b H c) c:=by
  refine Out.bi hok fun h1 hok=>Out.bi hok fun h2 hok=>Out.bi2 hok (fun _ hok=>(zaY hok).elim) fun h3 hok=>?_
  obtain⟨l,rfl,hl,hc⟩:=ha.of_agg (zaa.1 h1)
  obtain⟨k,rfl,hi⟩:=zgb hb h2
  have h3':=zam.1 h3
  have e5:∀ x,Nat.pred x=x - 1:=fun _=>rfl
  rw[e5] at hi
  refine zmb he hz hl hc hr (fun v hv=>?_) hok
  have hlt:(0:Int)≤(b.p:Int)∧(b.p:Int)<(n:Int):=by omega
  have em:Nat.mul b.p sz=b.p * sz:=rfl
  rw[em] at hv
  simp only[Instr.index,Sem.run_bind,asIntOf,Sem.run_pure',zav ht,Result.andThen_ok,hlt,and_self,if_true,zaS hz,Int.toNat_natCast,hv]
theorem znG(l:List UInt8)(i:Nat)(h:i<l.length):zaJ l / 256 ^ (l.length - 1 - i) % 256=(l[i]).toNat:=by
  induction l generalizing i with
  | nil=>simp at h
  | cons a l ih =>
    rw[zc4]
    cases i with
    | zero =>
      have hlt:=zdA l
      have hpos:0<256 ^ l.length:=Nat.pow_pos (by omega)
      simp only[List.length_cons,Nat.add_sub_cancel,Nat.sub_zero,List.getElem_cons_zero]
      rw[Nat.mul_comm,Nat.mul_add_div hpos,Nat.div_eq_of_lt hlt,Nat.add_zero]
      have:=a.toNat_lt
      omega
    | succ i =>
      have hi:i<l.length:=by simpa using h
      have:=ih i hi
      have e1:(a::l).length - 1 - (i+1)=l.length - 1 - i:=by simp;omega
      rw[e1,List.getElem_cons_succ,← this]
      have e2:256 ^ l.length=256 ^ (l.length - 1 - i) * (256 * 256 ^ i):=by
        rw[← Nat.pow_succ',← Nat.pow_add];congr 1;omega
      have hpos:0<256 ^ (l.length - 1 - i):=Nat.pow_pos (by omega)
      rw[e2,Nat.mul_comm a.toNat,Nat.mul_assoc,Nat.mul_add_div hpos,Nat.mul_assoc,Nat.mul_add_mod]
theorem zsW{t:TypeId}{a b:AV}{va vb:Value}(ht:(tyB P t).run=some .string)(ha:VR φ a va)(hb:VR φ b vb)(hr:HR P w0 H φ w)(hok:AllOk (ixStrC.run a b H c)) :
    Out P w0 (fun v w'=>(Instr.index t va vb).run P w=.ok v w') H φ (ixStrC.run a b H c) c:=by
  refine Out.bi hok fun h1 hok=>Out.bi hok fun h2 hok=>Out.bi2 hok (fun _ hok=>(zaY hok).elim) fun h3 _=>?_
  obtain⟨l,rfl,e1,e2⟩:=ha.of_str (zaa.1 h1)
  obtain⟨k,rfl,hi⟩:=zgb hb h2
  have h3':=zam.1 h3
  have e5:∀ x,Nat.pred x=x - 1:=fun _=>rfl
  rw[e5] at hi
  have hlt:b.p<l.length:=by omega
  have hat:zbf a b.p=(l[b.p]).toNat:=by
    rw[← znG l b.p hlt,← e1,← e2];unfold zbf;rw[zbD,zbI];rfl
  have hu:=(l[b.p]).toNat_lt
  have hv:VR φ (mk1 4 (zbf a b.p)) (.int .u8 ((l[b.p]).toNat:Int)):=by
    have:=zck (φ:=φ) (k:=4) (p:=zbf a b.p) (by omega) (by rw[zhh,hat];omega)
    rw[zbs (by rw[zfE,hat];omega),hat] at this
    rw[hat];exact this
  refine Out.same hr hv ?_
  have hsz:(⟨l.toArray⟩:ByteArray).size=l.length:=by simp[ByteArray.size]
  have hget:(⟨l.toArray⟩:ByteArray)[b.p]?=some l[b.p]:=by
    rw[getElem?_pos _ _ (by rw[hsz];exact hlt)]
    rfl
  simp only[Instr.index,Sem.run_bind,asIntOf,Sem.run_pure',zav ht,Result.andThen_ok,Int.natCast_nonneg,if_true,Int.toNat_natCast,hget]
theorem zov{i:Nat}{a:AV}{va:Value}(ha:VR φ a va)(hr:HR P w0 H φ w)(hok:AllOk ((zfJ i).run a H c)) :
    Out P w0 (fun v w'=>(Instr.extract va i).run P w=.ok v w') H φ ((zfJ i).run a H c) c:=by
  refine Out.bi hok fun h1 hok=>Out.bi hok fun h2 _=>?_
  obtain⟨l,rfl,hl⟩:=ha.of_tup (zaa.1 h1)
  have h2':=zah.1 h2
  rw[zaz] at h2'
  have hi:a.cs[i]?=some a.cs[i]:=List.getElem?_eq_getElem (by omega)
  obtain⟨v,hv,hve⟩:=hl.get hi
  rw[zcG,hi]
  refine Out.same hr hve ?_
  simp[Instr.extract,hv]
end Go.Eng
namespace Go.Eng
open Go.RowKit
variable {P:Program} {w0:World} {H:Hp} {φ:Ph} {c:Kont} {w:World}
theorem zl0(v:Value):VR φ (zdp v) v∧((zdp v).tag ≠ 18→za6 (zdp v)=true)∧(zdp v).tag ≠ 15:=by
  have unk:VR φ unkV v∧(unkV.tag ≠ 18→za6 unkV=true)∧unkV.tag ≠ 15:=⟨.unk _ _ _ _ _ _,fun h=>absurd rfl h,by decide⟩
  unfold zdp
  split
  · rename_i k n
    have hk:=zaT k
    have fin:∀ p,p<kMod (zap k)→valI (zap k) p=n→VR φ (mk1 (zap k) p) (.int k n)∧((mk1 (zap k) p).tag ≠ 18→za6 (mk1 (zap k) p)=true)∧(mk1 (zap k) p).tag ≠ 15:=by
      intro p hp he
      refine⟨?_,fun _=>?_,?_⟩
      · have:=zck (φ:=φ) hk hp
        rwa [he,zlS] at this
      · show bi (nble (zap k) 14) true _=true
        rw[zah.2 (by omega)];rfl
      · show zap k ≠ 15;omega
    have h2:=zhJ hk
    unfold intV
    cases n with
    | ofNat a =>
      show (VR φ (bi (nble (Nat.succ a) (zbj (zap k))) (mk1 (zap k) a) unkV) _∧_)
      cases h:nble (Nat.succ a) (zbj (zap k))
      · simpa [h] using unk
      · have:=zah.1 h
        simpa [h] using fin a (by omega) (zbs (by omega))
    | negSucc a =>
      have h3:=zj7 hk
      cases h4:nble 4 (zap k)
      · cases h:nble (Nat.succ a) (zbj (zap k))
        · simpa [h,h4] using unk
        · have:=zah.1 h
          have h4':=zaW.1 h4
          have h5:kMod (zap k)=2 * zbj (zap k):=by
            refine kinds (p:=fun c=>c<4→kMod c=2 * zbj c) ?_ ?_ ?_ ?_ ?_ ?_ ?_ ?_ hk h4'<;>intro h<;>first | decide | omega
          have e:Nat.sub (kMod (zap k)) (Nat.succ a)=kMod (zap k) - (a+1):=rfl
          have:=fin (Nat.sub (kMod (zap k)) (Nat.succ a)) (by rw[e];omega) (by rw[e,zeN (by omega),Int.negSucc_eq];omega)
          simpa [h,h4] using this
      · simpa [h4] using unk
  · exact⟨zb7 _,fun _=>rfl,by show (8:Nat) ≠ 15;decide⟩
  · rename_i s
    refine⟨?_,fun _=>rfl,by show (9:Nat) ≠ 15;decide⟩
    have:=zi9 (φ:=φ) s.data.toList
    simpa using this
  · exact⟨.nilp _ _ _ _,fun _=>rfl,by decide⟩
  · exact⟨.nils _ _ _ _,fun _=>rfl,by decide⟩
  · exact⟨.nilm _ _ _ _,fun _=>rfl,by decide⟩
  · exact⟨.nilf _ _ _ _,fun _=>rfl,by decide⟩
  · exact⟨.nili _ _ _ _,fun _=>rfl,by decide⟩
  · exact unk
theorem zu6(l:List Value):VRs φ (l.map zdp) l:=by
  induction l with
  | nil=>exact .nil
  | cons v l ih=>exact .cons (zl0 v).1 ih
theorem zjl(v:Value):VR φ (avOf v) v∧((avOf v).tag ≠ 18→zaO (avOf v)=true):=by
  have atom:avOf v=zdp v→VR φ (avOf v) v∧((avOf v).tag ≠ 18→zaO (avOf v)=true):=by
    intro h
    rw[h]
    refine⟨(zl0 v).1,fun hne=>?_⟩
    unfold zaO
    rw[(zl0 (φ:=φ) v).2.1 hne];rfl
  cases v<;>first | exact atom rfl | skip
  rename_i cs
  show VR φ (bi _ _ _) _∧((bi _ _ _:AV).tag ≠ 18→zaO (bi _ _ _)=true)
  cases h:allL za6 (cs.toList.map zdp)
  · exact⟨.unk _ _ _ _ _ _,fun hne=>absurd rfl hne⟩
  · rw[zcH,List.all_eq_true] at h
    refine⟨?_,fun _=>rfl⟩
    have:=VR.agg (φ:=φ) 0 0 0 0 (cs.toList.map zdp) cs.toList (zu6 _) h
    simpa [aggV] using this
theorem zeg{t:TypeId}{z:AV}(h:(zeB P t).run=some z):∃ i zv,P.info? t=some i∧i.zero=some zv∧(∀ φ,VR φ z zv)∧zaO z=true:=by
  unfold zeB at h
  cases hi:P.info? t with
  | none=>rw[hi] at h;cases h
  | some i =>
    cases hz:i.zero with
    | none=>rw[hi] at h;simp[hz] at h
    | some zv =>
      rw[hi] at h
      simp only[Option.bind_some,hz] at h
      cases h18:nbeq (avOf zv).tag 18
      · rw[h18,zai] at h
        cases h
        exact⟨i,zv,rfl,hz,fun φ=>(zjl zv).1,(zjl (φ:=⟨fun _=>none,fun _=>0,fun _ _=>False,fun _=>none,fun _=>0⟩) zv).2 (zam.1 h18)⟩
      · rw[h18] at h;cases h
theorem zsX{t:TypeId}{z:AV}(hz:(zeB P t).run=some z)(hr:HR P w0 H φ w)(hok:AllOk ((zmR z).run H c)) :
    Out P w0 (fun v w'=>(Instr.alloc t true (.tuple #[])).run P w=.ok v w') H φ ((zmR z).run H c) c:=by
  obtain⟨i,zv,hi,hzv,hv,hc⟩:=zeg hz
  obtain⟨h1,h2⟩:=(hv φ).cells hc
  refine Out.new (o:=.cells zv.cells t) (val:=.pointer (some ⟨w.heap.size,0,none⟩)) hr ?_ ?_ ?_ hok
  · exact⟨fun _=>⟨zv.cells.toList,[],t,by simp,h1,h2,(fun h=>by cases h),(fun h=>by exact no21 h)⟩,fun h=>by simp[zbt] at h,fun h=>by simp[zbt] at h,no41⟩
  · intro φ' _ h;exact .ptr _ _ _ _ _ _ h
  · simp only[Instr.alloc,newVar,newRow,Sem.run_bind,zeM hi hzv,zcT,Result.andThen_ok,Sem.run_pure']
theorem zu7(off:Nat)(v:List Value)(cs:Array Value)(h:off+v.length≤cs.size) :
    (v.zipIdx.foldl (fun cs (x:Value × Nat)=>cs.setIfInBounds (off+x.2) x.1) cs).toList=cs.toList.take off++v++cs.toList.drop (off+v.length):=by
  obtain⟨h1,h2⟩:=Great.foldl_set off v 0 cs
  have hl:cs.toList.length=cs.size:=rfl
  apply List.ext_getElem?
  intro k
  rw[Array.getElem?_toList,h2 k]
  simp only[Nat.add_zero]
  by_cases h3:k<off
  · rw[if_neg (by omega),List.append_assoc,List.getElem?_append_left (by rw[List.length_take,hl];omega),List.getElem?_take,if_pos h3,Array.getElem?_toList]
  · by_cases h4:k<off+v.length
    · rw[if_pos (by omega),List.append_assoc,List.getElem?_append_right (by rw[List.length_take,hl];omega),List.length_take,hl,Nat.min_eq_left (by omega),List.getElem?_append_left (by omega)]
    · rw[if_neg (by omega),List.getElem?_append_right (by rw[List.length_append,List.length_take,hl];omega),List.length_append,List.length_take,hl,Nat.min_eq_left (by omega),List.getElem?_drop,Array.getElem?_toList]
      congr 1;omega
theorem zhk{place:Nat→Option (Nat × Nat)}:∀ (is:List Nat) (pl:List (Nat × Nat)) (vs:List AV) (vals:List Value) (cs0 cs:List AV) (zs:Array Value),zbS place is=some pl→VRs φ vs vals→VRs φ cs0 zs.toList→(∀ c ∈ cs0,za6 c=true) →
    zgh pl vs cs0=some cs→is.length=vals.length→∃ r,Instr.fill place zs (is.zip vals)=some r∧VRs φ cs r.toList∧(∀ c ∈ cs,za6 c=true)
  | [],pl,vs,vals,cs0,cs,zs,hp,hv,hz,h1,h,hl=>by
    cases hp
    cases h
    exact⟨zs,by cases vals<;>rfl,hz,h1⟩
  | i::is,pl,vs,vals,cs0,cs,zs,hp,hv,hz,h1,h,hl=>by
    obtain⟨oz,ho,hp⟩:=za1 hp
    obtain⟨r,hr,hp⟩:=za1 hp
    cases hp
    cases hv with
    | nil=>simp at hl
    | @cons a v as vs' ha hv =>
      obtain⟨g1,h⟩:=zas h
      obtain⟨g2,h⟩:=zas h
      obtain⟨cs1,hc1,h⟩:=za1 h
      obtain⟨hfit,rfl⟩:=zi3 hc1
      obtain⟨k1,k2⟩:=ha.cells g1
      have g2':=zaa.1 g2
      rw[zaz,k1.length] at g2'
      have hzl:=hz.length
      have e1:=k1.length
      rw[e1] at hfit
      have hsz:v.cells.size=oz.2:=by simpa using g2'
      have hfit':oz.1+v.cells.toList.length≤zs.size:=by simp only[Array.length_toList] at hzl hfit ⊢;omega
      have key:=zu7 oz.1 v.cells.toList zs hfit'
      obtain⟨r',q1,q2,q3⟩:=zhk is r as vs' (cs0.take oz.1++cellsOf a++cs0.drop (oz.1+(cellsOf a).length)) cs (v.cells.toList.zipIdx.foldl (fun cs (x:Value × Nat)=>cs.setIfInBounds (oz.1+x.2) x.1) zs) hr hv
        (by rw[key,e1];exact ((hz.take _).append k1).append (hz.drop _))
        (by
          intro c hc
          rw[List.mem_append,List.mem_append] at hc
          rcases hc with (hc | hc) | hc
          · exact h1 c (List.mem_of_mem_take hc)
          · exact k2 c hc
          · exact h1 c (List.mem_of_mem_drop hc)) h (by simpa using hl)
      refine⟨r',?_,q2,q3⟩
      rw[List.zip_cons_cons]
      unfold Instr.fill
      obtain⟨o1,o2⟩:=oz
      simp only[ho]
      rw[if_neg (by
        simp only[Array.length_toList] at hfit'
        simp only at hsz
        simp[hsz];omega)]
      rw[← q1]
      congr 1
      rw[← Array.foldl_toList]
      simp
end Go.Eng
namespace Go.Eng
open Go.RowKit
variable {P:Program} {w0:World} {H:Hp} {φ:Ph} {c:Kont} {w:World}
theorem zdw{z:Array Value}{sz:Nat}(hz:z.size=sz)(m:Nat):(madeCells z (m * sz)).toList=(List.replicate m z.toList).flatten:=by
  induction m with
  | zero=>simp[madeCells]
  | succ m ih =>
    rw[List.replicate_succ,List.flatten_cons,← ih]
    apply List.ext_getElem?
    intro k
    have hl:z.toList.length=sz:=by simpa using hz
    by_cases hk:k<(m+1) * sz
    · have hpos:0<sz:=by
        rcases Nat.eq_zero_or_pos sz with h | h
        · subst h;simp at hk
        · exact h
      have e1:(madeCells z ((m+1) * sz)).toList[k]?=some (z[k % sz]!):=by simp[madeCells,hk,hz]
      rw[e1]
      by_cases h1:k<sz
      · rw[List.getElem?_append_left (by omega),Nat.mod_eq_of_lt h1]
        simp[hz,h1]
      · rw[List.getElem?_append_right (by omega),hl]
        have hk':k - sz<m * sz:=by rw[Nat.add_mul] at hk;omega
        have e2:(k - sz) % sz=k % sz:=by
          rw[← Nat.add_mod_right (k - sz) sz];congr 1;omega
        simp[madeCells,hk',hz,e2]
    · rw[List.getElem?_eq_none (by simp[madeCells];omega),List.getElem?_eq_none]
      rw[List.length_append,hl]
      simp only[Array.length_toList,size_madeCells]
      rw[Nat.add_mul] at hk;omega
theorem zdE{z:List AV}(h:∀ c ∈ z,za6 c=true)(n:Nat):∀ c ∈ repC n z,za6 c=true:=by
  induction n with
  | zero=>intro c hc;cases hc
  | succ n ih =>
    intro c hc
    have hc:c ∈ appL z (repC n z):=hc
    rw[zaV,List.mem_append] at hc
    rcases hc with hc | hc
    · exact h c hc
    · exact ih c hc
theorem zmc{t:TypeId}{z:AV}{is:List Nat}{pl:List (Nat × Nat)}{vs:List AV}{vals:List Value}{parts:Array (Nat × Value)}(hz:(zeB P t).run=some z)(hp:parts.toList=is.zip vals)(hl:is.length=vals.length)
    (hpl:(∃ fs pls,(tyB P t).run=some (.struct fs)∧(fs.toList.mapM fun f=>(P.info? f.type).map fun i=>(f.offset,i.size))=some pls∧zbS (fun i=>pls.toArray[i]?) is=some pl) ∨
      (∃ n e sz,(tyB P t).run=some (.array n e)∧(szB P e).run=some sz∧zbS (fun i=>some (i * sz,sz)) is=some pl))
    (hv:VRs φ vs vals) (hr:HR P w0 H φ w) (hok:AllOk ((zgN pl (cellsOf z)).run vs H c)) :
    Out P w0 (fun v w'=>(Instr.build t parts).run P w=.ok v w') H φ ((zgN pl (cellsOf z)).run vs H c) c:=by
  refine Out.om hok fun cs hcs _=>?_
  obtain⟨i,zv,hi,hzv,hzr,hc⟩:=zeg hz
  obtain⟨h1,h2⟩:=(hzr φ).cells hc
  have fin:∀ (place:Nat→Option (Nat × Nat)),zbS place is=some pl→(∀ r,Instr.fill place zv.cells parts.toList=some r→P.built t parts.toList=some r) →
      Out P w0 (fun v w'=>(Instr.build t parts).run P w=.ok v w') H φ (c H (aggV cs)) c:=by
    intro place hpl hb
    obtain⟨r,q1,q2,q3⟩:=zhk is pl vs vals _ cs zv.cells hpl hv h1 h2 hcs hl
    rw[← hp] at q1
    refine Out.same hr ?_ (run_build w t parts r (hb r q1))
    have:=VR.agg (φ:=φ) 0 0 0 0 cs r.toList q2 q3
    simpa [aggV] using this
  rcases hpl with⟨fs,pls,hu,hm,hpl⟩ | ⟨n,e,sz,hu,hs,hpl⟩
  · refine fin _ hpl fun r hr=>?_
    unfold Program.built
    rw[hi,show P.underlying t=_ from hu]
    simp only[hzv,hm]
    exact hr
  · obtain⟨ie,hie,rfl⟩:=Option.map_eq_some_iff.1 (show (P.info? e).map (·.size)=some sz from hs)
    refine fin _ hpl fun r hr=>?_
    unfold Program.built
    rw[hi,show P.underlying t=_ from hu]
    simp only[hzv,hie]
    exact hr
theorem zjm(n:Nat):capS (exS n)=n∧isEx (exS n)=true:=by
  have e1:∀ x y,Nat.div x y=x / y:=fun _ _=>rfl
  have e2:∀ x y,Nat.mul x y=x * y:=fun _ _=>rfl
  have e3:Nat.land (exS n) 1=exS n &&& 1:=rfl
  unfold isEx capS
  rw[e1,e3,Nat.and_one_is_mod]
  unfold exS
  rw[e2]
  exact⟨by omega,by rw[zaa];omega⟩
theorem zl1(n:Nat):capS (lbS n)=n∧isEx (lbS n)=false:=by
  have e1:∀ x y,Nat.div x y=x / y:=fun _ _=>rfl
  have e2:∀ x y,Nat.mul x y=x * y:=fun _ _=>rfl
  have e3:Nat.land (lbS n) 1=lbS n &&& 1:=rfl
  unfold isEx capS
  rw[e1,e3,Nat.and_one_is_mod]
  unfold lbS
  rw[e2]
  exact⟨by omega,by rw[zam];omega⟩
theorem zer{b x len cap:Nat}(h:φ b=some x)(hl:len≤cap)(off:Nat):VR φ (slV b off len (exS cap)) (.slice (some ⟨x,off,none⟩) len cap) :=
  .sl b x off len cap (exS cap) [] h (by rw[(zjm cap).1];exact hl) (by rw[(zjm cap).1];exact Nat.le_refl _) (fun _=>(zjm cap).1.symm) (fun h=>by rw[(zjm cap).2] at h;cases h)
theorem zl2{t e:TypeId}{z:AV}{sz len:Nat}{is:List Nat}{pl:List (Nat × Nat)}{vs:List AV}{vals:List Value}{parts:Array (Nat × Value)}(hu:(tyB P t).run=some (.slice e))(hs:(szB P e).run=some sz)(hz:(zeB P e).run=some z)
    (hp:parts.toList=is.zip vals) (hl:is.length=vals.length) (hpl:zbS (fun i=>some (i * sz,sz)) is=some pl) (hsm:len * sz≤100000) (hzs:(cellsOf z).length=sz)
    (hv:VRs φ vs vals) (hr:HR P w0 H φ w) (hok:AllOk ((zg7 pl (repC len (cellsOf z)) len).run vs H c)) :
    Out P w0 (fun v w'=>(Instr.buildSlice t len parts).run P w=.ok v w') H φ ((zg7 pl (repC len (cellsOf z)) len).run vs H c) c:=by
  refine Out.om hok fun cs hcs hok=>?_
  obtain⟨i,zv,hi,hzv,hzr,hc⟩:=zeg hz
  obtain⟨h1,h2⟩:=(hzr φ).cells hc
  obtain⟨ie,hie,he⟩:=Option.map_eq_some_iff.1 (show (P.info? e).map (·.size)=some sz from hs)
  rw[hi] at hie;cases hie
  have hzsz:zv.cells.size=sz:=by rw[h1.length] at hzs;simpa using hzs
  have hmade:=zdw hzsz len
  have h3:VRs φ (repC len (cellsOf z)) (madeCells zv.cells (len * sz)).toList:=by rw[hmade];exact h1.repC len
  obtain⟨r,q1,q2,q3⟩:=zhk is pl vs vals _ cs _ hpl hv h3 (zdE h2 len) hcs hl
  rw[← hp] at q1
  refine Out.new (o:=.cells r e) (val:=.slice (some ⟨w.heap.size,0,none⟩) len len) hr ?_ ?_ ?_ hok
  · exact⟨fun _=>⟨r.toList,[],e,by simp,q2,q3,(fun h=>by cases h),(fun h=>by exact no21 h)⟩,fun h=>by simp[zbt] at h,fun h=>by simp[zbt] at h,no41⟩
  · intro φ' _ h;exact zer h (Nat.le_refl _) 0
  · subst he
    by_cases h0:len * i.size=0
    · rw[h0] at q1
      have q1':Instr.fill (fun k=>some (k * i.size,i.size)) (#[]:Array Value) parts.toList=some r:=by
        have e0:madeCells zv.cells 0=#[]:=by simp[madeCells]
        rw[e0] at q1
        exact q1
      simp[Instr.buildSlice,run_underlying hu,sizeOf,typeInfo,hi,h0,newRow]
      rw[show Array.map (fun _=>(default:Value)) (Array.range 0)=#[] from by simp,q1']
      rfl
    · refine run_buildSlice w t e len parts r i zv hu hi hzv (by omega) h0 ?_
      exact q1
theorem zmw{t e:TypeId}{z:AV}{sz bt:Nat}{a b:AV}{va vb:Value}(hu:(tyB P t).run=some (.slice e))(hs:(szB P e).run=some sz)(hbt:(btB P e).run=some bt)(hz:(zeB P e).run=some z)(hb6:bt≤1000000)(hzs:(cellsOf z).length=sz)
    (ha:VR φ a va) (hb:VR φ b vb) (hr:HR P w0 H φ w) (hok:AllOk ((zdi (cellsOf z)).run a b H c)) :
    Out P w0 (fun v w'=>(Instr.makeSlice t va vb).run P w=.ok v w') H φ ((zdi (cellsOf z)).run a b H c) c:=by
  refine Out.bi hok fun g1 hok=>Out.bi hok fun g2 hok=>Out.bi hok fun g3 hok=>Out.bi hok fun g4 hok=>?_
  obtain⟨i,zv,hi,hzv,hzr,hc⟩:=zeg hz
  obtain⟨h1,h2⟩:=(hzr φ).cells hc
  obtain⟨ie,hie,he⟩:=Option.map_eq_some_iff.1 (show (P.info? e).map (·.size)=some sz from hs)
  rw[hi] at hie;cases hie
  obtain⟨ie,hie,he'⟩:=Option.map_eq_some_iff.1 (show (P.info? e).map (·.bytes)=some bt from hbt)
  rw[hi] at hie;cases hie
  have g3':=zah.1 g3;have g4':=zah.1 g4
  obtain⟨rfl,l1,_⟩:=ha.of_int (c:=3) (by omega) (zaa.1 g1)
  obtain⟨rfl,l2,_⟩:=hb.of_int (c:=3) (by omega) (zaa.1 g2)
  have v1:valI 3 a.p=(a.p:Int):=zbs (by rw[zc5];omega)
  have v2:valI 3 b.p=(b.p:Int):=zbs (by rw[zc5];omega)
  rw[v1,v2]
  have hzsz:zv.cells.size=i.size:=by rw[h1.length] at hzs;rw[he];simpa using hzs
  have hm:=zdw hzsz b.p
  have hbytes:(i.bytes:Int) * (b.p:Int)≤281474976710656:=by
    have:i.bytes * b.p≤1000000 * 100000:=Nat.mul_le_mul (by omega) g4'
    have h':((i.bytes * b.p:Nat):Int)≤281474976710656:=by omega
    rwa [Int.natCast_mul] at h'
  have hrun:=run_make w t e i zv hu hi hzv .i64 .i64 (a.p:Int) (b.p:Int) (by omega) (by omega) hbytes (by omega)
  simp only[Int.toNat_natCast] at hrun
  refine Out.new (o:=.cells (madeCells zv.cells (b.p * i.size)) e) (val:=.slice (some ⟨w.heap.size,0,none⟩) a.p b.p) hr ?_ ?_ hrun hok
  · exact⟨fun _=>⟨(madeCells zv.cells (b.p * i.size)).toList,[],e,by simp,by rw[hm];exact h1.repC b.p,zdE h2 b.p,(fun h=>by cases h),(fun h=>by exact no21 h)⟩,fun h=>by simp[zbt] at h,fun h=>by simp[zbt] at h,no41⟩
  · intro φ' _ h;exact zer h g3' 0
theorem znH{f:Nat}{first cap:List Value}{vs:List AV}(hv:VRs φ vs (first++cap))(hr:HR P w0 H φ w) :
    Out P w0 (fun v w'=>(Instr.makeFunc (.func f) first.toArray cap.toArray).run P w=.ok v w') H φ ((zgj f first.length).run vs H c) c :=
  Out.same hr (.fn f first.length 0 0 vs first cap hv rfl) rfl
theorem Ents.length{kt ck:Nat}{as:List AV}{es:List MapEntry}(h:Ents φ kt ck as es):as.length=es.length:=by
  induction h with
  | nil=>rfl
  | cons _ _ _ _ _ ih=>simp[ih]
theorem zeh{Y:Value→World→Prop}{n:Nat}(hr:HR P w0 H φ w)(hy:Y (goInt n) w)(hok:AllOk (lenK n H c)):Out P w0 Y H φ (lenK n H c) c:=by
  refine Out.bi hok fun h1 _=>?_
  have h1':=zah.1 h1
  have hv:=zck (φ:=φ) (k:=3) (p:=n) (by omega) (by rw[zi7];omega)
  rw[zbs (by rw[zc5];omega)] at hv
  exact Out.same hr hv hy
theorem zhO{X:Type}{enc:TypeId × Value→X}{base:Nat}{spare:Nat→Bool}{held:Bool}{fuel:Nat}{t e:TypeId}{v:Value}{x:DataW X × List MemPlace}(ht:P.underlying t=some (.slice e))
    (h:DataW.trod enc P w base spare held fuel t [v]=some x):v=.slice none 0 0 ∨ ∃ a len cap n elems,fuel=n+1∧v=.slice (some a) len cap∧len≤maxLen ∧
      ((List.range len).mapM fun i=>(w.cells? base (a.add (i * P.cellsOf e)) (P.cellsOf e)).bind (DataW.trod enc P w base spare held n e))=some elems:=by
  cases fuel with
  | zero=>cases h
  | succ n =>
    simp only[DataW.trod,ht] at h
    split at h<;>rename_i h1 h2<;>first | (cases h1;done) | skip
    · simp only[List.cons.injEq,and_true] at h2
      exact .inl h2
    · rename_i e' a len cap
      simp only[Option.some.injEq,TypeDesc.slice.injEq,List.cons.injEq,and_true] at h1 h2
      subst h1 h2
      split at h
      · rename_i hc
        obtain⟨elems,he,_⟩:=Option.bind_eq_some_iff.1 h
        exact .inr ⟨_,_,_,n,elems,rfl,rfl,Nat.le_trans hc.2.1 hc.2.2,he⟩
      · cases h
    all_goals first | (cases h;done) | (simp at h2;done) | (simp at h1;done)
theorem zxW{t ty:TypeId}{tys:Array TypeId}{a:AV}{va:Value}(ht0:tys[0]?=some t)(ha:VR φ a va)(hr:HR P w0 H φ w)(hok:AllOk ((lenC P t).run a H c)) :
    Out P w0 (fun v w'=>(Builtin.len_ tys ty #[va]).run P w=.ok v w') H φ ((lenC P t).run a H c) c:=by
  have h0:(#[va]:Array Value)[0]?=some va:=rfl
  unfold lenC at hok ⊢
  cases ht:(tyB P t).run with
  | none=>rw[ht] at hok;exact (zaY hok).elim
  | some d =>
    rw[ht] at hok
    cases d<;>simp only at hok ⊢
    case string =>
      refine Out.bi hok fun h1 hok=>?_
      obtain⟨l,rfl,_,e⟩:=ha.of_str (zaa.1 h1)
      refine zeh hr ?_ hok
      simp only[Builtin.len_,ht0,h0,Sem.run_bind,zav ht,Result.andThen_ok,e]
      rfl
    case slice e =>
      refine Out.bi2 hok (fun _ hok=>?_) fun _ hok=>zuV ht0 ht ha hr hok
      refine Out.bi2 hok (fun h1 hok=>?_) fun _ hok=>Out.bi2 hok (fun h1 hok=>?_) fun _ hok=>Out.bi hok fun h1 hok=>Out.bi hok fun h2 _=>?_
      · obtain⟨x,cap,rfl,_⟩:=ha.of_sl (zaa.1 h1)
        refine zeh hr ?_ hok
        simp only[Builtin.len_,ht0,h0,Sem.run_bind,zav ht,Result.andThen_ok];rfl
      · have:=ha.isNil h1;simp only at this;subst this
        refine zeh hr ?_ hok
        simp only[Builtin.len_,ht0,h0,Sem.run_bind,zav ht,Result.andThen_ok];rfl
      · obtain⟨⟨_,_,_,hop⟩,_,_⟩:=ha.of_opq (zaa.1 h1)
        obtain⟨h2,h3⟩:=zaw.1 h2
        have hp:a.p=32+t:=zaa.1 h2
        obtain⟨X,enc,spare,held,fuel,x,hx⟩:=hr.op.1 t va (by have:=zah.1 h3;omega) (by rw[← hp];exact hop (by omega))
        rcases zhO ht hx with rfl | ⟨b,len,cap,_,_,_,rfl,_⟩
        · refine Out.same hr (.pos 0 0 0 0 [] 0 (by omega)) ?_
          simp only[Builtin.len_,ht0,h0,Sem.run_bind,zav ht,Result.andThen_ok];rfl
        · refine Out.same hr (.pos 0 0 0 0 [] (len:Int) (by omega)) ?_
          simp only[Builtin.len_,ht0,h0,Sem.run_bind,zav ht,Result.andThen_ok];rfl
    case map k e =>
      refine Out.bi2 hok (fun h1 hok=>Out.bi hok fun hk hok=>?_) fun _ hok=>Out.bi hok fun h1 hok=>?_
      · obtain⟨x,rfl,hx⟩:=ha.of_map (zaa.1 h1)
        obtain⟨_,_,o,ho,hB⟩:=hr.blk _ _ hx
        obtain⟨es,rfl,hes,_⟩:=hB.map (zaa.1 hk)
        refine zeh hr ?_ hok
        simp only[Builtin.len_,ht0,h0,Sem.run_bind,zav ht,Result.andThen_ok]
        rw[zaz,hes.length]
        simp[getObj,Sem.run,ho]
      · have:=ha.isNil h1;simp only at this;subst this
        refine zeh hr ?_ hok
        simp only[Builtin.len_,ht0,h0,Sem.run_bind,zav ht,Result.andThen_ok];rfl
    case array n e =>
      refine zeh hr ?_ hok
      simp only[Builtin.len_,ht0,h0,Sem.run_bind,zav ht,Result.andThen_ok];rfl
    case pointer p =>
      cases hp:(tyB P p).run with
      | none=>rw[hp] at hok;exact (zaY hok).elim
      | some d =>
        rw[hp] at hok
        cases d<;>simp only at hok ⊢
        case array n e =>
          refine zeh hr ?_ hok
          simp only[Builtin.len_,ht0,h0,Sem.run_bind,zav ht,zav hp,Result.andThen_ok];rfl
        all_goals exact (zaY hok).elim
    all_goals exact (zaY hok).elim
theorem zhP{isMax:Bool}{ty:TypeId}{tys:Array TypeId}{k:IntKind}{a b:AV}{va vb:Value}(ha:VR φ a va)(hb:VR φ b vb)(hr:HR P w0 H φ w)(hok:AllOk ((zct isMax (zap k)).run a b H c)) :
    Out P w0 (fun v w'=>(bi isMax (Builtin.max_ tys ty #[va,vb]) (Builtin.min_ tys ty #[va,vb])).run P w=.ok v w') H φ ((zct isMax (zap k)).run a b H c) c:=by
  refine zj8 (zaT k) ha hb hr hok fun p q hp hq e1 e2=>?_
  subst e1 e2
  have hcmp:=zhi (zaT k) hp hq
  cases isMax
  · refine⟨.int (kOf (zap k)) (if valI (zap k) q<valI (zap k) p then valI (zap k) q else valI (zap k) p),by simp[Builtin.min_,Builtin.min2],?_⟩
    simp only[zai]
    cases h:nble (biased (zap k) p) (biased (zap k) q)
    · have:=zaW.1 h
      rw[if_pos (by omega)];exact zck (zaT k) hq
    · have:=zah.1 h
      rw[if_neg (by omega)];exact zck (zaT k) hp
  · refine⟨.int (kOf (zap k)) (if valI (zap k) q > valI (zap k) p then valI (zap k) q else valI (zap k) p),by simp[Builtin.max_,Builtin.max2],?_⟩
    simp only[zag]
    cases h:nble (biased (zap k) p) (biased (zap k) q)
    · have:=zaW.1 h
      rw[if_neg (by omega)];exact zck (zaT k) hp
    · have:=zah.1 h
      by_cases hlt:valI (zap k) q > valI (zap k) p
      · rw[if_pos hlt];exact zck (zaT k) hq
      · rw[if_neg hlt]
        have:valI (zap k) p=valI (zap k) q:=by omega
        rw[this];exact zck (zaT k) hq
theorem zu8{ty:TypeId}{tys:Array TypeId}{k:IntKind}{a b d:AV}{va vb vd:Value}(ha:VR φ a va)(hb:VR φ b vb)(hd:VR φ d vd)(hr:HR P w0 H φ w)(hok:AllOk ((zm0 (zap k)).run a b d H c)) :
    Out P w0 (fun v w'=>(Builtin.min_ tys ty #[va,vb,vd]).run P w=.ok v w') H φ ((zm0 (zap k)).run a b d H c) c:=by
  have h1:Out P w0 (fun v w'=>(bi false (Builtin.max_ tys ty #[va,vb]) (Builtin.min_ tys ty #[va,vb])).run P w=.ok v w') H φ ((zct false (zap k)).run a b H fun H v=>(zct false (zap k)).run v d H c) (fun H v=>(zct false (zap k)).run v d H c):=zhP ha hb hr hok
  obtain⟨H',v,φ',val,w',g1,g2,g3,g4,g5⟩:=h1
  have hok':AllOk ((zct false (zap k)).run v d H' c):=fun x hx=>hok x (g1 x hx)
  obtain⟨H2,v2,φ2,val2,w2,k1,k2,k3,k4,k5⟩:=zhP (P:=P) (ty:=ty) (tys:=tys) g3 (hd.mono g5.keep) g4 hok'
  refine⟨H2,v2,φ2,val2,w2,fun x hx=>g1 x (k1 x hx),?_,k3,k4,g5.trans k5⟩
  simp only[zai,Builtin.min_,List.foldlM_cons,List.foldlM_nil,Sem.run_bind,Sem.run_pure'] at g2 k2 ⊢
  have e1:(Builtin.min2 va vb).run P w=.ok val w':=by
    cases h:(Builtin.min2 va vb).run P w with
    | ok a w=>rw[h] at g2;simpa using g2
    | halt e w=>rw[h] at g2;cases g2
  have e2:(Builtin.min2 val vd).run P w'=.ok val2 w2:=by
    cases h:(Builtin.min2 val vd).run P w' with
    | ok a w=>rw[h] at k2;simpa using k2
    | halt e w=>rw[h] at k2;cases k2
  rw[e1,Result.andThen_ok,e2,Result.andThen_ok]
end Go.Eng
namespace Go.Eng
open Go.RowKit
variable {P:Program} {w0:World} {H:Hp} {φ:Ph} {c:Kont} {w:World}
def LoOK(φ:Ph)(lo:Option Value)(l:AV):Prop:=(lo=none∧l.p=0) ∨ ∃ v,lo=some v∧VR φ l v
def HiOK(φ:Ph)(hi:Option Value)(hasHi:Bool)(h:AV):Prop:=(hi=none∧hasHi=false) ∨ ∃ v,hi=some v∧hasHi=true∧VR φ h v
theorem zcd{a:AV}{v:Value}{n m:Nat}{code:BoundsCode}(ha:VR φ a v)(h:ixOk a n=true)(hm:n≤m):(Instr.sliceBound v m code).run P w=.ok a.p w:=by
  obtain⟨k,rfl,hi⟩:=zgb ha h
  have:(0:Int)≤(a.p:Int)∧(a.p:Int)≤(m:Int):=by omega
  simp only[Instr.sliceBound,asIntOf,Sem.run_bind,Sem.run_pure',Result.andThen_ok,this,and_self,if_true,Int.toNat_natCast]
theorem zcJ{a:AV}{n:Nat}(h:ixOk a n=true):a.p≤n:=by
  unfold ixOk at h
  cases h1:nble a.tag 7
  · rw[h1] at h;cases h
  rw[h1,zag] at h
  cases h2:nble a.p n
  · rw[h2] at h;cases h
  exact zah.1 h2
theorem zdn{isSlice hasHi:Bool}{len cap top:Nat}{lo hi:Option Value}{l h:AV}(hlo:LoOK φ lo l)(hhi:HiOK φ hi hasHi h)(htop:top≤cap)(h1:ixOk (bi hasHi h (mk1 3 len)) top=true)(h2:ixOk l (bi hasHi h (mk1 3 len)).p=true) :
    (Instr.sliceBounds isSlice len cap lo hi none).run P w=.ok (l.p,(bi hasHi h (mk1 3 len)).p,cap) w:=by
  rcases hhi with⟨rfl,rfl⟩ | ⟨v,rfl,rfl,hv⟩
  · rcases hlo with⟨rfl,hp⟩ | ⟨u,rfl,hu⟩
    · simp only[Instr.sliceBounds,Sem.run_bind,Sem.run_pure',Result.andThen_ok,hp];rfl
    · have hb:=zcd (P:=P) (w:=w) (m:=len) (code:=.sliceB) hu h2 (Nat.le_refl _)
      simp only[Instr.sliceBounds,Sem.run_bind,Sem.run_pure',Result.andThen_ok,Option.isSome_none,Bool.false_eq_true,if_false,hb];rfl
  · rw[zag] at h1 h2
    have hb:=zcd (P:=P) (w:=w) (code:=if isSlice then .sliceAcap else .sliceAlen) hv h1 htop
    rcases hlo with⟨rfl,hp⟩ | ⟨u,rfl,hu⟩
    · simp only[Instr.sliceBounds,Sem.run_bind,Sem.run_pure',Result.andThen_ok,hb,hp];rfl
    · have hb':=zcd (P:=P) (w:=w) (m:=h.p) (code:=.sliceB) hu h2 (Nat.le_refl _)
      simp only[Instr.sliceBounds,Sem.run_bind,Sem.run_pure',Result.andThen_ok,hb,Option.isSome_none,Bool.false_eq_true,if_false,hb'];rfl
theorem znI{x o l sz m:Nat}(h:l=0 ∨ l<m):(if m=l then (⟨x,o,none⟩:Addr) else (⟨x,o,none⟩:Addr).add (l * sz))=⟨x,o+l * sz,none⟩:=by
  rcases h with rfl | h
  · rw[Addr.add_mid];split<;>simp
  · rw[if_neg (by omega),Addr.add_mid]
theorem zl3{l m:Nat}(h:bi (nbeq l 0) true (nble (Nat.succ l) m)=true):l=0 ∨ l<m:=by
  cases h1:nbeq l 0
  · rw[h1,zai] at h;exact .inr (zah.1 h)
  · exact .inl (zaa.1 h1)
theorem z0F{x:AV}{b blk off len cap l:Nat}(hx:φ b=some blk)(hs1:capS x.s≤cap)(hs2:isEx x.s=true→cap=capS x.s)(hs3:isEx x.s=false→off=0→cap - l=φ.k blk)(hl:len+l≤capS x.s) :
    VR φ (slV b off len (bi (isEx x.s) (exS (Nat.sub (capS x.s) l)) (lbS (Nat.sub (capS x.s) l)))) (.slice (some ⟨blk,off,none⟩) len (cap - l)):=by
  have e:Nat.sub (capS x.s) l=capS x.s - l:=rfl
  cases h:isEx x.s
  · rw[zai,e]
    have hc:=zl1 (capS x.s - l)
    exact .sl b blk off len (cap - l) _ [] hx (by rw[hc.1];omega) (by rw[hc.1];omega) (fun h=>by rw[hc.2] at h;cases h) (fun _ h0=>hs3 h h0)
  · rw[zag,e,hs2 h]
    exact zer hx (by omega) off
theorem zcV{t e:TypeId}{x:Value}{lo hi mx:Option Value}(ht:(tyB P t).run=some (.slice e)):(Instr.sliceAt t x lo hi mx).run P w=(Instr.slice t x lo hi mx).run P w:=by
  simp only[Instr.sliceAt,Sem.run_bind,zav ht,Result.andThen_ok]
theorem zxX{t e:TypeId}{sz:Nat}{hasHi:Bool}{lo hi:Option Value}{x l h:AV}{vx:Value}(ht:(tyB P t).run=some (.slice e))(hs:(szB P e).run=some sz)(hsz:sz ≠ 0)(hx:VR φ x vx)(hlo:LoOK φ lo l)(hhi:HiOK φ hi hasHi h)(hr:HR P w0 H φ w)
    (hok:AllOk ((cutC sz hasHi).run x l h H c)):Out P w0 (fun v w'=>(Instr.sliceAt t vx lo hi none).run P w=.ok v w') H φ ((cutC sz hasHi).run x l h H c) c:=by
  refine Out.bi2 hok (fun g0 hok=>Out.bi hok fun g1 hok=>Out.bi hok fun g2 hok=>Out.bi hok fun g3 _=>?_) fun _ hok=>Out.bi hok fun g0 hok=>Out.bi hok fun g1 hok=>Out.bi hok fun g2 _=>?_
  · obtain⟨blk,cap,rfl,hb,hr1,hr2,hr3,hr4⟩:=hx.of_sl (zaa.1 g0)
    have hbd:=zdn (P:=P) (w:=w) (isSlice:=true) hlo hhi hr2 g1 g2
    have i1:=zcJ g1;have i2:=zcJ g2
    generalize hh:(bi hasHi h (mk1 3 x.r)).p=hp at *
    have hz:=zl3 g3
    have hval:VR φ (cutV sz x l.p hp (bi (isEx x.s) (exS (Nat.sub (capS x.s) l.p)) (lbS (Nat.sub (capS x.s) l.p)))) (.slice (some ⟨blk,x.q+l.p * sz,none⟩) (hp - l.p) (cap - l.p)) :=
      z0F (b:=x.p) (off:=x.q+l.p * sz) (len:=hp - l.p) hb hr2 hr3 (fun he h0=>by
        have hq:x.q=0:=by omega
        have hl0:l.p * sz=0:=by omega
        have:l.p=0:=(Nat.mul_eq_zero.1 hl0).resolve_right hsz
        rw[this,Nat.sub_zero]
        exact hr4 he hq) (by omega)
    refine Out.same hr hval ?_
    rw[zcV ht]
    simp only[Instr.slice,Sem.run_bind,zav ht,Result.andThen_ok,hbd,zaS hs,Sem.run_pure']
    have:=znI (x:=blk) (o:=x.q) (sz:=sz) (show l.p=0 ∨ l.p<cap by omega)
    congr 2
    by_cases hc:cap=l.p
    · rw[if_pos hc] at this ⊢;rw[this]
    · rw[if_neg hc] at this ⊢;simp only[Option.map_some,this]
  · have hn:=hx.isNil g0
    simp only at hn;subst hn
    have hbd:=zdn (P:=P) (w:=w) (isSlice:=true) (len:=0) (cap:=0) (top:=0) hlo hhi (Nat.le_refl _) g2 (by
      have:=zcJ g2
      have h0:(bi hasHi h (mk1 3 0)).p=0:=by omega
      rw[h0];exact g1)
    have i1:=zcJ g1;have i2:=zcJ g2
    have h0:(bi hasHi h (mk1 3 0)).p=0:=by omega
    have l0:l.p=0:=by omega
    refine Out.same hr hx ?_
    rw[zcV ht]
    simp only[Instr.slice,Sem.run_bind,zav ht,Result.andThen_ok,hbd,zaS hs,Sem.run_pure',h0,l0]
    rfl
theorem zu9{t e:TypeId}{sz:Nat}{lo:Option Value}{x l h m:AV}{vx vh vm:Value}(ht:(tyB P t).run=some (.slice e))(hs:(szB P e).run=some sz)(hx:VR φ x vx)(hlo:LoOK φ lo l)(hh:VR φ h vh)(hm:VR φ m vm)(hr:HR P w0 H φ w)
    (hok:AllOk ((zjM sz).run [x,l,h,m] H c)):Out P w0 (fun v w'=>(Instr.sliceAt t vx lo (some vh) (some vm)).run P w=.ok v w') H φ ((zjM sz).run [x,l,h,m] H c) c:=by
  refine Out.bi hok fun g0 hok=>Out.bi hok fun g1 hok=>Out.bi hok fun g2 hok=>Out.bi hok fun g3 hok=>Out.bi hok fun g4 _=>?_
  change nbeq x.tag 11=true at g0
  change ixOk m (capS x.s)=true at g1
  change ixOk h m.p=true at g2
  change ixOk l h.p=true at g3
  obtain⟨blk,cap,rfl,hb,hr1,hr2,hr3⟩:=hx.of_sl (zaa.1 g0)
  have i1:=zcJ g1;have i2:=zcJ g2;have i3:=zcJ g3
  have hz:=zl3 g4
  change l.p=0 ∨ l.p<m.p at hz
  have b1:=zcd (P:=P) (w:=w) (code:=.slice3Acap) hm g1 hr2
  have b2:=zcd (P:=P) (w:=w) (code:=.slice3B) hh g2 (Nat.le_refl _)
  have hbd:(Instr.sliceBounds true x.r cap lo (some vh) (some vm)).run P w=.ok (l.p,h.p,m.p) w:=by
    rcases hlo with⟨rfl,hp⟩ | ⟨u,rfl,hu⟩
    · simp only[Instr.sliceBounds,Sem.run_bind,Sem.run_pure',Result.andThen_ok,b1,b2,if_true,hp]
    · have hb':=zcd (P:=P) (w:=w) (m:=h.p) (code:=.slice3C) hu g3 (Nat.le_refl _)
      simp only[Instr.sliceBounds,Sem.run_bind,Sem.run_pure',Result.andThen_ok,b1,b2,if_true,Option.isSome_some,hb']
  have e:Nat.sub m.p l.p=m.p - l.p:=rfl
  have e':Nat.sub h.p l.p=h.p - l.p:=rfl
  have hval:VR φ (cutV sz x l.p h.p (exS (Nat.sub m.p l.p))) (.slice (some ⟨blk,x.q+l.p * sz,none⟩) (h.p - l.p) (m.p - l.p)):=by
    unfold cutV;rw[e,e']
    exact zer hb (by omega) _
  refine Out.same hr hval ?_
  rw[zcV ht]
  simp only[Instr.slice,Sem.run_bind,zav ht,Result.andThen_ok,hbd,zaS hs,Sem.run_pure']
  have:=znI (x:=blk) (o:=x.q) (sz:=sz) hz
  congr 2
  by_cases hc:m.p=l.p
  · rw[if_pos hc] at this ⊢;rw[this]
  · rw[if_neg hc] at this ⊢;simp only[Option.map_some,this]
theorem zqK{t e:TypeId}{n sz:Nat}{hasHi:Bool}{lo hi:Option Value}{x l h:AV}{vx:Value}(ht:(tyB P t).run=some (.array n e))(hs:(szB P e).run=some sz)(hx:VR φ x vx)(hlo:LoOK φ lo l)(hhi:HiOK φ hi hasHi h)(hr:HR P w0 H φ w)
    (hok:AllOk ((zgO n sz hasHi).run x l h H c)):Out P w0 (fun v w'=>(Instr.sliceAt t vx lo hi none).run P w=.ok v w') H φ ((zgO n sz hasHi).run x l h H c) c:=by
  refine Out.bi hok fun g0 hok=>Out.bi hok fun g1 hok=>Out.bi hok fun g2 hok=>Out.bi hok fun g3 _=>?_
  obtain⟨blk,rfl,hb⟩:=hx.of_ptr (zaa.1 g0)
  have hbd:=zdn (P:=P) (w:=w) (isSlice:=false) hlo hhi (Nat.le_refl n) g1 g2
  have i1:=zcJ g1;have i2:=zcJ g2
  generalize hh:(bi hasHi h (mk1 3 n)).p=hp at *
  have hz:=zl3 g3
  have e:Nat.sub n l.p=n - l.p:=rfl
  have e':Nat.sub hp l.p=hp - l.p:=rfl
  have hval:VR φ (cutV sz x l.p hp (exS (Nat.sub n l.p))) (.slice (some ⟨blk,x.q+l.p * sz,none⟩) (hp - l.p) (n - l.p)):=by
    unfold cutV;rw[e,e']
    exact zer hb (by omega) _
  refine Out.same hr hval ?_
  simp only[Instr.sliceAt,Sem.run_bind,zav ht,Result.andThen_ok,Instr.sureAddr,hbd,zaS hs,Sem.run_pure',znI hz]
theorem zsY(bs:List UInt8)(l h:Nat)(h1:l≤h)(h2:h≤bs.length):zaJ bs / 256 ^ (bs.length - h) % 256 ^ (h - l)=zaJ ((bs.take h).drop l):=by
  have e1:bs=bs.take h++bs.drop h:=(List.take_append_drop h bs).symm
  have hpos:∀ n,0<256 ^ n:=fun n=>Nat.pow_pos (by omega)
  have l1:(bs.drop h).length=bs.length - h:=List.length_drop
  have l2:(bs.take h).length=h:=by rw[List.length_take];omega
  have d1:zaJ bs / 256 ^ (bs.length - h)=zaJ (bs.take h):=by
    have:=congrArg zaJ e1
    rw[zfr,l1] at this
    have hlt:=zdA (bs.drop h)
    rw[l1] at hlt
    rw[this,Nat.mul_comm,Nat.mul_add_div (hpos _),Nat.div_eq_of_lt hlt,Nat.add_zero]
  rw[d1]
  have e2:bs.take h=(bs.take h).take l++(bs.take h).drop l:=(List.take_append_drop l _).symm
  have l3:((bs.take h).drop l).length=h - l:=by rw[List.length_drop,l2]
  have:=congrArg zaJ e2
  rw[zfr,l3] at this
  have hlt:=zdA ((bs.take h).drop l)
  rw[l3] at hlt
  rw[this,Nat.mul_comm,Nat.mul_add_mod,Nat.mod_eq_of_lt hlt]
theorem zqL{t:TypeId}{hasHi:Bool}{lo hi:Option Value}{x l h:AV}{vx:Value}(ht:(tyB P t).run=some .string)(hx:VR φ x vx)(hlo:LoOK φ lo l)(hhi:HiOK φ hi hasHi h)(hr:HR P w0 H φ w)
    (hok:AllOk ((zgP hasHi).run x l h H c)):Out P w0 (fun v w'=>(Instr.sliceAt t vx lo hi none).run P w=.ok v w') H φ ((zgP hasHi).run x l h H c) c:=by
  refine Out.bi hok fun g0 hok=>Out.bi hok fun g1 hok=>Out.bi hok fun g2 _=>?_
  obtain⟨bs,rfl,e1,e2⟩:=hx.of_str (zaa.1 g0)
  have hbd:=zdn (P:=P) (w:=w) (isSlice:=false) (len:=x.q) (cap:=bs.length) hlo hhi (by omega) g1 g2
  have i1:=zcJ g1;have i2:=zcJ g2
  generalize hh:(bi hasHi h (mk1 3 x.q)).p=hp at *
  have hcut:=zsY bs l.p hp i2 (by omega)
  have hval:VR φ (zrg x l.p hp) (.string ⟨((bs.take hp).drop l.p).toArray⟩):=by
    have:=zi9 (φ:=φ) ((bs.take hp).drop l.p)
    rw[← hcut,← e1,← e2,List.length_drop,List.length_take,Nat.min_eq_left (by omega)] at this
    exact this
  refine Out.same hr hval ?_
  have hsz:(⟨bs.toArray⟩:ByteArray).size=bs.length:=by simp[ByteArray.size]
  have hex:(⟨bs.toArray⟩:ByteArray).extract l.p hp=⟨((bs.take hp).drop l.p).toArray⟩:=by
    apply ByteArray.ext
    simp[ByteArray.data_extract,List.extract_eq_take_drop,List.drop_take]
  have hat:(Instr.sliceAt t (.string ⟨bs.toArray⟩) lo hi none).run P w=(Instr.slice t (.string ⟨bs.toArray⟩) lo hi none).run P w:=by
    simp only[Instr.sliceAt,Sem.run_bind,zav ht,Result.andThen_ok]
  rw[e2] at hbd
  rw[hat]
  simp only[Instr.slice,Sem.run_bind,zav ht,Result.andThen_ok,hsz,hbd,Option.isSome_none,Bool.false_eq_true,if_false,Sem.run_pure',hex]
end Go.Eng
