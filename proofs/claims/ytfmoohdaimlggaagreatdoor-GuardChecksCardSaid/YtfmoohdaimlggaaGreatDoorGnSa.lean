/- A part of the proof that the evaluator in GnC, and the driver in GnZ, answer as the model does; no conditions. -/
import Derived.Test.YtfmoohdaimlggaaGreatDoorGnC
import Derived.Below
import Derived.Laws.CopyRow
import Derived.Laws.Cells
import Derived.Maps.AppendAt
import Derived.Scope
import Derived.Orders
import GoSem.ClaimChange
import Derived.Laws.Strings
import Derived.Laws.Concat
import Derived.Laws.BytesString
namespace Go.Eng
@[simp] theorem zag{α:Type}(x y:α):bi true x y=x:=rfl
@[simp] theorem zai{α:Type}(x y:α):bi false x y=y:=rfl
@[simp] theorem zan{α β:Type}(a:α)(n:β)(f:α→β):om (some a) n f=f a:=rfl
@[simp] theorem zfD{α β:Type}(n:β)(f:α→β):om none n f=n:=rfl
@[simp] theorem zaV{α:Type}(x y:List α):appL x y=x++y:=by
  induction x with
  | nil=>rfl
  | cons a x ih=>exact congrArg (a::·) ih
theorem zxA{α β:Type}(f:α→List β):fmL [] f=[]:=rfl
theorem zur{α β:Type}(a:α)(l:List α)(f:α→List β):fmL (a::l) f=f a++fmL l f:=by
  cases l with
  | nil=>show f a=f a++[];simp
  | cons b l=>exact zaV (f a) (fmL (b::l) f)
theorem zdg{α β:Type}{l:List α}{f:α→List β}{y:β}:y ∈ fmL l f ↔ ∃ a ∈ l,y ∈ f a:=by
  induction l with
  | nil=>simp[zxA]
  | cons a l ih=>simp[zur,ih]
theorem zaz{α:Type}(l:List α):lenL l=l.length:=by
  induction l with
  | nil=>rfl
  | cons a l ih=>exact congrArg Nat.succ ih
theorem zbB{α:Type}(l:List α)(n:Nat):zbJ l n=l.drop n:=by
  induction n generalizing l with
  | zero=>rfl
  | succ n ih=>cases l with
    | nil=>rfl
    | cons a l=>exact ih l
theorem zbL{α:Type}{l x:List α}{n:Nat}(h:zcy l n=some x):n≤l.length∧x=l.take n:=by
  induction n generalizing l x with
  | zero=>cases h;exact⟨Nat.zero_le _,rfl⟩
  | succ n ih=>cases l with
    | nil=>cases h
    | cons a l =>
      change om (zcy l n) none (fun x=>some (a::x))=some x at h
      cases ht:zcy l n with
      | none=>rw[ht] at h;cases h
      | some y =>
        rw[ht] at h
        obtain⟨h1,rfl⟩:=ih ht
        cases h
        exact⟨by simpa using h1,rfl⟩
theorem zcG(l:List AV)(n:Nat):nthL l n=(l[n]?).getD unkV:=by
  induction n generalizing l with
  | zero=>cases l<;>rfl
  | succ n ih=>cases l with
    | nil=>rfl
    | cons a l =>
      show nthL l n=_
      rw[ih l];simp
theorem zsB{new cs x:List AV}(h:over new cs=some x):new.length≤cs.length∧x=new++cs.drop new.length:=by
  induction new generalizing cs x with
  | nil=>cases h;exact⟨Nat.zero_le _,rfl⟩
  | cons a new ih=>cases cs with
    | nil=>cases h
    | cons c cs =>
      change om (over new cs) none (fun r=>some (a::r))=some x at h
      cases ht:over new cs with
      | none=>rw[ht] at h;cases h
      | some y =>
        rw[ht] at h
        obtain⟨h1,rfl⟩:=ih ht
        cases h
        exact⟨by simpa using h1,rfl⟩
theorem zi3{off:Nat}{new cs x:List AV}(h:putC off new cs=some x):off+new.length≤cs.length∧x=cs.take off++new++cs.drop (off+new.length):=by
  induction off generalizing cs x with
  | zero =>
    obtain⟨h1,rfl⟩:=zsB (show over new cs=some x from h)
    exact⟨by simpa using h1,by simp⟩
  | succ n ih=>cases cs with
    | nil=>cases h
    | cons c cs =>
      change om (putC n new cs) none (fun r=>some (c::r))=some x at h
      cases ht:putC n new cs with
      | none=>rw[ht] at h;cases h
      | some y =>
        rw[ht] at h
        obtain⟨h1,rfl⟩:=ih ht
        cases h
        refine⟨by simp;omega,?_⟩
        have:n+1+new.length=(n+new.length)+1:=by omega
        simp[this]
theorem zcH{α:Type}(f:α→Bool)(l:List α):allL f l=l.all f:=by
  induction l with
  | nil=>rfl
  | cons a l ih =>
    show bi (f a) (allL f l) false=_
    rw[ih]
    cases h:f a<;>simp[h]
theorem zcR{α:Type}(t:Nd α)(x:α)(i j:Nat)(hi:i<8)(hj:j<8):(get1 j).run ((set1 i).run t x)=if i=j then x else (get1 j).run t:=by
  match i,hi,j,hj with
  | 0,_,0,_ | 0,_,1,_ | 0,_,2,_ | 0,_,3,_ | 0,_,4,_ | 0,_,5,_ | 0,_,6,_ | 0,_,7,_=>rfl
  | 1,_,0,_ | 1,_,1,_ | 1,_,2,_ | 1,_,3,_ | 1,_,4,_ | 1,_,5,_ | 1,_,6,_ | 1,_,7,_=>rfl
  | 2,_,0,_ | 2,_,1,_ | 2,_,2,_ | 2,_,3,_ | 2,_,4,_ | 2,_,5,_ | 2,_,6,_ | 2,_,7,_=>rfl
  | 3,_,0,_ | 3,_,1,_ | 3,_,2,_ | 3,_,3,_ | 3,_,4,_ | 3,_,5,_ | 3,_,6,_ | 3,_,7,_=>rfl
  | 4,_,0,_ | 4,_,1,_ | 4,_,2,_ | 4,_,3,_ | 4,_,4,_ | 4,_,5,_ | 4,_,6,_ | 4,_,7,_=>rfl
  | 5,_,0,_ | 5,_,1,_ | 5,_,2,_ | 5,_,3,_ | 5,_,4,_ | 5,_,5,_ | 5,_,6,_ | 5,_,7,_=>rfl
  | 6,_,0,_ | 6,_,1,_ | 6,_,2,_ | 6,_,3,_ | 6,_,4,_ | 6,_,5,_ | 6,_,6,_ | 6,_,7,_=>rfl
  | 7,_,0,_ | 7,_,1,_ | 7,_,2,_ | 7,_,3,_ | 7,_,4,_ | 7,_,5,_ | 7,_,6,_ | 7,_,7,_=>rfl
theorem zah{a b:Nat}:nble a b=true ↔ a≤b:=by rw[ziM,Nat.ble_eq]
theorem zaW{a b:Nat}:nble a b=false ↔ b<a:=by
  rw[← Bool.not_eq_true,zah];omega
theorem zaa{a b:Nat}:nbeq a b=true ↔ a=b:=by rw[ziL];exact⟨Nat.eq_of_beq_eq_true,fun h=>by subst h;exact Nat.beq_refl a⟩
@[simp] theorem zfl(a:Nat):nbeq a a=true:=zaa.2 rfl
theorem zi4{a b:Nat}:Nat.ble a b=true ↔ a≤b:=by rw[Nat.ble_eq]
theorem zk4{a b:Nat}:Nat.ble a b=false ↔ b<a:=by
  rw[← Bool.not_eq_true,zi4];omega
theorem zdl{i:Nat}(h:511≤i)(T:Fr):(getB i).run T=unkV:=by
  unfold getB;rw[zi4.2 h];rfl
theorem zcS{i:Nat}(h:i<511)(T:Fr):(getB i).run T=(get1 (d0 i)).run ((get1 (d1 i)).run ((get1 (d2 i)).run T)):=by
  unfold getB;rw[zk4.2 h];rfl
theorem zk5{i:Nat}(h:i<511)(T:Fr)(x:AV):(setB i).run T x=(set1 (d2 i)).run T ((set1 (d1 i)).run ((get1 (d2 i)).run T) ((set1 (d0 i)).run ((get1 (d1 i)).run ((get1 (d2 i)).run T)) x)):=by
  unfold setB;rw[zk4.2 h];rfl
theorem zn3{i:Nat}(h:511≤i)(T:Fr)(x:AV):(setB i).run T x=T:=by
  unfold setB;rw[zi4.2 h];rfl
theorem zmJ(i:Nat):d0 i<8:=Nat.mod_lt _ (by omega)
theorem zmK(i:Nat):d1 i<8:=Nat.mod_lt _ (by omega)
theorem zmL{i:Nat}(h:i<511):d2 i<8:=by show i / 64<8;omega
theorem zqE{i j:Nat}(h0:d0 i=d0 j)(h1:d1 i=d1 j)(h2:d2 i=d2 j):i=j:=by
  change i % 8=j % 8 at h0;change i / 8 % 8=j / 8 % 8 at h1;change i / 64=j / 64 at h2;omega
theorem zbr(i j:Nat)(T:Fr)(x:AV):(getB j).run ((setB i).run T x)=if i=j∧i<511 then x else (getB j).run T:=by
  by_cases hi:i<511
  · by_cases hj:j<511
    · rw[zcS hj,zk5 hi,zcR _ _ _ _ (zmL hi) (zmL hj)]
      by_cases h2:d2 i=d2 j
      · rw[if_pos h2,zcR _ _ _ _ (zmK i) (zmK j)]
        by_cases h1:d1 i=d1 j
        · rw[if_pos h1,zcR _ _ _ _ (zmJ i) (zmJ j)]
          by_cases h0:d0 i=d0 j
          · rw[if_pos h0,if_pos ⟨zqE h0 h1 h2,hi⟩]
          · rw[if_neg h0,if_neg (fun h=>h0 (by rw[h.1])),zcS hj,h1,h2]
        · rw[if_neg h1,if_neg (fun h=>h1 (by rw[h.1])),zcS hj,h2]
      · rw[if_neg h2,if_neg (fun h=>h2 (by rw[h.1])),zcS hj]
    · rw[zdl (by omega),zdl (by omega),if_neg (by omega)]
  · rw[zn3 (by omega),if_neg (by omega)]
theorem zsC(i:Nat)(h:i<511):(getB i).run noFr=udV:=by
  rw[zcS h]
  have key:∀ {α:Type} (x:α) (j:Nat),(get1 j).run (zcL x)=x:=by
    intro α x j
    unfold get1 zcL
    split<;>rfl
  unfold noFr
  rw[key,key,key]
theorem zlQ{i:Nat}(hi:i<511)(T:Fr)(x:AV):(getB i).run ((set1 7).run T ((set1 7).run ((get1 7).run T) ((set1 7).run ((get1 7).run ((get1 7).run T)) x)))=(getB i).run T:=by
  rw[zcS hi,zcS hi,zcR _ _ _ _ (by omega) (zmL hi)]
  by_cases h2:7=d2 i
  · rw[if_pos h2,zcR _ _ _ _ (by omega) (zmK i),← h2]
    by_cases h1:7=d1 i
    · rw[if_pos h1,zcR _ _ _ _ (by omega) (zmJ i),← h1]
      rw[if_neg]
      intro h0
      have e:511=i:=zqE (show d0 511=d0 i from h0) (show d1 511=d1 i from h1) (show d2 511=d2 i from h2)
      omega
    · rw[if_neg h1]
  · rw[if_neg h2]
theorem zfR(i:Nat)(T:Fr)(b:Nat):(getB i).run (zcF T b)=(getB i).run T:=by
  by_cases hi:i<511
  · exact zlQ hi T _
  · rw[zdl (by omega),zdl (by omega)]
theorem zlR(i:Nat)(T:Fr):(getB i).run (noMk T)=(getB i).run T:=by
  by_cases hi:i<511
  · exact zlQ hi T _
  · rw[zdl (by omega),zdl (by omega)]
theorem zlq(T:Fr)(b:Nat):zaK (zcF T b)=mk1 3 b::zaK T:=rfl
theorem zjw(T:Fr):zaK (noMk T)=[]:=rfl
theorem zb1(i:Nat)(T:Fr)(x:AV):zaK ((setB i).run T x)=zaK T:=by
  by_cases hi:i<511
  · rw[zk5 hi]
    unfold zaK
    rw[zcR _ _ _ _ (zmL hi) (by omega)]
    by_cases h2:d2 i=7
    · rw[if_pos h2,zcR _ _ _ _ (zmK i) (by omega),h2]
      by_cases h1:d1 i=7
      · rw[if_pos h1,zcR _ _ _ _ (zmJ i) (by omega),h1]
        rw[if_neg]
        intro h0
        have e:i=511:=zqE (show d0 i=d0 511 from h0) (show d1 i=d1 511 from h1) (show d2 i=d2 511 from h2)
        omega
      · rw[if_neg h1]
    · rw[if_neg h2]
  · rw[zn3 (by omega)]
theorem zi5{α:Type}(f:α→AV)(g:AV→α)(h:∀ x,g (f x)=x)(t:Nd α):decN g (encN f t)=t:=by
  show (⟨g (f t.a),g (f t.b),g (f t.c),g (f t.d),g (f t.e),g (f t.f),g (f t.g),g (f t.h)⟩:Nd α)=t
  simp only[h]
theorem zi6(T:Fr):decF (encF T)=T:=zi5 _ _ (zi5 _ _ (zi5 _ _ fun _=>rfl)) T
def b3(j:Nat):Bool × Bool × Bool:=(Nat.beq (Nat.land j 1) 0,Nat.beq (Nat.land j 2) 0,Nat.beq (Nat.land j 4) 0)
theorem zfm{α:Type}(t:Nd α)(x:α)(i j:Nat):dsel (dset t i x) j=if b3 i=b3 j then x else dsel t j:=by
  unfold dsel dset b3
  cases Nat.beq (Nat.land i 1) 0<;>cases Nat.beq (Nat.land i 2) 0<;>cases Nat.beq (Nat.land i 4) 0 <;>
    cases Nat.beq (Nat.land j 1) 0<;>cases Nat.beq (Nat.land j 2) 0<;>cases Nat.beq (Nat.land j 4) 0<;>rfl
theorem zeL(j m:Nat):Nat.beq (Nat.land j (2 ^ m)) 0=!j.testBit m:=by
  have h:Nat.land j (2 ^ m)=j &&& 2 ^ m:=rfl
  rw[h]
  have hb:∀ i,(j &&& 2 ^ m).testBit i=(j.testBit i && decide (m=i)):=by
    intro i;rw[Nat.testBit_and,Nat.testBit_two_pow]
  cases hj:j.testBit m
  · have:j &&& 2 ^ m=0:=by
      apply Nat.eq_of_testBit_eq
      intro i
      rw[hb,Nat.zero_testBit]
      by_cases hm:m=i
      · subst hm;simp[hj]
      · simp[hm]
    rw[this];rfl
  · have:j &&& 2 ^ m ≠ 0:=by
      intro h0
      have:=hb m
      rw[h0,Nat.zero_testBit,hj] at this
      simp at this
    cases he:Nat.beq (j &&& 2 ^ m) 0
    · rfl
    · exact absurd (Nat.eq_of_beq_eq_true he) this
theorem z3r{i j:Nat}:b3 i=b3 j ↔ ∀ m<3,i.testBit m=j.testBit m:=by
  unfold b3
  have h1:=zeL i 0;have h2:=zeL i 1;have h4:=zeL i 2
  have g1:=zeL j 0;have g2:=zeL j 1;have g4:=zeL j 2
  simp only[Nat.pow_zero,Nat.pow_one,show (2:Nat)^2=4 from rfl] at h1 h2 h4 g1 g2 g4
  rw[h1,h2,h4,g1,g2,g4]
  constructor
  · intro h m hm
    simp only[Prod.mk.injEq] at h
    obtain⟨a,b,c⟩:=h
    match m,hm with
    | 0,_=>simpa using a
    | 1,_=>simpa using b
    | 2,_=>simpa using c
  · intro h
    rw[h 0 (by omega),h 1 (by omega),h 2 (by omega)]
theorem z06(i k m:Nat):(sh i k).testBit m=i.testBit (k+m):=by
  show (i >>> k).testBit m=_
  rw[Nat.testBit_shiftRight]
theorem zjx{i j:Nat}(hi:i<32768)(hj:j<32768)(t:HT)(b:AB):htget (htset t i b) j=if i=j then b else htget t j:=by
  unfold htget htset
  rw[zfm]
  by_cases h12:b3 (sh i 12)=b3 (sh j 12)
  · rw[if_pos h12,zfm]
    have key:∀ {α:Type} (t:Nd α) (a b:Nat),b3 a=b3 b→dsel t a=dsel t b:=by
      intro α t a b h
      simp only[b3,Prod.mk.injEq] at h
      unfold dsel
      rw[h.1,h.2.1,h.2.2]
    by_cases h9:b3 (sh i 9)=b3 (sh j 9)
    · rw[if_pos h9,zfm]
      by_cases h6:b3 (sh i 6)=b3 (sh j 6)
      · rw[if_pos h6,zfm]
        by_cases h3:b3 (sh i 3)=b3 (sh j 3)
        · rw[if_pos h3,zfm]
          by_cases h0:b3 i=b3 j
          · rw[if_pos h0]
            have:i=j:=by
              rw[z3r] at h0 h3 h6 h9 h12
              simp only[z06] at h3 h6 h9 h12
              apply Nat.eq_of_testBit_eq
              intro m
              by_cases hm:m<15
              · rcases (by omega:m<3 ∨ (3≤m∧m<6) ∨ (6≤m∧m<9) ∨ (9≤m∧m<12) ∨ (12≤m∧m<15)) with h | h | h | h | h
                · exact h0 m h
                · have:=h3 (m - 3) (by omega);rwa [show 3+(m - 3)=m by omega] at this
                · have:=h6 (m - 6) (by omega);rwa [show 6+(m - 6)=m by omega] at this
                · have:=h9 (m - 9) (by omega);rwa [show 9+(m - 9)=m by omega] at this
                · have:=h12 (m - 12) (by omega);rwa [show 12+(m - 12)=m by omega] at this
              · have hp:(2:Nat) ^ 15≤2 ^ m:=Nat.pow_le_pow_right (by omega) (by omega)
                rw[Nat.testBit_lt_two_pow (by omega),Nat.testBit_lt_two_pow (by omega)]
            rw[if_pos this]
          · rw[if_neg h0,if_neg (fun h=>h0 (by rw[h])),key _ _ _ h12,key _ _ _ h9,key _ _ _ h6,key _ _ _ h3]
        · rw[if_neg h3,if_neg (fun h=>h3 (by rw[h])),key _ _ _ h12,key _ _ _ h9,key _ _ _ h6]
      · rw[if_neg h6,if_neg (fun h=>h6 (by rw[h])),key _ _ _ h12,key _ _ _ h9]
    · rw[if_neg h9,if_neg (fun h=>h9 (by rw[h])),key _ _ _ h12]
  · rw[if_neg h12,if_neg (fun h=>h12 (by rw[h]))]
theorem zhg(H:Hp)(i:Nat):hget H i=htget H.t i:=zbI _ i
theorem zxB(H:Hp)(i:Nat)(b:AB):hset H i b=⟨htset H.t i b,H.n,H.lim⟩:=by unfold hset;rw[zbI]
theorem zoM(H:Hp)(b:AB):hnew H b=⟨htset H.t H.n b,H.n+1,H.lim⟩:=by unfold hnew;rw[zbI,zbI]
theorem zcA(H:Hp)(b:AB):(hnew H b).n=H.n+1:=by rw[zoM]
theorem zaM{H:Hp}{i j:Nat}(hi:i<32768)(hj:j<32768)(b:AB):hget (hset H i b) j=if i=j then b else hget H j:=by rw[zxB,zhg,zhg];exact zjx hi hj _ b
theorem zaD{H:Hp}{j:Nat}(hi:H.n<32768)(hj:j<32768)(b:AB):hget (hnew H b) j=if H.n=j then b else hget H j:=by rw[zoM,zhg,zhg];exact zjx hi hj _ b
theorem zj5(i:Nat):hget noH i=noB:=by
  have key:∀ {α:Type} (x:α) (j:Nat),dsel (zcL x) j=x:=by
    intro α x j
    unfold dsel zcL
    cases Nat.beq (Nat.land j 1) 0<;>cases Nat.beq (Nat.land j 2) 0<;>cases Nat.beq (Nat.land j 4) 0<;>rfl
  rw[zhg]
  unfold htget noH
  rw[key,key,key,key,key]
end Go.Eng
namespace Go.Eng
open Go.RowKit
structure Ph where
  f:Nat→Option Nat
  k:Nat→Nat
  op:Nat→Value→Prop
  fz:Nat→Option (List Value)
  tl:Nat→Nat
instance:CoeFun Ph (fun _=>Nat→Option Nat):=⟨Ph.f⟩
structure Le(φ φ':Ph):Prop where
  map:∀ b x,φ b=some x→φ' b=some x∧φ'.k x=φ.k x
  op:φ'.op=φ.op
  fz:∀ x C,φ.fz x=some C→φ'.fz x=some C
  tl:∀ b x,φ b=some x→φ'.tl b=φ.tl b
instance {φ φ':Ph}:CoeFun (Le φ φ') (fun _=>∀ b x,φ b=some x→φ' b=some x∧φ'.k x=φ.k x):=⟨Le.map⟩
theorem Le.refl(φ:Ph):Le φ φ:=⟨fun _ _ h=>⟨h,rfl⟩,rfl,fun _ _ h=>h,fun _ _ _=>rfl⟩
theorem Le.trans{φ φ' φ'':Ph}(h:Le φ φ')(k:Le φ' φ''):Le φ φ'':=⟨fun b x e =>
  have h1:=h b x e
  have h2:=k b x h1.1
  ⟨h2.1,h2.2.trans h1.2⟩,k.op.trans h.op,fun x C hx=>k.fz x C (h.fz x C hx),fun b x hb=>(k.tl b x (h b x hb).1).trans (h.tl b x hb)⟩
def kOf:Nat→IntKind
  | 0=>.i8 | 1=>.i16 | 2=>.i32 | 3=>.i64 | 4=>.u8 | 5=>.u16 | 6=>.u32 | _=>.u64
noncomputable def valI(c p:Nat):Int:=if zbb c p then (p:Int) - kMod c else p
def OpS(φ:Ph)(p:Nat)(v:Value):Prop:=(p=1→∃ b,v=.bool b)∧(2≤p→p<10→∃ n,v=.int (kOf (p - 2)) n)∧(p=10→∃ s,v=.string s)∧(32≤p→φ.op p v)
theorem OpS.mono{φ φ':Ph}(h:φ'.op=φ.op){p:Nat}{v:Value}(k:OpS φ p v):OpS φ' p v:=⟨k.1,k.2.1,k.2.2.1,by rw[h];exact k.2.2.2⟩
mutual
inductive FZ(z:Nat→Option (List Value)):AV→Value→Prop
  | int (c p r s:Nat) (cs:List AV):c<8→p<kMod c→FZ z ⟨c,p,0,r,s,cs⟩ (.int (kOf c) (valI c p))
  | bool (b:Bool) (r s:Nat) (cs:List AV):FZ z ⟨8,bi b 1 0,0,r,s,cs⟩ (.bool b)
  | str (l:List UInt8) (r s:Nat) (cs:List AV):FZ z ⟨9,zaJ l,l.length,r,s,cs⟩ (.string ⟨l.toArray⟩)
  | nilp (q r s:Nat) (cs:List AV):FZ z ⟨17,0,q,r,s,cs⟩ (.pointer none)
  | nilm (q r s:Nat) (cs:List AV):FZ z ⟨17,2,q,r,s,cs⟩ (.map none)
  | nilf (q r s:Nat) (cs:List AV):FZ z ⟨17,3,q,r,s,cs⟩ .nilFunc
  | nils (q r s:Nat):FZ z ⟨24,0,q,r,s,[]⟩ (.slice none 0 0)
  | empty (q r:Nat) (a:Addr) (cap:Nat):FZ z ⟨24,1,q,r,0,[]⟩ (.slice (some a) 0 cap)
  | done (q r s:Nat) (a:Addr):FZ z ⟨24,1,q,r,s,[]⟩ (.slice (some a) 0 0)
  | sl (q r s:Nat) (cs:List AV) (x off cap:Nat) (C l:List Value):z x=some C→FZs z (zba cs) l→(∀ c ∈ cs,zaO c=true∧(cellsOf c).length=r)→cs.length≤cap→(s=1→cap=cs.length)→cs.length<2 ^ 63 →
      (C.drop off).take l.length=l→0<cs.length→FZ z ⟨24,1,q,r,s,cs⟩ (.slice (some ⟨x,off,none⟩) cs.length cap)
  | ptr (q r s x off:Nat) (e:AV) (C l:List Value):z x=some C→FZs z (cellsOf e) l→zaO e=true→(C.drop off).take l.length=l→FZ z ⟨26,0,q,r,s,[e]⟩ (.pointer (some ⟨x,off+q,none⟩))
inductive FZs(z:Nat→Option (List Value)):List AV→List Value→Prop
  | nil:FZs z [] []
  | cons {a:AV} {v:Value} {as:List AV} {vs:List Value}:FZ z a v→FZs z as vs→FZs z (a::as) (v::vs)
end
theorem FZ.both{z z':Nat→Option (List Value)}(hz:∀ x C,z x=some C→z' x=some C):(∀ {a v},FZ z a v→FZ z' a v)∧(∀ {as vs},FZs z as vs→FZs z' as vs):=by
  have key:∀ {a v} (_:FZ z a v),FZ z' a v:=fun {a v} h=>FZ.rec (motive_1:=fun a v _=>FZ z' a v) (motive_2:=fun as vs _=>FZs z' as vs)
    (fun c p r s cs h1 h2=>.int c p r s cs h1 h2) (fun b r s cs=>.bool b r s cs) (fun l r s cs=>.str l r s cs)
    (fun q r s cs=>.nilp q r s cs) (fun q r s cs=>.nilm q r s cs) (fun q r s cs=>.nilf q r s cs) (fun q r s=>.nils q r s) (fun q r a cap=>.empty q r a cap) (fun q r s a=>.done q r s a)
    (fun q r s cs x off cap C l h1 _ h3 h4 h5 h6 h7 h8 ih=>.sl q r s cs x off cap C l (hz _ _ h1) ih h3 h4 h5 h6 h7 h8)
    (fun q r s x off e C l h1 _ h3 h4 ih=>.ptr q r s x off e C l (hz _ _ h1) ih h3 h4) .nil (fun _ _ i1 i2=>.cons i1 i2) h
  refine⟨key,?_⟩
  intro as
  induction as with
  | nil=>intro vs h;cases h;exact .nil
  | cons a as ih=>intro vs h;cases h with | cons h1 h2=>exact .cons (key h1) (ih h2)
theorem FZ.mono{z z':Nat→Option (List Value)}(hz:∀ x C,z x=some C→z' x=some C){a:AV}{v:Value}(h:FZ z a v):FZ z' a v:=(FZ.both hz).1 h
theorem FZs.mono{z z':Nat→Option (List Value)}(hz:∀ x C,z x=some C→z' x=some C){as:List AV}{vs:List Value}(h:FZs z as vs):FZs z' as vs:=(FZ.both hz).2 h
mutual
inductive VR(φ:Ph):AV→Value→Prop
  | int (c p r s:Nat) (cs:List AV):c<8→p<kMod c→VR φ ⟨c,p,0,r,s,cs⟩ (.int (kOf c) (valI c p))
  | bool (b:Bool) (r s:Nat) (cs:List AV):VR φ ⟨8,bi b 1 0,0,r,s,cs⟩ (.bool b)
  | str (l:List UInt8) (r s:Nat) (cs:List AV):VR φ ⟨9,zaJ l,l.length,r,s,cs⟩ (.string ⟨l.toArray⟩)
  | ptr (b x off r s:Nat) (cs:List AV):φ b=some x→VR φ ⟨10,b,off,r,s,cs⟩ (.pointer (some ⟨x,off,none⟩))
  | sl (b x off len cap s:Nat) (cs:List AV):φ b=some x→len≤capS s→capS s≤cap→(isEx s=true→cap=capS s)→(isEx s=false→off=0→cap=φ.k x)→VR φ ⟨11,b,off,len,s,cs⟩ (.slice (some ⟨x,off,none⟩) len cap)
  | map (b x q r s:Nat) (cs:List AV):φ b=some x→VR φ ⟨12,b,q,r,s,cs⟩ (.map (some x))
  | fn (f n r s:Nat) (cs:List AV) (first cap:List Value):VRs φ cs (first++cap)→first.length=n→VR φ ⟨13,f,n,r,s,cs⟩ (.func (.func f) first.toArray cap.toArray)
  | yld (b x q r s:Nat) (cs:List AV):φ b=some x→VR φ ⟨14,b,q,r,s,cs⟩ (.func (.yield x) #[] #[])
  | agg (p q r s:Nat) (cs:List AV) (l:List Value):VRs φ cs l→(∀ c ∈ cs,za6 c=true)→VR φ ⟨15,p,q,r,s,cs⟩ (.agg l.toArray)
  | tup (p q r s:Nat) (cs:List AV) (l:List Value):VRs φ cs l→VR φ ⟨16,p,q,r,s,cs⟩ (.tuple l.toArray)
  | nilp (q r s:Nat) (cs:List AV):VR φ ⟨17,0,q,r,s,cs⟩ (.pointer none)
  | nils (q r s:Nat) (cs:List AV):VR φ ⟨17,1,q,r,s,cs⟩ (.slice none 0 0)
  | nilm (q r s:Nat) (cs:List AV):VR φ ⟨17,2,q,r,s,cs⟩ (.map none)
  | nilf (q r s:Nat) (cs:List AV):VR φ ⟨17,3,q,r,s,cs⟩ .nilFunc
  | nili (q r s:Nat) (cs:List AV):VR φ ⟨17,4,q,r,s,cs⟩ .nilIface
  | unk (p q r s:Nat) (cs:List AV) (v:Value):VR φ ⟨18,p,q,r,s,cs⟩ v
  | ud (p q r s:Nat) (cs:List AV):VR φ ⟨19,p,q,r,s,cs⟩ undef
  | neg (p q r s:Nat) (cs:List AV) (n:Int):n<0→VR φ ⟨21,p,q,r,s,cs⟩ (.int .i64 n)
  | pos (p q r s:Nat) (cs:List AV) (n:Int):0≤n→VR φ ⟨22,p,q,r,s,cs⟩ (.int .i64 n)
  | opq (p q r s:Nat) (cs:List AV) (v:Value):OpS φ p v→v.oneCell'=true→v.cells=#[v]→VR φ ⟨23,p,q,r,s,cs⟩ v
  | frz (p q r s:Nat) (cs:List AV) (v:Value):FZ φ.fz ⟨24,p,q,r,s,cs⟩ v→VR φ ⟨24,p,q,r,s,cs⟩ v
  | fptr (p q r s:Nat) (cs:List AV) (v:Value):FZ φ.fz ⟨26,p,q,r,s,cs⟩ v→VR φ ⟨26,p,q,r,s,cs⟩ v
  | own (b x r s:Nat) (cs:List AV):φ b=some x→r≤φ.tl b→φ.tl b≤φ.k x→VR φ ⟨25,1,b,r,s,cs⟩ (.slice (some ⟨x,0,none⟩) r (φ.k x))
  | ownn (b s:Nat) (cs:List AV):VR φ ⟨25,0,b,0,s,cs⟩ (.slice none 0 0)
  | owne (b s:Nat) (cs:List AV) (a:Addr):VR φ ⟨25,2,b,0,s,cs⟩ (.slice (some a) 0 0)
  | optr (b x q r s:Nat) (cs:List AV):φ b=some x→r<φ.tl b→VR φ ⟨27,b,q,r,s,cs⟩ (.pointer (some ⟨x,r * s+q,none⟩))
inductive VRs(φ:Ph):List AV→List Value→Prop
  | nil:VRs φ [] []
  | cons {a:AV} {v:Value} {as:List AV} {vs:List Value}:VR φ a v→VRs φ as vs→VRs φ (a::as) (v::vs)
end
mutual
theorem VR.mono{φ φ':Ph}(hφ:Le φ φ'){a:AV}{v:Value}(h:VR φ a v):VR φ' a v:=by
  cases h with
  | int c p r s cs h1 h2=>exact .int c p r s cs h1 h2
  | bool b r s cs=>exact .bool b r s cs
  | str l r s cs=>exact .str l r s cs
  | ptr b x off r s cs h=>exact .ptr b x off r s cs (hφ _ _ h).1
  | sl b x off len cap s cs h h1 h2 h3 h4=>exact .sl b x off len cap s cs (hφ _ _ h).1 h1 h2 h3 (fun g1 g2=>(h4 g1 g2).trans (hφ _ _ h).2.symm)
  | map b x q r s cs h=>exact .map b x q r s cs (hφ _ _ h).1
  | fn f n r s cs first cap h h1=>exact .fn f n r s cs first cap (VRs.mono hφ h) h1
  | yld b x q r s cs h=>exact .yld b x q r s cs (hφ _ _ h).1
  | agg p q r s cs l h h1=>exact .agg p q r s cs l (VRs.mono hφ h) h1
  | tup p q r s cs l h=>exact .tup p q r s cs l (VRs.mono hφ h)
  | nilp q r s cs=>exact .nilp q r s cs
  | nils q r s cs=>exact .nils q r s cs
  | nilm q r s cs=>exact .nilm q r s cs
  | nilf q r s cs=>exact .nilf q r s cs
  | nili q r s cs=>exact .nili q r s cs
  | unk p q r s cs v=>exact .unk p q r s cs v
  | ud p q r s cs=>exact .ud p q r s cs
  | neg p q r s cs n h=>exact .neg p q r s cs n h
  | pos p q r s cs n h=>exact .pos p q r s cs n h
  | opq p q r s cs _ h1 h2 h3=>exact .opq p q r s cs _ (h1.mono hφ.op) h2 h3
  | frz p q r s cs v h=>exact .frz p q r s cs v (h.mono hφ.fz)
  | fptr p q r s cs v h=>exact .fptr p q r s cs v (h.mono hφ.fz)
  | own b x r s cs h h1 h2 =>
    have e:=hφ.tl _ _ h
    have k:=(hφ _ _ h).2
    rw[← k]
    exact .own b x r s cs (hφ _ _ h).1 (by omega) (by omega)
  | ownn b s cs=>exact .ownn b s cs
  | owne b s cs a=>exact .owne b s cs a
  | optr b x q r s cs h h1=>exact .optr b x q r s cs (hφ _ _ h).1 (by rw[hφ.tl _ _ h];exact h1)
theorem VRs.mono{φ φ':Ph}(hφ:Le φ φ'){as:List AV}{vs:List Value}(h:VRs φ as vs):VRs φ' as vs:=by
  cases h with
  | nil=>exact .nil
  | cons h1 h2=>exact .cons (VR.mono hφ h1) (VRs.mono hφ h2)
end
section lists
variable {φ:Ph}
theorem VRs.length{as:List AV}{vs:List Value}(h:VRs φ as vs):as.length=vs.length:=by
  induction as generalizing vs with
  | nil=>cases h;rfl
  | cons a as ih=>cases h with | cons h1 h2=>simp[ih h2]
theorem VRs.get{as:List AV}{vs:List Value}(h:VRs φ as vs){i:Nat}{a:AV}(ha:as[i]?=some a):∃ v,vs[i]?=some v∧VR φ a v:=by
  induction as generalizing vs i with
  | nil=>simp at ha
  | cons x as ih=>cases h with
    | cons h1 h2=>cases i with
      | zero=>simp at ha;subst ha;exact⟨_,by simp,h1⟩
      | succ i=>simpa using ih h2 (by simpa using ha)
theorem VRs.append{as bs:List AV}{vs ws:List Value}(h:VRs φ as vs)(h':VRs φ bs ws):VRs φ (as++bs) (vs++ws):=by
  induction as generalizing vs with
  | nil=>cases h;exact h'
  | cons a as ih=>cases h with | cons h1 h2=>exact .cons h1 (ih h2)
theorem VRs.take{as:List AV}{vs:List Value}(h:VRs φ as vs)(n:Nat):VRs φ (as.take n) (vs.take n):=by
  induction as generalizing vs n with
  | nil=>cases h;simp;exact .nil
  | cons a as ih=>cases h with
    | cons h1 h2=>cases n with
      | zero=>exact .nil
      | succ n=>exact .cons h1 (ih h2 n)
theorem VRs.drop{as:List AV}{vs:List Value}(h:VRs φ as vs)(n:Nat):VRs φ (as.drop n) (vs.drop n):=by
  induction as generalizing vs n with
  | nil=>cases h;simp;exact .nil
  | cons a as ih=>cases h with
    | cons h1 h2=>cases n with
      | zero=>exact .cons h1 h2
      | succ n=>exact ih h2 n
theorem VRs.repC{as:List AV}{vs:List Value}(h:VRs φ as vs)(n:Nat):VRs φ (Eng.repC n as) ((List.replicate n vs).flatten):=by
  induction n with
  | zero=>exact .nil
  | succ n ih =>
    show VRs φ (appL as (Eng.repC n as)) _
    rw[zaV,List.replicate_succ,List.flatten_cons]
    exact h.append ih
end lists
section tags
variable {φ:Ph} {a:AV} {v:Value}
theorem VR.of_int(h:VR φ a v){c:Nat}(hc:c<8)(ht:a.tag=c):v=.int (kOf c) (valI c a.p)∧a.p<kMod c∧a.q=0:=by
  cases h<;>simp only at ht<;>first | (subst ht;exact⟨rfl,by assumption,rfl⟩) | omega
theorem VR.of_bool(h:VR φ a v)(ht:a.tag=8):∃ b,v=.bool b∧a.p=bi b 1 0∧a.q=0:=by
  cases h<;>simp only at ht<;>first | exact⟨_,rfl,rfl,rfl⟩ | omega
theorem VR.of_str(h:VR φ a v)(ht:a.tag=9):∃ l:List UInt8,v=.string ⟨l.toArray⟩∧a.p=zaJ l∧a.q=l.length:=by
  cases h<;>simp only at ht<;>first | exact⟨_,rfl,rfl,rfl⟩ | omega
theorem VR.of_ptr(h:VR φ a v)(ht:a.tag=10):∃ x,v=.pointer (some ⟨x,a.q,none⟩)∧φ a.p=some x:=by
  cases h<;>simp only at ht<;>first | exact⟨_,rfl,by assumption⟩ | omega
theorem VR.of_sl(h:VR φ a v)(ht:a.tag=11):∃ x cap,v=.slice (some ⟨x,a.q,none⟩) a.r cap∧φ a.p=some x∧a.r≤capS a.s∧capS a.s≤cap∧(isEx a.s=true→cap=capS a.s)∧(isEx a.s=false→a.q=0→cap=φ.k x):=by
  cases h<;>simp only at ht<;>first | exact⟨_,_,rfl,by assumption,by assumption,by assumption,by assumption,by assumption⟩ | omega
theorem VR.of_map(h:VR φ a v)(ht:a.tag=12):∃ x,v=.map (some x)∧φ a.p=some x:=by
  cases h<;>simp only at ht<;>first | exact⟨_,rfl,by assumption⟩ | omega
theorem VR.of_fn(h:VR φ a v)(ht:a.tag=13):∃ first cap,v=.func (.func a.p) (List.toArray first) (List.toArray cap)∧VRs φ a.cs (first++cap)∧first.length=a.q:=by
  cases h<;>simp only at ht<;>first | exact⟨_,_,rfl,by assumption,by assumption⟩ | omega
theorem VR.of_yld(h:VR φ a v)(ht:a.tag=14):∃ x,v=.func (.yield x) #[] #[]∧φ a.p=some x:=by
  cases h<;>simp only at ht<;>first | exact⟨_,rfl,by assumption⟩ | omega
theorem VR.of_agg(h:VR φ a v)(ht:a.tag=15):∃ l,v=.agg (List.toArray l)∧VRs φ a.cs l∧∀ c ∈ a.cs,za6 c=true:=by
  cases h<;>simp only at ht<;>first | exact⟨_,rfl,by assumption,by assumption⟩ | omega
theorem VR.of_tup(h:VR φ a v)(ht:a.tag=16):∃ l,v=.tuple (List.toArray l)∧VRs φ a.cs l:=by
  cases h<;>simp only at ht<;>first | exact⟨_,rfl,by assumption⟩ | omega
theorem VR.of_nil(h:VR φ a v)(ht:a.tag=17):(a.p=0∧v=.pointer none) ∨ (a.p=1∧v=.slice none 0 0) ∨ (a.p=2∧v=.map none) ∨ (a.p=3∧v=.nilFunc) ∨ (a.p=4∧v=.nilIface):=by
  cases h<;>simp only at ht<;>first | omega | simp
theorem VR.of_ud(h:VR φ a v)(ht:a.tag=19):v=undef:=by
  cases h<;>simp only at ht<;>first | rfl | omega
theorem VR.of_opq(h:VR φ a v)(ht:a.tag=23):OpS φ a.p v∧v.oneCell'=true∧v.cells=#[v]:=by
  cases h<;>simp only at ht<;>first | exact⟨by assumption,by assumption,by assumption⟩ | omega
theorem VR.of_own(h:VR φ a v)(ht:a.tag=25)(hp:a.p=1):∃ x,φ a.q=some x∧a.r≤φ.tl a.q∧φ.tl a.q≤φ.k x∧v=.slice (some ⟨x,0,none⟩) a.r (φ.k x):=by
  cases h<;>simp only at ht hp<;>first | exact⟨_,by assumption,by assumption,by assumption,rfl⟩ | omega
theorem VR.of_optr(h:VR φ a v)(ht:a.tag=27):∃ x,φ a.p=some x∧a.r<φ.tl a.p∧v=.pointer (some ⟨x,a.r * a.s+a.q,none⟩):=by
  cases h<;>simp only at ht<;>first | exact⟨_,by assumption,by assumption,rfl⟩ | omega
theorem VR.one(h:VR φ a v)(ho:za6 a=true):v.oneCell'=true∧v.cells=#[v]∧a.tag ≠ 15∧a.tag ≠ 18:=by
  unfold za6 at ho
  cases h<;>first | exact⟨by assumption,by assumption,by simp only;omega,by simp only;omega⟩ | exact⟨rfl,rfl,by simp only;omega,by simp only;omega⟩ | (rename_i h;cases h<;>exact⟨rfl,rfl,by simp only;omega,by simp only;omega⟩) | (exact absurd ho (by simp[bi,ziM,ziL]))
theorem zk6(ho:za6 a=true):a.tag≤14 ∨ a.tag=17 ∨ 23≤a.tag:=by
  unfold za6 at ho
  cases h1:nble a.tag 14
  · rw[h1,zai] at ho
    cases h2:nbeq a.tag 17
    · rw[h2] at ho;exact .inr (.inr (zah.1 ho))
    · exact .inr (.inl (zaa.1 h2))
  · exact .inl (zah.1 h1)
theorem VR.cells(h:VR φ a v)(ho:zaO a=true):VRs φ (cellsOf a) v.cells.toList∧(∀ c ∈ cellsOf a,za6 c=true):=by
  unfold zaO at ho
  cases h1:za6 a
  · rw[h1,zai] at ho
    obtain⟨l,rfl,h2,h3⟩:=h.of_agg (zaa.1 ho)
    unfold cellsOf
    rw[ho]
    exact⟨by simpa [Value.cells] using h2,h3⟩
  · obtain⟨h2,h3,h4,_⟩:=h.one h1
    unfold cellsOf
    rw[show nbeq a.tag 15=false from by
      cases hb:nbeq a.tag 15
      · rfl
      · exact absurd (zaa.1 hb) h4]
    rw[h3]
    exact⟨.cons h .nil,by simpa using h1⟩
end tags
theorem zam{a b:Nat}:nbeq a b=false ↔ a ≠ b:=by rw[← Bool.not_eq_true,zaa]
theorem VR.isNil{φ:Ph}{n:Nat}{a:AV}{va:Value}(h:VR φ a va)(hn:isNil a n=true):va=(match n with | 0=>.pointer none | 1=>.slice none 0 0 | 2=>.map none | 3=>.nilFunc | _=>.nilIface):=by
  unfold Eng.isNil at hn
  cases h17:nbeq a.tag 17
  · rw[h17] at hn;cases hn
  · rw[h17,zag] at hn
    have hp:=zaa.1 hn
    rcases h.of_nil (zaa.1 h17) with⟨e,rfl⟩ | ⟨e,rfl⟩ | ⟨e,rfl⟩ | ⟨e,rfl⟩ | ⟨e,rfl⟩<;>rw[e] at hp<;>subst hp<;>rfl
inductive Ents(φ:Ph)(kt ck:Nat):List AV→List MapEntry→Prop
  | nil:Ents φ kt ck [] []
  | cons {b q r s:Nat} {k v:AV} {ek ev:Value} {as:List AV} {es:List MapEntry}:VR φ k ek→keyA kt k=true→VR φ v ev→b<ck→Ents φ kt ck as es →
      Ents φ kt ck (⟨16,b,q,r,s,[k,v]⟩::as) (⟨ek,ev,b⟩::es)
def zb5(l:List AV):List Nat:=l.map (·.p)
theorem no41{p:Prop}(h:4≤1):p:=absurd h (by decide)
theorem no42{p:Prop}(h:4≤2):p:=absurd h (by decide)
theorem no43{p:Prop}(h:4≤3):p:=absurd h (by decide)
theorem no40{p:Prop}(h:4≤0):p:=absurd h (by decide)
theorem no21{p:Prop}(h:2≤1):p:=absurd h (by decide)
theorem no20{p:Prop}(h:2≤0):p:=absurd h (by decide)
def stOf:Nat→LoopState
  | 0=>.ready | 1=>.busy | 2=>.done | _=>.exhausted
def zsD:Nat→Option Code
  | 0=>none | 1=>some .ret | n+2=>some (.exit n)
structure LoopAt(P:Program)(φ:Ph)(B:AB)(rec:Loop)(f:Nat)(rp:List Nat)(fn:Func)(top:Code)(g:Operand)(T:Fr):Prop where
  hfn:P.funcs[f]?=some fn
  htop:fn.body=some top
  code:zgS top rp=some (.rangeFunc g rec.params rec.assign rec.body)
  cs:B.cs=[zeS f rp,encF T]
  mks:zaK T=[]
  size:fn.ntmps≤rec.tmps.size
  val:∀ t,VR φ ((getB t).run T) (rec.tmps.getD t undef)
  st:rec.state=stOf B.t
  pend:rec.pending=zsD B.e
def zxC(P:Program)(φ:Ph)(B:AB)(o:Obj):Prop:=∃ rec f rp fn top g T,o=.loop rec∧LoopAt P φ B rec f rp fn top g T
def OwnRel(φ:Ph)(x:Nat)(B:AB)(o:Obj):Prop:=∃ (l rest:List Value) (t:TypeId) (fr:Nat × Nat),o=.cells (l++rest).toArray t fr∧FZs φ.fz (zba B.cs) l∧(∀ c ∈ B.cs,zaO c=true∧(cellsOf c).length=B.t)∧(B.kind=6→fr=(0,0))∧(l++rest).length=φ.k x * B.t∧B.cs.length<2 ^ 40∧0<B.t
def XRel(P:Program)(φ:Ph)(x:Nat)(B:AB)(o:Obj):Prop:=(B.kind=4∧o=.deferred (some [])) ∨ (B.kind=5∧zxC P φ B o) ∨ ((B.kind=6 ∨ B.kind=7)∧OwnRel φ x B o)
structure BRel(P:Program)(φ:Ph)(x:Nat)(B:AB)(o:Obj):Prop where
  cells:B.kind=1→∃ (l rest:List Value) (t:TypeId),o=.cells (l++rest).toArray t∧VRs φ B.cs l∧(∀ c ∈ B.cs,za6 c=true)∧(B.e=0→(l++rest).length=φ.k x * B.t)∧(2≤B.e→φ.op (10+B.e) (.int .i64 (x:Int))∧B.e<18)
  map:B.kind=2→∃ es:List MapEntry,o=.map es.toArray B.e∧Ents φ B.t B.e B.cs es∧(B.t<8 ∨ B.t=9 ∨ 32≤B.t)
  walk:B.kind=3→∃ (m:AV) (seen:List AV) (mr:Option Nat),B.cs=[m,tupV seen]∧VR φ m (.map mr)∧o=.mapIter mr B.e (zb5 seen).toArray B.e
  ext:4≤B.kind→XRel P φ x B o
variable {P:Program}
theorem LoopAt.mono{φ φ':Ph}(hφ:Le φ φ'){B:AB}{rec:Loop}{f:Nat}{rp:List Nat}{fn:Func}{top:Code}{g:Operand}{T:Fr}(h:LoopAt P φ B rec f rp fn top g T):LoopAt P φ' B rec f rp fn top g T :=
  ⟨h.hfn,h.htop,h.code,h.cs,h.mks,h.size,fun t=>(h.val t).mono hφ,h.st,h.pend⟩
theorem OwnRel.mono{φ φ':Ph}(hφ:Le φ φ'){x:Nat}(hx:φ'.k x=φ.k x){B:AB}{o:Obj}(h:OwnRel φ x B o):OwnRel φ' x B o:=by
  obtain⟨l,rest,t,fr,h1,h2,h3,h4,h5,h6⟩:=h
  exact⟨l,rest,t,fr,h1,h2.mono hφ.fz,h3,h4,by rw[hx];exact h5,h6⟩
theorem XRel.mono{φ φ':Ph}(hφ:Le φ φ'){x:Nat}(hx:φ'.k x=φ.k x){B:AB}{o:Obj}(h:XRel P φ x B o):XRel P φ' x B o:=by
  rcases h with h | ⟨h,rec,f,rp,fn,top,g,T,e,h1⟩ | ⟨h,h1⟩
  · exact .inl h
  · exact .inr (.inl ⟨h,rec,f,rp,fn,top,g,T,e,h1.mono hφ⟩)
  · exact .inr (.inr ⟨h,h1.mono hφ hx⟩)
theorem Ents.mono{φ φ':Ph}(hφ:Le φ φ'){kt ck:Nat}{as:List AV}{es:List MapEntry}(h:Ents φ kt ck as es):Ents φ' kt ck as es:=by
  induction h with
  | nil=>exact .nil
  | cons h1 h2 h3 h4 _ ih=>exact .cons (h1.mono hφ) h2 (h3.mono hφ) h4 ih
theorem BRel.mono{φ φ':Ph}(hφ:Le φ φ'){x:Nat}(hx:φ'.k x=φ.k x){B:AB}{o:Obj}(h:BRel P φ x B o):BRel P φ' x B o where
  cells hk:=by
    obtain⟨l,rest,t,h1,h2,h3,h4⟩:=h.cells hk
    exact⟨l,rest,t,h1,h2.mono hφ,h3,fun he=>by rw[hx];exact h4.1 he,fun he=>by rw[hφ.op];exact h4.2 he⟩
  map hk:=by
    obtain⟨es,h1,h2,h3⟩:=h.map hk
    exact⟨es,h1,h2.mono hφ,h3⟩
  walk hk:=by
    obtain⟨m,seen,mr,h1,h2,h3⟩:=h.walk hk
    exact⟨m,seen,mr,h1,h2.mono hφ,h3⟩
  ext hk:=(h.ext hk).mono hφ hx
def GL(P:Program)(φ:Ph):Prop:=∀ g,g<P.globals.size→φ g=some g
theorem GL.mono{φ φ':Ph}(h:GL P φ)(hle:Le φ φ'):GL P φ':=fun g hg=>(hle _ _ (h g hg)).1
def Opq(P:Program)(w0:World)(t:TypeId)(v:Value):Prop :=
  ∃ (H:Type) (enc:TypeId × Value→H) (spare:Nat→Bool) (held:Bool) (fuel:Nat) (x:DataW H × List MemPlace),DataW.trod enc P w0 0 spare held fuel t [v]=some x
def exB(φ:Ph)(x:Nat):Prop:=φ.op 30 (.int .i64 (x:Int))
def OwnB(w0:World)(φ:Ph)(x:Nat):Prop:=w0.heap.size≤x ∨ exB φ x
structure BelowX(φ:Ph)(w0 w:World):Prop where
  os:w.os=w0.os
  tape:w.tape=w0.tape
  output:w.output=w0.output
  size:w0.heap.size≤w.heap.size
  block:∀ k,k<w0.heap.size→¬ exB φ k→w.heap[k]?=w0.heap[k]?
theorem BelowX.refl(φ:Ph)(w0:World):BelowX φ w0 w0:=⟨rfl,rfl,rfl,Nat.le_refl _,fun _ _ _=>rfl⟩
theorem BelowX.op{φ φ':Ph}{w0 w:World}(h:BelowX φ w0 w)(e:φ'.op=φ.op):BelowX φ' w0 w:=⟨h.os,h.tape,h.output,h.size,fun k hk hx=>h.block k hk (by unfold exB at hx ⊢;rwa [← e])⟩
theorem BelowX.step{φ:Ph}{w0 w w':World}(h:BelowX φ w0 w)(h1:w'.os=w.os)(h2:w'.tape=w.tape)(h3:w'.output=w.output)(h4:w.heap.size≤w'.heap.size)(h5:∀ k,k<w0.heap.size→¬ OwnB w0 φ k→w'.heap[k]?=w.heap[k]?):BelowX φ w0 w' :=
  ⟨h1.trans h.os,h2.trans h.tape,h3.trans h.output,Nat.le_trans h.size h4,fun k hk hx=>(h5 k hk (fun ho=>ho.elim (fun e=>by omega) hx)).trans (h.block k hk hx)⟩
theorem BelowX.trans{φ:Ph}{w0 w w':World}(h:BelowX φ w0 w)(k:Below w0.heap.size w w'):BelowX φ w0 w':=h.step k.os k.tape k.output k.size fun i hi _=>k.block i hi
theorem BelowX.alloc'{φ φ':Ph}{w0 w:World}(h:BelowX φ w0 w)(hle:Le φ φ')(o:Obj):BelowX φ' w0 (w.alloc o):=(h.trans ((Below.refl _ w).alloc h.size o)).op hle.op
theorem BelowX.drew{φ:Ph}{w0 w:World}(h:BelowX φ w0 w):BelowX φ w0 w.drew:=h.trans (Below.refl _ w).drew
theorem BelowX.alloc{φ:Ph}{w0 w:World}(h:BelowX φ w0 w)(o:Obj):BelowX φ w0 (w.alloc o):=h.trans ((Below.refl _ w).alloc h.size o)
theorem BelowX.below{φ:Ph}{w0 w:World}(h:BelowX φ w0 w)(hx:∀ k,¬ exB φ k):Below w0.heap.size w0 w:=⟨h.os,h.tape,h.output,h.size,fun k hk=>h.block k hk (hx k)⟩
theorem OwnB.mono{w0:World}{φ φ':Ph}{x:Nat}(h:OwnB w0 φ x)(e:φ'.op=φ.op):OwnB w0 φ' x:=h.imp id fun h=>by unfold exB at h ⊢;rwa [e]
def KK(w0:World)(φ:Ph):Prop:=∀ x,x<w0.heap.size→φ.op 29 (.agg #[.int .i64 (x:Int),.int .i64 (φ.k x:Int)])
structure HR(P:Program)(w0:World)(H:Hp)(φ:Ph)(w:World):Prop where
  blk:∀ b x,φ b=some x→b<H.n∧(H.lim≤b→OwnB w0 φ x)∧∃ o,w.heap[x]?=some o∧BRel P φ x (hget H b) o
  inj:∀ b b' x,φ b=some x→φ b'=some x→(hget H b).kind ≠ 0→(hget H b').kind ≠ 0→b=b'
  n:H.n≤32767
  lim:H.lim≤H.n
  below:BelowX φ w0 w
  gl:GL P φ
  op:(∀ t v,t<4000→φ.op (32+t) v→Opq P w0 t v)∧P.globals.size≤w0.heap.size∧KK w0 φ
  fz:∀ x C,φ.fz x=some C→(∃ t fr,w.heap[x]?=some (.cells C.toArray t fr))∧∀ b,φ b=some x→H.lim≤b→(hget H b).kind=0 ∨ (hget H b).kind=7
  tl:∀ b x,φ b=some x→(hget H b).kind=6 ∨ (hget H b).kind=7→(hget H b).cs.length=φ.tl b
  fo:∀ x C,φ.fz x=some C→OwnB w0 φ x ∨ φ.op 31 (.int .i64 x)
structure EX(H:Hp)(φ:Ph)(H':Hp)(φ':Ph):Prop where
  keep:Le φ φ'
  fresh:∀ b x,φ' b=some x→φ b=none→H.n≤b
  n:H.n≤H'.n
  lim:H'.lim=H.lim
  low:∀ b,b<H.lim→b<32768→hget H' b=hget H b
  other:∀ b,b<H.n→φ b=none→(hget H b).kind ≠ 6→hget H' b=hget H b
  loop:∀ b,b<H.n→b<32768→(hget H b).kind=5→(hget H' b).kind=5
  fzn:∀ x C,φ'.fz x=some C→φ.fz x=some C ∨ ∀ b,b<32768→φ b=some x→H.lim≤b ∨ (hget H b).kind=0
theorem EX.refl(H:Hp)(φ:Ph):EX H φ H φ:=⟨Le.refl φ,fun b x h h'=>(by rw[h] at h';cases h'),Nat.le_refl _,rfl,fun _ _ _=>rfl,fun _ _ _ _=>rfl,fun _ _ _ h=>h,fun _ _ h=>.inl h⟩
theorem EX.trans{H H' H'':Hp}{φ φ' φ'':Ph}(h:EX H φ H' φ')(k:EX H' φ' H'' φ''):EX H φ H'' φ'' where
  keep:=h.keep.trans k.keep
  fresh b x hb hn:=by
    cases hφ:φ' b with
    | none=>exact Nat.le_trans h.n (k.fresh b x hb hφ)
    | some y=>exact h.fresh b y hφ hn
  n:=Nat.le_trans h.n k.n
  lim:=k.lim.trans h.lim
  low b hb hb':=(k.low b (h.lim ▸ hb) hb').trans (h.low b hb hb')
  other b hb hn h6:=by
    have hφ:φ' b=none:=by
      cases hφ:φ' b with
      | none=>rfl
      | some y=>exact absurd (h.fresh b y hφ hn) (by omega)
    have e:=h.other b hb hn h6
    exact (k.other b (Nat.lt_of_lt_of_le hb h.n) hφ (by rw[e];exact h6)).trans e
  loop b hb hb' hk:=k.loop b (Nat.lt_of_lt_of_le hb h.n) hb' (h.loop b hb hb' hk)
  fzn x C hx:=by
    rcases k.fzn x C hx with h1 | h1
    · exact h.fzn x C h1
    · exact .inr fun b hbb hb=>by
        rcases h1 b hbb (h.keep b x hb).1 with e | e
        · exact .inl (h.lim ▸ e)
        · by_cases hl:b<H.lim
          · exact .inr (by rw[← h.low b hl hbb];exact e)
          · exact .inl (Nat.not_lt.1 hl)
end Go.Eng
namespace Go.Eng
open Go.RowKit
variable {P:Program} {w0:World}
def AllOk(l:RL):Prop:=∀ x ∈ l,x.tag ≠ 3
theorem zaY{n:Nat}(h:AllOk (zab n)):False:=h _ (List.mem_singleton.2 rfl) rfl
theorem AllOk.bi{b:Bool}{x:RL}{n:Nat}(h:AllOk (bi b x (zab n))):b=true∧AllOk x:=by
  cases b
  · exact (zaY h).elim
  · exact⟨rfl,h⟩
def Out(P:Program)(w0:World)(Y:Value→World→Prop)(H:Hp)(φ:Ph)(L:RL)(c:Kont):Prop :=
  ∃ H' v φ' val w',(∀ x ∈ c H' v,x ∈ L)∧Y val w'∧VR φ' v val∧HR P w0 H' φ' w'∧EX H φ H' φ'
section out
variable {Y:Value→World→Prop} {H:Hp} {φ:Ph} {c:Kont} {w:World}
theorem Out.bi{b:Bool}{x:RL}{n:Nat}(hok:AllOk (bi b x (zab n)))(h:b=true→AllOk x→Out P w0 Y H φ x c):Out P w0 Y H φ (bi b x (zab n)) c:=by
  cases b
  · exact (zaY hok).elim
  · exact h rfl hok
theorem Out.bi2{b:Bool}{x y:RL}(hok:AllOk (Eng.bi b x y))(h:b=true→AllOk x→Out P w0 Y H φ x c)(h':b=false→AllOk y→Out P w0 Y H φ y c):Out P w0 Y H φ (Eng.bi b x y) c:=by
  cases b
  · exact h' rfl hok
  · exact h rfl hok
theorem Out.om{α:Type}{o:Option α}{f:α→RL}{n:Nat}(hok:AllOk (om o (zab n) f))(h:∀ a,o=some a→AllOk (f a)→Out P w0 Y H φ (f a) c):Out P w0 Y H φ (om o (zab n) f) c:=by
  cases o with
  | none=>exact (zaY hok).elim
  | some a=>exact h a rfl hok
theorem Out.same{v:AV}{val:Value}(hr:HR P w0 H φ w)(hv:VR φ v val)(hy:Y val w):Out P w0 Y H φ (c H v) c :=
  ⟨H,v,φ,val,w,fun _ h=>h,hy,hv,hr,EX.refl H φ⟩
theorem Out.known{v:AV}{n:Nat}(hok:AllOk (zfe v H c n))(h:v.tag ≠ 18→Out P w0 Y H φ (c H v) c):Out P w0 Y H φ (zfe v H c n) c:=by
  unfold zfe at hok ⊢
  cases hb:nbeq v.tag 18
  · exact h (zam.1 hb)
  · rw[hb] at hok;exact (zaY hok).elim
theorem Out.newL{B:AB}{mk:Nat→AV}{o:Obj}{val:Value}(K:Nat)(hr:HR P w0 H φ w)(hB:∀ φ':Ph,Le φ φ'→φ'.k w.heap.size=K→BRel P φ' w.heap.size B o)
    (hv:∀ φ':Ph,Le φ φ'→φ' H.n=some w.heap.size→φ'.k w.heap.size=K→φ'.tl H.n=B.cs.length→VR φ' (mk H.n) val) (hy:Y val (w.alloc o))
    (hok:AllOk (newC H B mk c)):Out P w0 Y H φ (newC H B mk c) c:=by
  unfold newC at hok ⊢
  refine Out.bi hok fun hn _=>?_
  have hn':=zah.1 hn
  have hfree:φ H.n=none:=by
    cases h:φ H.n with
    | none=>rfl
    | some x=>exact absurd (hr.blk _ _ h).1 (by omega)
  let φ':Ph:=⟨fun b=>if b=H.n then some w.heap.size else φ b,fun x=>if x=w.heap.size then K else φ.k x,φ.op,φ.fz,fun b=>if b=H.n then B.cs.length else φ.tl b⟩
  have hkk:φ'.k w.heap.size=K:=by simp[φ']
  have hkx:∀ x,x ≠ w.heap.size→φ'.k x=φ.k x:=fun x hx=>by simp[φ',hx]
  have hkeep:Le φ φ':=by
    refine⟨?_,rfl,fun _ _ h=>h,fun b x hb=>if_neg fun e=>by rw[e,hfree] at hb;cases hb⟩
    intro b x hb
    have:b ≠ H.n:=fun e=>by rw[e,hfree] at hb;cases hb
    obtain⟨_,_,o,h3,_⟩:=hr.blk b x hb
    have hlt:=(Array.getElem?_eq_some_iff.1 h3).1
    exact⟨by simp only[φ',if_neg this];exact hb,hkx x (by omega)⟩
  have hφn:φ' H.n=some w.heap.size:=by simp[φ']
  have hold:∀ b x,φ' b=some x→b ≠ H.n→φ b=some x:=by
    intro b x hb hne;simpa only[φ',if_neg hne] using hb
  have hlt:∀ b x,φ b=some x→b<H.n∧x<w.heap.size:=by
    intro b x hb
    obtain⟨h1,h2,o,h3,_⟩:=hr.blk b x hb
    exact⟨h1,(Array.getElem?_eq_some_iff.1 h3).1⟩
  have hs:(hnew H B).n=H.n+1:=zcA _ _
  refine⟨hnew H B,mk H.n,φ',val,w.alloc o,fun _ h=>h,hy,hv φ' hkeep hφn hkk (if_pos rfl),?_,?_⟩
  · refine⟨?_,?_,by omega,by have:=hr.lim;show H.lim≤_;omega,hr.below.alloc' hkeep o,hr.gl.mono hkeep,⟨hr.op.1,hr.op.2.1,fun x hx=>by rw[hkx x (by have:=hr.below.size;omega)];exact hr.op.2.2 x hx⟩,?_,?_,hr.fo⟩
    · intro b x hb
      by_cases hbn:b=H.n
      · subst hbn
        rw[hφn] at hb;cases hb
        refine⟨by omega,fun _=>.inl hr.below.size,o,?_,?_⟩
        · show (w.heap.push o)[w.heap.size]?=_
          simp
        · rw[zaD (by omega) (by omega),if_pos rfl];exact hB φ' hkeep hkk
      · have hb':=hold b x hb hbn
        obtain⟨h1,h2,o',h3,h4⟩:=hr.blk b x hb'
        refine⟨by omega,h2,o',?_,?_⟩
        · rw[Below.heap_alloc _ _ _ (hlt b x hb').2];exact h3
        · rw[zaD (by omega) (by omega),if_neg (by omega)];exact h4.mono hkeep (hkx x (by have:=(hlt b x hb').2;omega))
    · intro b b' x hb hb' hk hk'
      by_cases hbn:b=H.n
      · by_cases hbn':b'=H.n
        · rw[hbn,hbn']
        · rw[hbn,hφn] at hb;cases hb
          exact absurd (hlt _ _ (hold b' _ hb' hbn')).2 (by omega)
      · by_cases hbn':b'=H.n
        · rw[hbn',hφn] at hb';cases hb'
          exact absurd (hlt _ _ (hold b _ hb hbn)).2 (by omega)
        · have e1:=hold b x hb hbn
          have e2:=hold b' x hb' hbn'
          have l1:=(hlt _ _ e1).1;have l2:=(hlt _ _ e2).1
          rw[zaD (by omega) (by omega),if_neg (by omega)] at hk hk'
          exact hr.inj b b' x e1 e2 hk hk'
    · intro x C hx
      obtain⟨⟨t,fr,h1⟩,h2⟩:=hr.fz x C hx
      have hxs:=(Array.getElem?_eq_some_iff.1 h1).1
      refine⟨⟨t,fr,by rw[Below.heap_alloc _ _ _ hxs];exact h1⟩,fun b hb hl=>?_⟩
      by_cases hbn:b=H.n
      · rw[hbn,hφn] at hb;cases hb;omega
      · have e1:=hold b x hb hbn
        have l1:=(hlt _ _ e1).1
        rw[zaD (by omega) (by omega),if_neg (by omega)]
        exact h2 b e1 hl
    · intro b x hb hk
      by_cases hbn:b=H.n
      · subst hbn
        rw[zaD (by omega) (by omega),if_pos rfl]
        exact (if_pos rfl).symm
      · have e1:=hold b x hb hbn
        have l1:=(hlt _ _ e1).1
        rw[zaD (by omega) (by omega),if_neg (by omega)] at hk ⊢
        exact (hr.tl b x e1 hk).trans (if_neg hbn).symm
  · refine⟨hkeep,?_,by omega,rfl,?_,?_,?_,?_⟩
    · intro b x hb hnone
      by_cases hbn:b=H.n
      · omega
      · rw[hold b x hb hbn] at hnone;cases hnone
    · intro b hb hb'
      by_cases hbn:H.n=b
      · have:=hr.lim;omega
      · rw[zaD (by omega) hb',if_neg hbn]
    · intro b hb _ _
      rw[zaD (by omega) (by omega),if_neg (by omega)]
    · intro b hb hb' hk
      rw[zaD (by omega) hb',if_neg (by omega)];exact hk
    · exact fun _ _ h=>.inl h
theorem Out.newK{B:AB}{mk:Nat→AV}{o:Obj}{val:Value}(K:Nat)(hr:HR P w0 H φ w)(hB:∀ φ':Ph,Le φ φ'→φ'.k w.heap.size=K→BRel P φ' w.heap.size B o)
    (hv:∀ φ':Ph,Le φ φ'→φ' H.n=some w.heap.size→φ'.k w.heap.size=K→VR φ' (mk H.n) val) (hy:Y val (w.alloc o))
    (hok:AllOk (newC H B mk c)):Out P w0 Y H φ (newC H B mk c) c:=Out.newL K hr hB (fun φ' h1 h2 h3 _=>hv φ' h1 h2 h3) hy hok
theorem Out.new{B:AB}{mk:Nat→AV}{o:Obj}{val:Value}(hr:HR P w0 H φ w)(hB:BRel P φ w.heap.size B o)
    (hv:∀ φ':Ph,Le φ φ'→φ' H.n=some w.heap.size→VR φ' (mk H.n) val) (hy:Y val (w.alloc o))
    (hok:AllOk (newC H B mk c)):Out P w0 Y H φ (newC H B mk c) c :=
  Out.newK (φ.k w.heap.size) hr (fun _ hle hk=>hB.mono hle hk) (fun φ' hle hn _=>hv φ' hle hn) hy hok
theorem Out.set{b x:Nat}{B:AB}{o':Obj}{v:AV}{val:Value}{w':World}(hr:HR P w0 H φ w)(hb:φ b=some x)(hk:(hget H b).kind ≠ 0)
    (hB:BRel P φ x B o') (hv:VR φ v val) (hy:Y val w') (hx:w'.heap[x]?=some o') (hrest:∀ k,k ≠ x→w'.heap[k]?=w.heap[k]?) (hsz:w'.heap.size=w.heap.size)
    (hos:w'.os=w.os) (htape:w'.tape=w.tape) (hout:w'.output=w.output)
    (hok:AllOk (setC H b B v c)) (hk5:(hget H b).kind=5→B.kind=5:=by intro h;omega)
    (hk7:(hget H b).kind ≠ 7:=by omega) (hk6:B.kind=6 ∨ B.kind=7→B.cs.length=φ.tl b:=by intro h;rcases h with h | h<;>first | omega | (simp at h;done) | (cases h;done)):Out P w0 Y H φ (setC H b B v c) c:=by
  unfold setC at hok ⊢
  refine Out.bi hok fun hl _=>?_
  have hl':=zah.1 hl
  have hn:=hr.n
  obtain⟨h1,h2,o,h3,h4⟩:=hr.blk b x hb
  have h2:=h2 hl'
  refine⟨hset H b B,v,φ,val,w',fun _ h=>h,hy,hv,⟨?_,?_,hr.n,hr.lim,hr.below.step hos htape hout (by omega) (fun k _ hk=>hrest k fun e=>hk (e ▸ h2)),hr.gl,hr.op,?_,?_,hr.fo⟩,⟨Le.refl φ,fun b x h h'=>(by rw[h] at h';cases h'),Nat.le_refl _,rfl,?_,?_,?_,fun _ _ h=>.inl h⟩⟩
  · intro b' x' hb'
    obtain⟨g1,g2,o1,g3,g4⟩:=hr.blk b' x' hb'
    by_cases he:b=b'
    · subst he
      rw[hb] at hb';cases hb'
      exact⟨g1,g2,o',hx,by rw[zaM (by omega) (by omega),if_pos rfl];exact hB⟩
    · by_cases hxx:x'=x
      · subst hxx
        refine⟨g1,g2,o',hx,?_⟩
        rw[zaM (by omega) (by omega),if_neg he]
        have hz:(hget H b').kind=0:=by
          cases hz:decide ((hget H b').kind=0) with
          | true=>exact of_decide_eq_true hz
          | false=>exact absurd (hr.inj b b' _ hb hb' hk (of_decide_eq_false hz)) he
        exact⟨fun h=>by omega,fun h=>by omega,fun h=>by omega,fun h=>by omega⟩
      · refine⟨g1,g2,o1,by rw[hrest _ hxx];exact g3,?_⟩
        rw[zaM (by omega) (by omega),if_neg he];exact g4
  · intro b1 b2 x1 e1 e2 k1 k2
    have l1:=(hr.blk _ _ e1).1;have l2:=(hr.blk _ _ e2).1
    have key:∀ b1,b1<H.n→(hget (hset H b B) b1).kind ≠ 0→(hget H b1).kind ≠ 0:=by
      intro b1 hb1 hk1
      rw[zaM (by omega) (by omega)] at hk1
      by_cases he:b=b1
      · subst he;exact hk
      · rw[if_neg he] at hk1;exact hk1
    exact hr.inj b1 b2 x1 e1 e2 (key b1 l1 k1) (key b2 l2 k2)
  · intro y C hy
    obtain⟨⟨t,fr,g1⟩,g2⟩:=hr.fz y C hy
    have hyx:y ≠ x:=by
      intro e;subst e
      rcases g2 b hb hl' with h | h
      · exact hk h
      · exact hk7 h
    refine⟨⟨t,fr,by rw[hrest _ hyx];exact g1⟩,fun b' hb' hl2=>?_⟩
    have l1:=(hr.blk _ _ hb').1
    have hne:b ≠ b':=fun e=>by subst e;rw[hb] at hb';cases hb';exact hyx rfl
    rw[zaM (by omega) (by omega),if_neg hne]
    exact g2 b' hb' hl2
  · intro b' x' hb' hk'
    have l1:=(hr.blk _ _ hb').1
    by_cases he:b=b'
    · subst he
      rw[zaM (by omega) (by omega),if_pos rfl] at hk' ⊢
      exact hk6 hk'
    · rw[zaM (by omega) (by omega),if_neg he] at hk' ⊢
      exact hr.tl b' x' hb' hk'
  · intro k hk1 hk2
    rw[zaM (by omega) hk2,if_neg (by omega)]
  · intro k hk1 hk2 _
    rw[zaM (by omega) (by omega),if_neg (fun e=>by rw[← e,hb] at hk2;cases hk2)]
  · intro k hk1 hk2 hk3
    rw[zaM (by omega) hk2]
    split
    · rename_i e;subst e;exact hk5 hk3
    · exact hk3
end out
theorem zcT(P:Program)(w:World)(o:Obj):(newObj o).run P w=.ok w.heap.size (w.alloc o):=rfl
theorem Sem.run_pure'{α:Type}(P:Program)(a:α)(w:World):(pure a:Sem α).run P w=.ok a w:=rfl
theorem zfS{t:TypeId}{i:TypeInfo}(h:P.info? t=some i)(w:World):(typeInfo t).run P w=.ok i w:=by
  simp only[typeInfo,program,Sem.run_bind,Sem.run,Result.andThen_ok,h];rfl
theorem zaS{t:TypeId}{n:Nat}(h:(szB P t).run=some n)(w:World):(sizeOf t).run P w=.ok n w:=by
  obtain⟨i,hi,rfl⟩:=Option.map_eq_some_iff.1 (show (P.info? t).map (·.size)=some n from h)
  simp only[sizeOf,Sem.run_bind,zfS hi,Result.andThen_ok,Sem.run_pure']
theorem zeM{t:TypeId}{i:TypeInfo}{z:Value}(h:P.info? t=some i)(hz:i.zero=some z)(w:World):(zeroValue t).run P w=.ok z w:=by
  simp only[zeroValue,Sem.run_bind,zfS h,Result.andThen_ok,hz,Sem.run_pure']
theorem zav{t:TypeId}{d:TypeDesc}(h:(tyB P t).run=some d)(w:World):(underlying t).run P w=.ok d w:=run_underlying h w
theorem zdP{t:TypeId}{d:TypeDesc}(h:(tyB P t).run=some d)(w:World):(isAgg t).run P w=.ok (zaC P t) w:=by
  simp only[isAgg,Sem.run_bind,zav h,Result.andThen_ok,zaC,h]
  cases d<;>rfl
theorem zlS(k:IntKind):kOf (zap k)=k:=by cases k<;>rfl
theorem zaT(k:IntKind):zap k<8:=by cases k<;>decide
section ops
variable {H:Hp} {φ:Ph} {c:Kont} {w:World}
theorem zus{a b d:AV}{va vb vd:Value}(ha:VR φ a va)(hb:VR φ b vb)(hd:VR φ d vd)(hr:HR P w0 H φ w)(hok:AllOk (pickC.run a b d H c)) :
    Out P w0 (fun v w'=>((do pure (.value (if ← asBool va then vb else vd)):Sem Next)).run P w=.ok (.value v) w') H φ (pickC.run a b d H c) c:=by
  refine Out.bi hok fun ht _=>?_
  obtain⟨t,rfl,hp,_⟩:=ha.of_bool (zaa.1 ht)
  rw[hp]
  cases t
  · exact Out.same hr hd (by simp[asBool])
  · exact Out.same hr hb (by simp[asBool])
theorem zxD{t:TypeId}{a:AV}{va:Value}(ha:VR φ a va)(hr:HR P w0 H φ w)(hok:AllOk (boxC.run a H c)) :
    Out P w0 (fun v w'=>(Instr.box t va).run P w=.ok v w') H φ (boxC.run a H c) c:=by
  refine Out.bi hok fun ht hok=>?_
  obtain⟨h1,h2⟩:=ha.cells ht
  refine Out.new (o:=.cells va.cells t) (val:=.pointer (some ⟨w.heap.size,0,none⟩)) hr ?_ ?_ ?_ hok
  · exact⟨fun _=>⟨va.cells.toList,[],t,by simp,h1,h2,(fun h=>by cases h),(fun h=>by exact no21 h)⟩,fun h=>by simp[zbt] at h,fun h=>by simp[zbt] at h,no41⟩
  · intro φ' _ h;exact .ptr _ _ _ _ _ _ h
  · simp only[Instr.box,newVar,newRow,Sem.run_bind,zcT,Result.andThen_ok,Sem.run_pure']
theorem Addr.add_mid(x o j:Nat):(⟨x,o,none⟩:Addr).add j=⟨x,o+j,none⟩:=by unfold Addr.add;split<;>simp_all
theorem zlr{x o:Nat}{cs:List Value}{t:TypeId}(h:w.heap[x]?=some (.cells cs.toArray t))(v:Value)(hv:cs[o]?=some v):w.cell? ⟨x,o,none⟩=some v:=by
  simp[World.cell?,h,hv]
theorem zk7{l rest:List Value}{i:Nat}{v:Value}(h:l[i]?=some v):(l++rest)[i]?=some v:=by
  rw[List.getElem?_append_left (List.getElem?_eq_some_iff.1 h).1];exact h
theorem zbO{x off n:Nat}{cs:List Value}{t:TypeId}(h:w.heap[x]?=some (.cells cs.toArray t))(hn:n≤cs.length - off) :
    (loadCells ⟨x,off,none⟩ n).run P w=.ok ((cs.drop off).take n).toArray w:=by
  have hl:((cs.drop off).take n).length=n:=by rw[List.length_take,List.length_drop];omega
  have:=run_loadCells_list (P:=P) w ⟨x,off,none⟩ ((cs.drop off).take n) (fun j v hv=>by
    rw[Addr.add_mid]
    refine zlr h v ?_
    rw[List.getElem?_take] at hv
    split at hv
    · rw[List.getElem?_drop] at hv;exact hv
    · cases hv)
  rwa [hl] at this
theorem zsE{t:TypeId}{d:TypeDesc}{a:AV}{va:Value}(ht:(tyB P t).run=some d)(hg:zaC P t=false)(ha:VR φ a va)(hr:HR P w0 H φ w)(hok:AllOk (load1.run a H c)) :
    Out P w0 (fun v w'=>(Instr.loadAt t va).run P w=.ok v w') H φ (load1.run a H c) c:=by
  refine Out.bi hok fun h10 hok=>Out.bi hok fun hk hok=>Out.known hok fun hne=>?_
  obtain⟨x,rfl,hx⟩:=ha.of_ptr (zaa.1 h10)
  obtain⟨_,_,o,ho,hB⟩:=hr.blk _ _ hx
  obtain⟨l,rest,t',rfl,hl,_,_⟩:=hB.cells (zaa.1 hk)
  rw[zcG] at hne ⊢
  cases hcs:(hget H a.p).cs[a.q]? with
  | none=>rw[hcs] at hne;exact absurd rfl hne
  | some e =>
    obtain⟨v,hv,hve⟩:=hl.get hcs
    refine Out.same hr hve ?_
    simp only[Instr.loadAt,Instr.sureAddr,loadVar,Sem.run_bind,Sem.run_pure',zdP ht,hg,Result.andThen_ok,run_load]
    simp[zlr ho v (zk7 hv)]
theorem zsF{t:TypeId}{d:TypeDesc}{sz:Nat}{a:AV}{va:Value}(ht:(tyB P t).run=some d)(hs:(szB P t).run=some sz)(hg:zaC P t=true)(ha:VR φ a va)(hr:HR P w0 H φ w)(hok:AllOk ((zjG sz).run a H c)) :
    Out P w0 (fun v w'=>(Instr.loadAt t va).run P w=.ok v w') H φ ((zjG sz).run a H c) c:=by
  refine Out.bi hok fun h10 hok=>Out.bi hok fun hk hok=>Out.om hok fun cs hcs hok=>?_
  obtain⟨x,rfl,hx⟩:=ha.of_ptr (zaa.1 h10)
  obtain⟨_,_,o,ho,hB⟩:=hr.blk _ _ hx
  obtain⟨l,rest,t',rfl,hl,h1,_⟩:=hB.cells (zaa.1 hk)
  rw[zbB] at hcs
  obtain⟨hlen,rfl⟩:=zbL hcs
  have hll:=hl.length
  have e:((l++rest).drop a.q).take sz=(l.drop a.q).take sz:=by
    rw[List.drop_append,List.take_append]
    rw[List.length_drop] at hlen
    have:sz - (l.drop a.q).length=0:=by rw[List.length_drop];omega
    rw[this];simp
  refine Out.same hr (.agg _ _ _ _ _ _ ((hl.drop a.q).take sz) ?_) ?_
  · intro c hc
    exact h1 c (List.mem_of_mem_drop (List.mem_of_mem_take hc))
  · simp only[Instr.loadAt,Instr.sureAddr,loadVar,Sem.run_bind,Sem.run_pure',zdP ht,hg,Result.andThen_ok,zaS hs,if_true]
    rw[zbO ho (by rw[List.length_drop] at hlen;rw[List.length_append];omega)]
    simp only[Result.andThen_ok,e]
theorem zsG{t:TypeId}{sz:Nat}{a b:AV}{va vb:Value}(hs:(szB P t).run=some sz)(ha:VR φ a va)(hb:VR φ b vb)(hr:HR P w0 H φ w)(hok:AllOk ((zmS sz).run a b H c)) :
    Out P w0 (fun v w'=>(Instr.storeAt t va vb).run P w=.ok () w'∧v=undef) H φ ((zmS sz).run a b H c) c:=by
  refine Out.bi hok fun h10 hok=>Out.bi hok fun hk hok=>Out.bi hok fun ho1 hok=>Out.bi hok fun hlen hok=>Out.om hok fun cs hcs hok=>?_
  obtain⟨x,rfl,hx⟩:=ha.of_ptr (zaa.1 h10)
  obtain⟨_,_,o,ho,hB⟩:=hr.blk _ _ hx
  have hk':=zaa.1 hk
  obtain⟨l,rest,t',rfl,hl,h1,hrest⟩:=hB.cells hk'
  obtain⟨hc1,hc2⟩:=hb.cells ho1
  obtain⟨hfit,rfl⟩:=zi3 hcs
  have hlen':=zaa.1 hlen
  rw[zaz] at hlen'
  have hvl:vb.cells.toList.length=sz:=by rw[← hc1.length];exact hlen'
  have hll:=hl.length
  have hone:∀ v ∈ vb.cells.toList,v.oneCell'=true:=by
    intro v hv
    obtain⟨i,hi⟩:=List.mem_iff_getElem?.1 hv
    have hi':i<(cellsOf b).length:=by rw[hc1.length];exact (List.getElem?_eq_some_iff.1 hi).1
    obtain⟨v',hv',hvr⟩:=hc1.get (List.getElem?_eq_getElem hi')
    rw[hi] at hv';cases hv'
    exact (hvr.one (hc2 _ (List.getElem_mem hi'))).1
  have hst:=run_storeCells_at (P:=P) x a.q t' vb.cells.toList 0 (l++rest).toArray w ho (by rw[List.size_toArray,List.length_append];omega) hone
  refine Out.set (x:=x) (o':=.cells (l.take a.q++vb.cells.toList++l.drop (a.q+sz)++rest).toArray t')
    (w':=w.setRow x (((l++rest).toArray).toList.take (a.q+0)++vb.cells.toList++((l++rest).toArray).toList.drop (a.q+0+vb.cells.toList.length)).toArray) hr hx (by omega) ?_ (.ud _ _ _ _ _) ⟨?_,rfl⟩ ?_ ?_ (by simp[World.setRow]) rfl rfl rfl hok
  · refine⟨fun _=>⟨l.take a.q++vb.cells.toList++l.drop (a.q+sz),rest,t',rfl,?_,?_,?_,hrest.2⟩,(fun h=>by cases h),(fun h=>by cases h),fun h=>by have:4≤1:=h;omega⟩
    · show VRs φ (_++_++_) _
      rw[hlen']
      exact ((hl.take _).append hc1).append (hl.drop _)
    · intro c hc
      have hc:c ∈ (hget H a.p).cs.take a.q++cellsOf b++(hget H a.p).cs.drop (a.q+(cellsOf b).length):=hc
      rw[List.mem_append,List.mem_append] at hc
      rcases hc with (hc | hc) | hc
      · exact h1 c (List.mem_of_mem_take hc)
      · exact hc2 c hc
      · exact h1 c (List.mem_of_mem_drop hc)
    · intro he
      have:=hrest.1 he
      rw[List.length_append] at this
      simp only[List.length_append,List.length_take,List.length_drop]
      show _=φ.k x * (hget H a.p).t
      omega
  · simp only[Instr.storeAt,Instr.sureAddr,storeVar,Sem.run_bind,Sem.run_pure',Result.andThen_ok,zaS hs]
    rw[if_neg (by simpa using hvl)]
    exact hst
  · rw[setRow_heap w x _ _ t' (0,0) ho]
    have:a.q+0+vb.cells.toList.length=a.q+sz:=by omega
    congr 3
    rw[this]
    simp only[Nat.add_zero]
    rw[List.take_append_of_le_length (by omega),List.drop_append_of_le_length (by omega)]
    simp only[List.append_assoc]
  · intro k hk
    simp[World.setRow,Array.getElem?_modify,Ne.symm hk]
theorem zxE{a:AV}{va:Value}(ρ:Operand→Value)(x:Operand)(o:Oper)(ho:o.op=.nilCheck x)(hρ:ρ x=va)(ha:VR φ a va)(hr:HR P w0 H φ w)(hok:AllOk (nilC.run a H c)) :
    Out P w0 (fun v w'=>(execOp ρ o).run P w=.ok (.value v) w') H φ (nilC.run a H c) c:=by
  refine Out.bi hok fun ht _=>Out.same hr ha ?_
  have ht':=zah.1 ht
  subst hρ
  generalize hv:ρ x=v at ha
  have key:(match v with | .pointer none | .nilIface | .nilFunc=>False | .func (.method _) _ _=>False | _=>True):=by
    cases ha<;>first | trivial | (simp only at ht';omega)
  simp only[execOp,ho,hv]
  split<;>first | exact key.elim | rfl
end ops
end Go.Eng
namespace Go.Eng
open Go.RowKit
theorem zn4:kMod 0=256:=by decide
theorem zn5:kMod 1=65536:=by decide
theorem zn6:kMod 2=4294967296:=by decide
theorem zi7:kMod 3=18446744073709551616:=by decide
theorem zhh:kMod 4=256:=by decide
theorem zn7:kMod 5=65536:=by decide
theorem zn8:kMod 6=4294967296:=by decide
theorem zn9:kMod 7=18446744073709551616:=by decide
theorem zls:zbj 0=128:=by decide
theorem zlt:zbj 1=32768:=by decide
theorem zlu:zbj 2=2147483648:=by decide
theorem zc5:zbj 3=9223372036854775808:=by decide
theorem zfE:zbj 4=256:=by decide
theorem zlv:zbj 5=65536:=by decide
theorem zlw:zbj 6=4294967296:=by decide
theorem zlx:zbj 7=18446744073709551616:=by decide
theorem zbs{c p:Nat}(h:p<zbj c):valI c p=p:=by
  unfold valI zbb;rw[zaW.2 h];rfl
theorem zeN{c p:Nat}(h:zbj c≤p):valI c p=(p:Int) - kMod c:=by
  unfold valI zbb;rw[zah.2 h];rfl
theorem zfy{c p:Nat}:zbb c p=true ↔ zbj c≤p:=zah
theorem zgA{c p:Nat}:zbb c p=false ↔ p<zbj c:=zaW
theorem kinds{p:Nat→Prop}(h0:p 0)(h1:p 1)(h2:p 2)(h3:p 3)(h4:p 4)(h5:p 5)(h6:p 6)(h7:p 7){c:Nat}(hc:c<8):p c:=by
  match c,hc with
  | 0,_=>exact h0
  | 1,_=>exact h1
  | 2,_=>exact h2
  | 3,_=>exact h3
  | 4,_=>exact h4
  | 5,_=>exact h5
  | 6,_=>exact h6
  | 7,_=>exact h7
theorem zcx{c:Nat}:0<kMod c:=Nat.two_pow_pos _
theorem zhJ{c:Nat}(hc:c<8):zbj c≤kMod c∧kMod c≤2 * zbj c:=by
  refine kinds (p:=fun c=>zbj c≤kMod c∧kMod c≤2 * zbj c) ?_ ?_ ?_ ?_ ?_ ?_ ?_ ?_ hc <;>
    simp only[zn4,zn5,zn6,zi7,zhh,zn7,zn8,zn9,zls,zlt,zlu,zc5,zfE,zlv,zlw,zlx]<;>omega
theorem zj6{c:Nat}(hc:c<8)(x:Int):(kOf c).wrap x=valI c (x % (kMod c:Int)).toNat:=by
  refine kinds (p:=fun c=>(kOf c).wrap x=valI c (x % (kMod c:Int)).toNat) ?_ ?_ ?_ ?_ ?_ ?_ ?_ ?_ hc
  all_goals
    unfold valI zbb
    simp only[kOf,IntKind.wrap,IntKind.bits,IntKind.signed,zn4,zn5,zn6,zi7,zhh,zn7,zn8,zn9,zls,zlt,zlu,zc5,zfE,zlv,zlw,zlx,Bool.true_and,Bool.false_and,decide_eq_true_eq,ziM,ziL,zbI,zbD,Nat.ble_eq,Bool.false_eq_true,if_false,Int.reducePow,Nat.reduceSub]
    split<;>(try split)<;>omega
theorem zj7{c:Nat}(hc:c<8):zbj c=kMod c ∨ kMod c=2 * zbj c :=
  kinds (p:=fun c=>zbj c=kMod c ∨ kMod c=2 * zbj c) (by decide) (by decide) (by decide) (by decide) (by decide) (by decide) (by decide) (by decide) hc
theorem zfT{c:Nat}(hc:c<8):(kOf c).bits=zcM c:=by
  refine kinds (p:=fun c=>(kOf c).bits=zcM c) ?_ ?_ ?_ ?_ ?_ ?_ ?_ ?_ hc<;>decide
theorem zut(c p:Nat):valI c p % (kMod c:Int)=(p:Int) % (kMod c:Int):=by
  unfold valI
  split
  · rw[Int.sub_emod_right]
  · rfl
theorem zcs{c p:Nat}(h:p<kMod c):valI c p % (kMod c:Int)=(p:Int):=by
  rw[zut,Int.emod_eq_of_lt (by omega) (by exact_mod_cast h)]
theorem zcB{c:Nat}(hc:c<8)(x:Int){n:Nat}(h:x % (kMod c:Int)=(n:Int)):(kOf c).wrap x=valI c n:=by
  rw[zj6 hc,h];rfl
section two
variable {c a b:Nat}
theorem zxF(hc:c<8)(ha:a<kMod c)(hb:b<kMod c):(kOf c).wrap (valI c a+valI c b)=valI c (Nat.mod (Nat.add a b) (kMod c)) :=
  zcB hc _ (by rw[Int.add_emod,zcs ha,zcs hb];exact_mod_cast rfl)
theorem zxG(hc:c<8)(ha:a<kMod c)(hb:b<kMod c):(kOf c).wrap (valI c a * valI c b)=valI c (Nat.mod (Nat.mul a b) (kMod c)) :=
  zcB hc _ (by rw[Int.mul_emod,zcs ha,zcs hb];exact_mod_cast rfl)
theorem zxH(hc:c<8)(ha:a<kMod c)(hb:b<kMod c):(kOf c).wrap (valI c a - valI c b)=valI c (Nat.mod (Nat.sub (Nat.add a (kMod c)) b) (kMod c)) :=
  zcB hc _ (by
    rw[Int.sub_emod,zcs ha,zcs hb]
    have e:((Nat.sub (Nat.add a (kMod c)) b:Nat):Int)=(a:Int) - b+kMod c:=by
      show (((a+kMod c) - b:Nat):Int)=_
      omega
    have e2:((Nat.mod (Nat.sub (Nat.add a (kMod c)) b) (kMod c):Nat):Int)=((Nat.sub (Nat.add a (kMod c)) b:Nat):Int) % (kMod c:Int):=by exact_mod_cast rfl
    rw[e2,e,Int.add_emod_right])
theorem zhi(hc:c<8)(ha:a<kMod c)(hb:b<kMod c):(valI c a≤valI c b) ↔ biased c a≤biased c b:=by
  revert ha hb
  refine kinds (p:=fun c=>a<kMod c→b<kMod c→((valI c a≤valI c b) ↔ biased c a≤biased c b)) ?_ ?_ ?_ ?_ ?_ ?_ ?_ ?_ hc
  all_goals
    intro ha hb
    have e1:∀ x m,Nat.mod x m=x % m:=fun _ _=>rfl
    have e2:∀ x m,Nat.add x m=x+m:=fun _ _=>rfl
    unfold valI zbb biased
    simp only[zn4,zn5,zn6,zi7,zhh,zn7,zn8,zn9,zls,zlt,zlu,zc5,zfE,zlv,zlw,zlx,ziM,ziL,zbI,zbD,Nat.ble_eq,e1,e2] at ha hb ⊢
    split<;>split<;>omega
theorem zhj(hc:c<8)(ha:a<kMod c)(hb:b<kMod c):(valI c a=valI c b) ↔ a=b:=by
  constructor
  · intro h
    have:=congrArg (· % (kMod c:Int)) h
    simp only[zcs ha,zcs hb] at this
    omega
  · intro h;rw[h]
theorem ze3(hc:c<8)(ha:a<kMod c):(BitVec.ofInt (kOf c).bits (valI c a)).toNat=a:=by
  rw[BitVec.toNat_ofInt,zfT hc]
  have:((2 ^ zcM c:Nat):Int)=(kMod c:Int):=rfl
  rw[this,zcs ha];rfl
theorem zfU(hc:c<8)(n:Nat)(hn:n<kMod c):(kOf c).wrap (n:Int)=valI c n :=
  zcB hc _ (Int.emod_eq_of_lt (by omega) (by exact_mod_cast hn))
theorem zoN(hc:c<8){q:Nat}(hq:q≤kMod c):(kOf c).wrap (-(q:Int))=valI c (negN c q) :=
  zcB hc _ (by
    have e:((Nat.sub (kMod c) q:Nat):Int)=-(q:Int)+kMod c:=by show ((kMod c - q:Nat):Int)=_;omega
    have e2:((negN c q:Nat):Int)=((Nat.sub (kMod c) q:Nat):Int) % (kMod c:Int):=by unfold negN;rw[zbI];exact_mod_cast rfl
    rw[e2,e,Int.add_emod_right])
theorem zhK(hc:c<8)(ha:a<kMod c):valI c a=(if zbb c a then -(magn c a:Int) else (magn c a:Int))∧magn c a≤kMod c∧(zbb c a=true→magn c a≤zbj c∧0<magn c a)∧(zbb c a=false→magn c a<zbj c):=by
  unfold magn
  cases h:zbb c a
  · have:=zgA.1 h
    simp[zbs this];omega
  · have h1:=zfy.1 h
    have h2:=zhJ hc
    have e:∀ x y,Nat.sub x y=x - y:=fun _ _=>rfl
    simp[zeN h1,e];omega
theorem zxI(m n:Nat):Nat.div m n≤m:=Nat.div_le_self m n
theorem zxJ(hc:c<8)(ha:a<kMod c)(hb:b<kMod c):(kOf c).wrap ((valI c a).tdiv (valI c b))=valI c (quoN c a b):=by
  obtain⟨ea,la,_,_⟩:=zhK hc ha
  obtain⟨eb,lb,_,_⟩:=zhK hc hb
  have hq:Nat.div (magn c a) (magn c b)≤kMod c:=Nat.le_trans (zxI _ _) la
  have hd:((magn c a:Int)).tdiv (magn c b:Int)=((Nat.div (magn c a) (magn c b):Nat):Int):=rfl
  have hplus:(kOf c).wrap ((Nat.div (magn c a) (magn c b):Nat):Int)=valI c (Nat.mod (Nat.div (magn c a) (magn c b)) (kMod c)):=zcB hc _ (by exact_mod_cast rfl)
  unfold quoN
  rw[ea,eb]
  cases zbb c a<;>cases zbb c b
  · simp only[Bool.false_eq_true,if_false,xb,zai];rw[hd];exact hplus
  · simp only[Bool.false_eq_true,if_false,if_true,xb,zai,zag];rw[Int.tdiv_neg,hd];exact zoN hc hq
  · simp only[Bool.false_eq_true,if_false,if_true,xb,zai,zag];rw[Int.neg_tdiv,hd];exact zoN hc hq
  · simp only[if_true,xb,zai,zag];rw[Int.neg_tdiv_neg,hd];exact hplus
theorem zoO(hc:c<8)(ha:a<kMod c)(hb:b<kMod c)(h0:b ≠ 0):(valI c a).tmod (valI c b)=valI c (remN c a b)∧remN c a b<kMod c:=by
  obtain⟨ea,la,na,pa⟩:=zhK hc ha
  obtain⟨eb,lb,nb,pb⟩:=zhK hc hb
  have hk:=zhJ hc
  have hmb:0<magn c b:=by
    cases h:zbb c b
    · unfold magn;rw[h];show 0<b;omega
    · exact (nb h).2
  have hmod:((magn c a:Int)).tmod (magn c b:Int)=((Nat.mod (magn c a) (magn c b):Nat):Int):=rfl
  have hmm:Nat.mod (magn c a) (magn c b)<magn c b:=Nat.mod_lt _ hmb
  have hle:Nat.mod (magn c a) (magn c b)≤magn c a:=Nat.mod_le _ _
  have hbh:magn c b≤zbj c:=by
    cases h:zbb c b
    · exact Nat.le_of_lt (pb h)
    · exact (nb h).1
  have habs:(valI c a).tmod (valI c b)=(valI c a).tmod (magn c b:Int):=by
    rw[eb];cases zbb c b<;>simp
  unfold remN
  rw[habs]
  have e1:∀ x m,Nat.mod x m=x % m:=fun _ _=>rfl
  have e2:∀ x y,Nat.sub x y=x - y:=fun _ _=>rfl
  cases h:zbb c a
  · rw[h] at ea
    simp only[Bool.false_eq_true,if_false] at ea
    rw[ea,hmod,zai]
    have:=pa h
    refine⟨(zbs (by omega)).symm,by omega⟩
  · rw[h] at ea
    simp only[if_true] at ea
    rw[ea,Int.neg_tmod,hmod,zag]
    have h1:=na h
    have h2:=zfy.1 h
    have h3:=zj7 hc
    generalize hr:Nat.mod (magn c a) (magn c b)=r at *
    unfold negN
    rw[zbI,e1,e2]
    by_cases hz:r=0
    · subst hz
      simp only[Nat.sub_zero,Nat.mod_self]
      exact⟨by rw[zbs (by have:=@zcx c;omega)];simp,zcx⟩
    · rw[Nat.mod_eq_of_lt (by omega)]
      refine⟨?_,by omega⟩
      rw[zeN (by omega)]
      omega
end two
end Go.Eng
namespace Go.Eng
open Go.RowKit
variable {P:Program} {w0:World} {H:Hp} {φ:Ph} {c:Kont} {w:World}
def BinY(P:Program)(op:BinOp)(t:TypeId)(x y:Operand)(va vb:Value)(w:World)(v:Value)(w':World):Prop :=
  (do eqGuard op t x y va vb;binOp op t va vb:Sem Value).run P w=.ok v w'
theorem zsH{op:BinOp}{t:TypeId}{x y:Operand}{k k':IntKind}{m n:Int}(w:World):(eqGuard op t x y (.int k m) (.int k' n)).run P w=.ok () w:=by
  unfold eqGuard;cases op<;>rfl
theorem zdm{op:BinOp}{t:TypeId}{x y:Operand}{k k':IntKind}{m n:Int}{v:Value}(h:(binOp op t (.int k m) (.int k' n)).run P w=.ok v w):BinY P op t x y (.int k m) (.int k' n) w v w:=by
  simp only[BinY,Sem.run_bind,zsH,Result.andThen_ok,h]
theorem zck{k p:Nat}(hk:k<8)(hp:p<kMod k):VR φ (mk1 k p) (.int (kOf k) (valI k p)):=.int k p 0 0 [] hk hp
theorem zb7(b:Bool):VR φ (bV b) (.bool b):=.bool b 0 0 []
theorem zj8{Y:Value→World→Prop}{k:Nat}{f:Box (Nat→Nat→AV)}{a b:AV}{va vb:Value}(hk:k<8)(ha:VR φ a va)(hb:VR φ b vb)(hr:HR P w0 H φ w)(hok:AllOk ((int2 k f).run a b H c))
    (h:∀ x y,x<kMod k→y<kMod k→va=.int (kOf k) (valI k x)→vb=.int (kOf k) (valI k y)→∃ val,Y val w∧VR φ (f.run x y) val):Out P w0 Y H φ ((int2 k f).run a b H c) c:=by
  refine Out.bi hok fun h1 hok=>Out.bi hok fun h2 hok=>?_
  obtain⟨e1,l1,_⟩:=ha.of_int hk (zaa.1 h1)
  obtain⟨e2,l2,_⟩:=hb.of_int hk (zaa.1 h2)
  obtain⟨val,hy,hv⟩:=h a.p b.p l1 l2 e1 e2
  exact Out.same hr hv hy
theorem zlT{Y:Value→World→Prop}{k:Nat}{f:Box (Nat→Nat→AV)}{a b:AV}{va vb:Value}(hk:k<8)(ha:VR φ a va)(hb:VR φ b vb)(hr:HR P w0 H φ w)(hok:AllOk ((ziN k f).run a b H c))
    (h:∀ x y,x<kMod k→y<kMod k→y ≠ 0→va=.int (kOf k) (valI k x)→vb=.int (kOf k) (valI k y)→∃ val,Y val w∧VR φ (f.run x y) val):Out P w0 Y H φ ((ziN k f).run a b H c) c:=by
  refine Out.bi hok fun h1 hok=>Out.bi hok fun h2 hok=>?_
  obtain⟨e1,l1,_⟩:=ha.of_int hk (zaa.1 h1)
  obtain⟨e2,l2,_⟩:=hb.of_int hk (zaa.1 h2)
  refine Out.bi2 hok (fun _ hok=>(zaY hok).elim) fun h0 _=>?_
  obtain⟨val,hy,hv⟩:=h a.p b.p l1 l2 (zam.1 h0) e1 e2
  exact Out.same hr hv hy
theorem zdQ(b:Bool):nb b=!b:=by cases b<;>rfl
theorem zk8{c a b:Nat}(ha:a<kMod c):Nat.land a b<kMod c:=Nat.lt_of_le_of_lt (Nat.and_le_left) ha
theorem zvF{c a b:Nat}(ha:a<kMod c)(hb:b<kMod c):Nat.lor a b<kMod c:=Nat.or_lt_two_pow ha hb
theorem zsI{c a b:Nat}(ha:a<kMod c)(hb:b<kMod c):Nat.xor a b<kMod c:=Nat.xor_lt_two_pow ha hb
theorem zoP{c b:Nat}(hc:c<8)(hb:b<kMod c)(h:b ≠ 0):valI c b ≠ 0:=by
  have h0:valI c 0=0:=by
    refine kinds (p:=fun c=>valI c 0=0) ?_ ?_ ?_ ?_ ?_ ?_ ?_ ?_ hc<;>decide +kernel
  intro he
  exact h ((zhj hc hb (zcx (c:=c))).1 (he.trans h0.symm))
theorem znA{op:BinOp}{k:Nat}{t:TypeId}{x y:Operand}{f:Box (AV→AV→Hp→Kont→RL)}{a b:AV}{va vb:Value}(hk:k<8)(hf:intC op k=some f)(ha:VR φ a va)(hb:VR φ b vb)(hr:HR P w0 H φ w)
    (hok:AllOk (f.run a b H c)):Out P w0 (BinY P op t x y va vb w) H φ (f.run a b H c) c:=by
  have ar:∀ (g:Nat→Nat→Nat) (val:Int→Int→Int),(∀ m n,(binOp op t (.int (kOf k) m) (.int (kOf k) n)).run P w=.ok (.int (kOf k) (val m n)) w) →
      (∀ p q,p<kMod k→q<kMod k→val (valI k p) (valI k q)=valI k (g p q)∧g p q<kMod k)→f=int2 k ⟨fun a b=>mk1 k (g a b)⟩ →
      Out P w0 (BinY P op t x y va vb w) H φ (f.run a b H c) c:=by
    intro g val h1 h2 hf'
    subst hf'
    refine zj8 hk ha hb hr hok fun p q hp hq e1 e2=>⟨_,?_,zck hk (h2 p q hp hq).2⟩
    subst e1 e2
    rw[← (h2 p q hp hq).1]
    exact zdm (h1 _ _)
  have cm:∀ (g:Nat→Nat→Bool) (val:Int→Int→Bool),(∀ m n,(binOp op t (.int (kOf k) m) (.int (kOf k) n)).run P w=.ok (.bool (val m n)) w) →
      (∀ p q,p<kMod k→q<kMod k→val (valI k p) (valI k q)=g p q)→f=int2 k ⟨fun a b=>bV (g a b)⟩ →
      Out P w0 (BinY P op t x y va vb w) H φ (f.run a b H c) c:=by
    intro g val h1 h2 hf'
    subst hf'
    refine zj8 hk ha hb hr hok fun p q hp hq e1 e2=>⟨_,?_,zb7 _⟩
    subst e1 e2
    rw[← h2 p q hp hq]
    exact zdm (h1 _ _)
  have mlt:∀ n,Nat.mod n (kMod k)<kMod k:=fun n=>Nat.mod_lt _ zcx
  cases op<;>simp only[intC,zbD,Option.some.injEq,reduceCtorEq] at hf
  case add=>exact ar _ (fun m n=>(kOf k).wrap (m+n)) (fun _ _=>by simp[binOp,Op.intArith]) (fun p q hp hq=>⟨zxF hk hp hq,mlt _⟩) hf.symm
  case sub=>exact ar _ (fun m n=>(kOf k).wrap (m - n)) (fun _ _=>by simp[binOp,Op.intArith]) (fun p q hp hq=>⟨zxH hk hp hq,mlt _⟩) hf.symm
  case mul=>exact ar _ (fun m n=>(kOf k).wrap (m * n)) (fun _ _=>by simp[binOp,Op.intArith]) (fun p q hp hq=>⟨zxG hk hp hq,mlt _⟩) hf.symm
  case and=>exact ar _ (fun m n=>(kOf k).wrap ((BitVec.ofInt (kOf k).bits m &&& BitVec.ofInt (kOf k).bits n).toNat:Int)) (fun _ _=>by simp[binOp,Op.intBits]) (fun p q hp hq=>⟨by rw[BitVec.toNat_and,ze3 hk hp,ze3 hk hq];exact zfU hk _ (zk8 hp),zk8 hp⟩) hf.symm
  case or=>exact ar _ (fun m n=>(kOf k).wrap ((BitVec.ofInt (kOf k).bits m ||| BitVec.ofInt (kOf k).bits n).toNat:Int)) (fun _ _=>by simp[binOp,Op.intBits]) (fun p q hp hq=>⟨by rw[BitVec.toNat_or,ze3 hk hp,ze3 hk hq];exact zfU hk _ (zvF hp hq),zvF hp hq⟩) hf.symm
  case xor=>exact ar _ (fun m n=>(kOf k).wrap ((BitVec.ofInt (kOf k).bits m ^^^ BitVec.ofInt (kOf k).bits n).toNat:Int)) (fun _ _=>by simp[binOp,Op.intBits]) (fun p q hp hq=>⟨by rw[BitVec.toNat_xor,ze3 hk hp,ze3 hk hq];exact zfU hk _ (zsI hp hq),zsI hp hq⟩) hf.symm
  case andNot=>exact ar _ (fun m n=>(kOf k).wrap ((BitVec.ofInt (kOf k).bits m &&& ~~~BitVec.ofInt (kOf k).bits n).toNat:Int)) (fun _ _=>by simp[binOp,Op.intBits]) (fun p q hp hq=>⟨by rw[BitVec.toNat_and,BitVec.toNat_not,ze3 hk hp,ze3 hk hq,zfT hk];exact zfU hk _ (zk8 hp),zk8 hp⟩) hf.symm
  case eql=>exact cm _ (fun m n=>m == n) (fun _ _=>by simp[binOp,Op.intCmp]) (fun p q hp hq=>by rw[Bool.eq_iff_iff,beq_iff_eq,zaa];exact zhj hk hp hq) hf.symm
  case neq=>exact cm _ (fun m n=>m != n) (fun _ _=>by simp[binOp,Op.intCmp]) (fun p q hp hq=>by rw[zdQ,bne];congr 1;rw[Bool.eq_iff_iff,beq_iff_eq,zaa];exact zhj hk hp hq) hf.symm
  case lss=>exact cm _ (fun m n=>decide (m<n)) (fun _ _=>by simp[binOp,Op.intCmp]) (fun p q hp hq=>by rw[zdQ,Bool.eq_iff_iff,decide_eq_true_eq,Bool.not_eq_true',zaW];have:=zhi hk hq hp;omega) hf.symm
  case leq=>exact cm _ (fun m n=>decide (m≤n)) (fun _ _=>by simp[binOp,Op.intCmp]) (fun p q hp hq=>by rw[Bool.eq_iff_iff,decide_eq_true_eq,zah];exact zhi hk hp hq) hf.symm
  case gtr=>exact cm _ (fun m n=>decide (m > n)) (fun _ _=>by simp[binOp,Op.intCmp]) (fun p q hp hq=>by rw[zdQ,Bool.eq_iff_iff,decide_eq_true_eq,Bool.not_eq_true',zaW];have:=zhi hk hp hq;omega) hf.symm
  case geq=>exact cm _ (fun m n=>decide (m ≥ n)) (fun _ _=>by simp[binOp,Op.intCmp]) (fun p q hp hq=>by rw[Bool.eq_iff_iff,decide_eq_true_eq,zah];exact zhi hk hq hp) hf.symm
  case quo =>
    subst hf
    refine zlT hk ha hb hr hok fun p q hp hq h0 e1 e2=>⟨_,?_,zck hk (p:=quoN k p q) ?_⟩
    · subst e1 e2
      rw[← zxJ hk hp hq]
      exact zdm (by simp[binOp,Op.intDiv,zoP hk hq h0])
    · unfold quoN negN
      rw[zbI]
      cases xb (zbb k p) (zbb k q)<;>exact mlt _
  case rem =>
    subst hf
    refine zlT hk ha hb hr hok fun p q hp hq h0 e1 e2=>⟨_,?_,zck hk (zoO hk hp hq h0).2⟩
    subst e1 e2
    rw[← (zoO hk hp hq h0).1]
    exact zdm (by simp[binOp,Op.intDiv,zoP hk hq h0])
end Go.Eng
namespace Go.Eng
open Go.RowKit
theorem zor(l:List UInt8)(n:Nat):l.foldl (fun n b=>Nat.add (Nat.mul n 256) b.toNat) n=n * 256 ^ l.length+zaJ l:=by
  unfold zaJ
  induction l generalizing n with
  | nil=>simp
  | cons a l ih =>
    simp only[List.foldl_cons,List.length_cons]
    rw[ih,ih (Nat.add (Nat.mul 0 256) a.toNat)]
    show (n * 256+a.toNat) * 256 ^ l.length+_=n * 256 ^ (l.length+1)+((0 * 256+a.toNat) * 256 ^ l.length+_)
    rw[Nat.pow_succ]
    simp only[Nat.add_mul,Nat.zero_mul,Nat.zero_add]
    have:n * 256 * 256 ^ l.length=n * (256 ^ l.length * 256):=by rw[Nat.mul_assoc,Nat.mul_comm 256]
    omega
theorem zdR:zaJ []=0:=rfl
theorem zc4(a:UInt8)(l:List UInt8):zaJ (a::l)=a.toNat * 256 ^ l.length+zaJ l:=by
  show l.foldl _ (Nat.add (Nat.mul 0 256) a.toNat)=_
  rw[zor]
  show (0 * 256+a.toNat) * _+_=_
  simp
theorem zdA(l:List UInt8):zaJ l<256 ^ l.length:=by
  induction l with
  | nil=>simp[zdR]
  | cons a l ih =>
    rw[zc4,List.length_cons,Nat.pow_succ]
    have h1:a.toNat≤255:=by have:=a.toNat_lt;omega
    have h2:a.toNat * 256 ^ l.length≤255 * 256 ^ l.length:=Nat.mul_le_mul_right _ h1
    omega
theorem zfr(x y:List UInt8):zaJ (x++y)=zaJ x * 256 ^ y.length+zaJ y:=by
  induction x with
  | nil=>simp[zdR]
  | cons a x ih =>
    rw[List.cons_append,zc4,zc4,ih,List.length_append,Nat.pow_add,Nat.add_mul,Nat.mul_assoc]
    omega
theorem zk9{x y:List UInt8}(hl:x.length=y.length)(h:zaJ x=zaJ y):x=y:=by
  induction x generalizing y with
  | nil=>cases y with
    | nil=>rfl
    | cons b y=>simp at hl
  | cons a x ih=>cases y with
    | nil=>simp at hl
    | cons b y =>
      have hl':x.length=y.length:=by simpa using hl
      rw[zc4,zc4,hl'] at h
      have h1:=zdA x;have h2:=zdA y
      rw[hl'] at h1
      have hpos:0<256 ^ y.length:=Nat.pow_pos (by omega)
      have e:a.toNat=b.toNat:=by
        have e1:=congrArg (· / 256 ^ y.length) h
        simp only[Nat.mul_comm _ (256 ^ y.length),Nat.mul_add_div hpos,Nat.div_eq_of_lt h1,Nat.div_eq_of_lt h2,Nat.add_zero] at e1
        exact e1
      have e':a=b:=UInt8.toNat_inj.1 e
      subst e'
      rw[ih hl' (by omega)]
theorem zj9(x y:List UInt8):bi (nbeq x.length y.length) (nbeq (zaJ x) (zaJ y)) false=decide (x=y):=by
  by_cases h:x=y
  · subst h;simp
  · have:decide (x=y)=false:=by simpa using h
    rw[this]
    cases hl:nbeq x.length y.length
    · rfl
    · cases hn:nbeq (zaJ x) (zaJ y)
      · rfl
      · exact absurd (zk9 (zaa.1 hl) (zaa.1 hn)) h
theorem zhL(x y:List UInt8):Op.bytesLess x y=decide (zaJ x * 256 ^ y.length<zaJ y * 256 ^ x.length ∨ (zaJ x * 256 ^ y.length=zaJ y * 256 ^ x.length∧x.length<y.length)):=by
  induction x generalizing y with
  | nil=>cases y with
    | nil=>simp[Op.bytesLess,zdR]
    | cons b y =>
      simp only[Op.bytesLess,zdR,Nat.zero_mul,List.length_nil,Nat.pow_zero,Nat.mul_one,List.length_cons]
      rw[eq_comm,decide_eq_true_eq]
      omega
  | cons a x ih=>cases y with
    | nil=>simp[Op.bytesLess,zdR]
    | cons b y =>
      simp only[Op.bytesLess,ih,zc4,List.length_cons]
      have hx:=zdA x;have hy:=zdA y
      generalize zaJ x=X at *
      generalize zaJ y=Y at *
      have ex:(a.toNat * 256 ^ x.length+X) * 256 ^ (y.length+1)=a.toNat * (256 * 256 ^ x.length * 256 ^ y.length)+256 * (X * 256 ^ y.length):=by
        rw[Nat.pow_succ,Nat.add_mul]
        congr 1
        · rw[Nat.mul_assoc];congr 1;rw[Nat.mul_comm (256 ^ y.length) 256,← Nat.mul_assoc,Nat.mul_comm (256 ^ x.length) 256]
        · rw[Nat.mul_comm (256 ^ y.length) 256,← Nat.mul_assoc,Nat.mul_comm X 256,Nat.mul_assoc]
      have ey:(b.toNat * 256 ^ y.length+Y) * 256 ^ (x.length+1)=b.toNat * (256 * 256 ^ x.length * 256 ^ y.length)+256 * (Y * 256 ^ x.length):=by
        rw[Nat.pow_succ,Nat.add_mul]
        congr 1
        · rw[Nat.mul_assoc];congr 1;rw[Nat.mul_comm (256 ^ x.length) 256,← Nat.mul_assoc,Nat.mul_comm (256 ^ y.length) 256,Nat.mul_assoc,Nat.mul_comm (256 ^ y.length),← Nat.mul_assoc]
        · rw[Nat.mul_comm (256 ^ x.length) 256,← Nat.mul_assoc,Nat.mul_comm Y 256,Nat.mul_assoc]
      rw[ex,ey]
      have gx:256 * (X * 256 ^ y.length)<256 * 256 ^ x.length * 256 ^ y.length:=by
        rw[Nat.mul_assoc];exact Nat.mul_lt_mul_of_pos_left (Nat.mul_lt_mul_of_pos_right hx (Nat.pow_pos (by omega))) (by omega)
      have gy:256 * (Y * 256 ^ x.length)<256 * 256 ^ x.length * 256 ^ y.length:=by
        rw[Nat.mul_assoc,Nat.mul_comm (256 ^ x.length)];exact Nat.mul_lt_mul_of_pos_left (Nat.mul_lt_mul_of_pos_right hy (Nat.pow_pos (by omega))) (by omega)
      generalize 256 * 256 ^ x.length * 256 ^ y.length=M at *
      generalize X * 256 ^ y.length=U at *
      generalize Y * 256 ^ x.length=V at *
      rcases Nat.lt_trichotomy a.toNat b.toNat with h | h | h
      · have hab:decide (a<b)=true:=by simpa [UInt8.lt_iff_toNat_lt] using h
        have:a.toNat * M+M≤b.toNat * M:=by
          have:=Nat.mul_le_mul_right M (show a.toNat+1≤b.toNat by omega)
          rw[Nat.add_mul] at this;omega
        rw[hab,Bool.true_or,eq_comm,decide_eq_true_eq]
        left;omega
      · have he:a=b:=UInt8.toNat_inj.1 h
        subst he
        have hab:decide (a<a)=false:=by simp
        rw[hab,Bool.false_or,beq_self_eq_true,Bool.true_and]
        rw[Bool.eq_iff_iff,decide_eq_true_eq,decide_eq_true_eq]
        omega
      · have hab:decide (a<b)=false:=by simp[UInt8.lt_iff_toNat_lt];omega
        have hne:(a == b)=false:=by
          rw[beq_eq_false_iff_ne];intro e;subst e;omega
        have:b.toNat * M+M≤a.toNat * M:=by
          have:=Nat.mul_le_mul_right M (show b.toNat+1≤a.toNat by omega)
          rw[Nat.add_mul] at this;omega
        rw[hab,hne,Bool.false_or,Bool.false_and,eq_comm,decide_eq_false_iff_not]
        omega
end Go.Eng
namespace Go.Eng
open Go.RowKit
variable {P:Program} {w0:World} {H:Hp} {φ:Ph} {c:Kont} {w:World}
def zoQ(va vb:Value):Prop:=(match va,vb with | .nilIface,.nilIface=>False | .agg _,.agg _=>False | _,_=>True)
theorem zep{op:BinOp}{t:TypeId}{x y:Operand}{va vb v:Value}(hg:zoQ va vb)(h:(binOp op t va vb).run P w=.ok v w):BinY P op t x y va vb w v w:=by
  have:(eqGuard op t x y va vb).run P w=.ok () w:=by
    unfold eqGuard
    cases op<;>first | rfl | (cases va<;>cases vb<;>first | rfl | exact hg.elim)
  simp only[BinY,Sem.run_bind,this,Result.andThen_ok,h]
theorem zoR{k a n:Nat}(hk:k<8)(ha:a<kMod k):(kOf k).wrap (valI k a * 2 ^ min n (zcM k))=valI k (shlN k a n)∧shlN k a n<kMod k:=by
  have e2:∀ x y,Nat.mod x y=x % y:=fun _ _=>rfl
  have e3:∀ x y,Nat.shiftLeft x y=x <<< y:=fun _ _=>rfl
  have key:∀ m,((a * 2 ^ m % kMod k:Nat):Int)=(valI k a * 2 ^ m) % (kMod k:Int):=by
    intro m
    rw[Int.mul_emod,zcs ha]
    have:((2:Int) ^ m)=((2 ^ m:Nat):Int):=by simp
    rw[this]
    rw[Int.natCast_emod,Int.natCast_mul,Int.mul_emod (a:Int),Int.emod_eq_of_lt (a:=(a:Int)) (by omega) (by exact_mod_cast ha)]
  unfold shlN
  rw[zbD]
  cases h:nble (zcM k) n
  · have:=zaW.1 h
    rw[zai,Nat.min_eq_left (by omega),e2,e3,Nat.shiftLeft_eq]
    exact⟨zcB hk _ (key n).symm,Nat.mod_lt _ zcx⟩
  · have:=zah.1 h
    rw[zag,Nat.min_eq_right this]
    refine⟨zcB hk _ ?_,zcx⟩
    rw[← key]
    show ((a * kMod k % kMod k:Nat):Int)=_
    rw[Nat.mul_mod_left]
theorem zoS{k a n:Nat}(hk:k<8)(ha:a<kMod k):(valI k a).fdiv (2 ^ min n (zcM k))=valI k (shrN k a n)∧shrN k a n<kMod k:=by
  have e3:∀ x y,Nat.shiftRight x y=x >>> y:=fun _ _=>rfl
  have e4:∀ x y,Nat.sub x y=x - y:=fun _ _=>rfl
  have e5:∀ x,Nat.pred x=x - 1:=fun _=>rfl
  have hM:kMod k=2 ^ zcM k:=rfl
  have hpos:∀ m,(0:Int)≤2 ^ m:=fun m=>by
    have:((2:Int) ^ m)=((2 ^ m:Nat):Int):=by simp
    rw[this];exact Int.natCast_nonneg _
  have hk2:=zhJ hk
  unfold shrN
  rw[zbD]
  cases hn:zbb k a
  · rw[zai]
    have hlt:=zgA.1 hn
    rw[zbs hlt,Int.fdiv_eq_ediv_of_nonneg _ (hpos _)]
    have hc:∀ m,(a:Int) / 2 ^ m=((a / 2 ^ m:Nat):Int):=fun m=>by simp
    rw[hc]
    cases h:nble (zcM k) n
    · have:=zaW.1 h
      rw[zai,Nat.min_eq_left (by omega),e3,Nat.shiftRight_eq_div_pow]
      have hle:a / 2 ^ n≤a:=Nat.div_le_self _ _
      exact⟨(zbs (by omega)).symm,by omega⟩
    · have:=zah.1 h
      rw[zag,Nat.min_eq_right this,← hM,Nat.div_eq_of_lt ha]
      exact⟨(zbs (by omega)).symm,zcx⟩
  · rw[zag]
    have hge:=zfy.1 hn
    have hor:=zj7 hk
    rw[zeN hge,Int.fdiv_eq_ediv_of_nonneg _ (hpos _)]
    have hd:(a:Int) - kMod k=-(((kMod k - 1 - a:Nat):Int)+1):=by omega
    have hdiv:∀ (d m:Nat),(-((d:Int)+1)) / 2 ^ m=-(((d / 2 ^ m:Nat):Int)+1):=by
      intro d m
      have h1:-((d:Int)+1)=Int.negSucc d:=(Int.negSucc_eq d).symm
      have h2:((2:Int) ^ m)=((2 ^ m:Nat):Int):=by simp
      have h3:0<2 ^ m:=Nat.two_pow_pos m
      rw[h1,h2,Int.negSucc_ediv _ (by exact_mod_cast h3)]
      simp
      rfl
    rw[hd,hdiv]
    cases h:nble (zcM k) n
    · have:=zaW.1 h
      rw[zai,Nat.min_eq_left (by omega),e3,Nat.shiftRight_eq_div_pow,e5,e4,e4]
      have hle:(kMod k - 1 - a) / 2 ^ n≤kMod k - 1 - a:=Nat.div_le_self _ _
      generalize (kMod k - 1 - a) / 2 ^ n=r at *
      refine⟨?_,by omega⟩
      rw[zeN (by omega)];omega
    · have:=zah.1 h
      rw[zag,Nat.min_eq_right this,← hM,Nat.div_eq_of_lt (by omega),e5]
      refine⟨?_,by omega⟩
      rw[zeN (by omega)];omega
theorem zea{k p:Nat}(h:zbb k p=false):valI k p=p:=zbs (zgA.1 h)
theorem z07{left:Bool}{t:TypeId}{x y:Operand}{k d:Nat}{a b:AV}{va vb:Value}(hk:k<8)(hd:d<8)(ha:VR φ a va)(hb:VR φ b vb)(hr:HR P w0 H φ w)(hok:AllOk ((shC left k d).run a b H c)) :
    Out P w0 (BinY P (bi left .shl .shr) t x y va vb w) H φ ((shC left k d).run a b H c) c:=by
  refine Out.bi hok fun h1 hok=>Out.bi hok fun h2 hok=>Out.bi2 hok (fun _ hok=>(zaY hok).elim) fun h3 _=>?_
  obtain⟨rfl,l1,_⟩:=ha.of_int hk (zaa.1 h1)
  obtain⟨rfl,l2,_⟩:=hb.of_int hd (zaa.1 h2)
  have hy:valI d b.p=(b.p:Int):=zea h3
  have hneg:¬ ((b.p:Int)<0):=by omega
  cases left
  · refine Out.same hr (zck hk (zoS hk l1).2) (zep trivial ?_)
    simp only[zai,binOp,Op.shift,hy,hneg,if_false,Int.toNat_natCast,zfT hk,(zoS hk l1).1]
    rfl
  · refine Out.same hr (zck hk (zoR hk l1).2) (zep trivial ?_)
    simp only[zag,binOp,Op.shift,hy,hneg,if_false,Int.toNat_natCast,zfT hk,(zoR hk l1).1]
    rfl
theorem zi8{d:Nat}{t:TypeId}(h:(tyB P t).run=some .bool)(a b:Bool):(Op.equalIn (d+1) t (.bool a) (.bool b)).run P w=.ok (a == b) w:=by
  simp only[Op.equalIn,Sem.run_bind,zav h,Result.andThen_ok];rfl
theorem zgB{d:Nat}{t e:TypeId}(h:(tyB P t).run=some (.pointer e))(a:Option Addr):(Op.equalIn (d+1) t (.pointer none) (.pointer a)).run P w=.ok a.isNone w∧(Op.equalIn (d+1) t (.pointer a) (.pointer none)).run P w=.ok a.isNone w:=by
  cases a<;>simp only[Op.equalIn,Sem.run_bind,zav h,Result.andThen_ok]<;>exact⟨rfl,rfl⟩
theorem zfz{d:Nat}{t e:TypeId}(h:(tyB P t).run=some (.slice e))(a:Option Addr)(l k:Nat):(Op.equalIn (d+1) t (.slice none 0 0) (.slice a l k)).run P w=.ok a.isNone w∧(Op.equalIn (d+1) t (.slice a l k) (.slice none 0 0)).run P w=.ok a.isNone w:=by
  cases a<;>simp only[Op.equalIn,Sem.run_bind,zav h,Result.andThen_ok]<;>exact⟨rfl,rfl⟩
theorem zgC{d:Nat}{t k e:TypeId}(h:(tyB P t).run=some (.map k e))(a:Option Nat):(Op.equalIn (d+1) t (.map none) (.map a)).run P w=.ok a.isNone w∧(Op.equalIn (d+1) t (.map a) (.map none)).run P w=.ok a.isNone w:=by
  cases a<;>simp only[Op.equalIn,Sem.run_bind,zav h,Result.andThen_ok]<;>exact⟨rfl,rfl⟩
theorem zfV{d:Nat}{t:TypeId}{p q:Array TypeId}{v:Bool}(h:(tyB P t).run=some (.func p q v)):(Op.equalIn (d+1) t .nilFunc .nilFunc).run P w=.ok true w ∧
    ∀ f x y,(Op.equalIn (d+1) t .nilFunc (.func f x y)).run P w=.ok false w∧(Op.equalIn (d+1) t (.func f x y) .nilFunc).run P w=.ok false w:=by
  refine⟨?_,fun f x y=>⟨?_,?_⟩⟩<;>simp only[Op.equalIn,Sem.run_bind,zav h,Result.andThen_ok]<;>rfl
theorem zkA{t:TypeId}{va vb:Value}{b:Bool}(want:Bool)(h:(Op.equal t va vb).run P w=.ok b w)
    (hd:∀ op,op=BinOp.eql ∨ op=BinOp.neq→binOp op t va vb=(match op with | .eql=>(do pure (.bool (← Op.equal t va vb)):Sem Value) | _=>(do pure (.bool (!(← Op.equal t va vb))):Sem Value))) :
    (binOp (bi want .eql .neq) t va vb).run P w=.ok (.bool (bi want b !b)) w:=by
  cases want
  · rw[zai,hd _ (.inr rfl)]
    simp only[Sem.run_bind,h,Result.andThen_ok,zai];rfl
  · rw[zag,hd _ (.inl rfl)]
    simp only[Sem.run_bind,h,Result.andThen_ok,zag];rfl
theorem zkB{want:Bool}{t:TypeId}{x y:Operand}{a b:AV}{va vb:Value}(ht:(tyB P t).run=some .bool)(ha:VR φ a va)(hb:VR φ b vb)(hr:HR P w0 H φ w)(hok:AllOk ((zf6 want).run a b H c)) :
    Out P w0 (BinY P (bi want .eql .neq) t x y va vb w) H φ ((zf6 want).run a b H c) c:=by
  refine Out.bi hok fun h1 hok=>Out.bi hok fun h2 _=>?_
  obtain⟨p,rfl,e1,_⟩:=ha.of_bool (zaa.1 h1)
  obtain⟨q,rfl,e2,_⟩:=hb.of_bool (zaa.1 h2)
  have hbe:nbeq a.p b.p=(p == q):=by rw[e1,e2];cases p<;>cases q<;>rfl
  rw[zdQ,hbe]
  refine Out.same hr (zb7 _) (zep trivial (zkA want ?_ ?_))
  · exact zi8 ht p q
  · rintro op (rfl | rfl)<;>rfl
def zoT(n m:Nat)(d:TypeDesc):Prop:=(n=0∧m=10∧∃ e,d=.pointer e) ∨ (n=1∧m=11∧∃ e,d=.slice e) ∨ (n=2∧m=12∧∃ k e,d=.map k e) ∨ (n=3∧m=13∧∃ p r v,d=.func p r v)
theorem zlU{want:Bool}{n m:Nat}{d:TypeDesc}{t:TypeId}{x y:Operand}{a b:AV}{va vb:Value}(hd:zoT n m d)(ht:(tyB P t).run=some d)(ha:VR φ a va)(hb:VR φ b vb)(hr:HR P w0 H φ w)(hok:AllOk ((zgF want n m).run a b H c)) :
    Out P w0 (BinY P (bi want .eql .neq) t x y va vb w) H φ ((zgF want n m).run a b H c) c:=by
  have nilv:∀ {a:AV} {va:Value},VR φ a va→bi (nbeq a.tag 17) (nbeq a.p n) false=true→va=(match n with | 0=>.pointer none | 1=>.slice none 0 0 | 2=>.map none | _=>.nilFunc):=by
    intro a va h hh
    cases h17:nbeq a.tag 17
    · rw[h17] at hh;cases hh
    · rw[h17,zag] at hh
      have hp:=zaa.1 hh
      rcases h.of_nil (zaa.1 h17) with⟨e,rfl⟩ | ⟨e,rfl⟩ | ⟨e,rfl⟩ | ⟨e,rfl⟩ | ⟨e,rfl⟩<;>rw[e] at hp<;>subst hp<;>first | rfl | (rcases hd with h | h | h | h<;>exact absurd h.1 (by decide))
  have thev:∀ {a:AV} {va:Value},VR φ a va→nbeq a.tag m=true→(match n with | 0=>∃ p,va=.pointer (some p) | 1=>∃ p l k,va=.slice (some p) l k | 2=>∃ p,va=.map (some p) | _=>∃ f p q,va=.func f p q):=by
    intro a va h hh
    have hm:=zaa.1 hh
    rcases hd with⟨rfl,rfl,_⟩ | ⟨rfl,rfl,_⟩ | ⟨rfl,rfl,_⟩ | ⟨rfl,rfl,_⟩
    · obtain⟨p,rfl,_⟩:=h.of_ptr hm;exact⟨_,rfl⟩
    · obtain⟨p,k,rfl,_⟩:=h.of_sl hm;exact⟨_,_,_,rfl⟩
    · obtain⟨p,rfl,_⟩:=h.of_map hm;exact⟨_,rfl⟩
    · obtain⟨p,q,rfl,_⟩:=h.of_fn hm;exact⟨_,_,_,rfl⟩
  have fin:∀ (r:Bool),zoQ va vb→(Op.equal t va vb).run P w=.ok r w→(∀ op,op=BinOp.eql ∨ op=BinOp.neq→binOp op t va vb=(match op with | .eql=>(do pure (.bool (← Op.equal t va vb)):Sem Value) | _=>(do pure (.bool (!(← Op.equal t va vb))):Sem Value))) →
      Out P w0 (BinY P (bi want .eql .neq) t x y va vb w) H φ (c H (bV (bi want r (!r)))) c:=by
    intro r hg h1 h2
    exact Out.same hr (zb7 _) (zep hg (zkA want h1 h2))
  have ft:bV want=bV (bi want true (!true)):=by cases want<;>rfl
  have ff:bV (nb want)=bV (bi want false (!false)):=by cases want<;>rfl
  refine Out.bi2 hok (fun h1 hok=>Out.bi2 hok (fun h2 _=>?_) fun _ hok=>Out.bi hok fun h2 _=>?_) fun _ hok=>Out.bi hok fun h1 hok=>Out.bi hok fun h2 _=>?_
  · rw[ft]
    rcases hd with⟨rfl,rfl,e,rfl⟩ | ⟨rfl,rfl,e,rfl⟩ | ⟨rfl,rfl,k,e,rfl⟩ | ⟨rfl,rfl,k,e,v,rfl⟩
    · have e1:va=.pointer none:=nilv ha h1;have e2:vb=.pointer none:=nilv hb h2
      subst e1 e2
      exact fin true trivial (zgB ht none).1 (by rintro op (rfl | rfl)<;>rfl)
    · have e1:va=.slice none 0 0:=nilv ha h1;have e2:vb=.slice none 0 0:=nilv hb h2
      subst e1 e2
      exact fin true trivial (zfz ht none 0 0).1 (by rintro op (rfl | rfl)<;>rfl)
    · have e1:va=.map none:=nilv ha h1;have e2:vb=.map none:=nilv hb h2
      subst e1 e2
      exact fin true trivial (zgC ht none).1 (by rintro op (rfl | rfl)<;>rfl)
    · have e1:va=.nilFunc:=nilv ha h1;have e2:vb=.nilFunc:=nilv hb h2
      subst e1 e2
      exact fin true trivial (zfV ht).1 (by rintro op (rfl | rfl)<;>rfl)
  · rw[ff]
    rcases hd with⟨rfl,rfl,e,rfl⟩ | ⟨rfl,rfl,e,rfl⟩ | ⟨rfl,rfl,k,e,rfl⟩ | ⟨rfl,rfl,k,e,v,rfl⟩
    · have e1:va=.pointer none:=nilv ha h1;obtain⟨p,rfl⟩:∃ p,vb=.pointer (some p):=thev hb h2
      subst e1
      exact fin false trivial (zgB ht (some p)).1 (by rintro op (rfl | rfl)<;>rfl)
    · have e1:va=.slice none 0 0:=nilv ha h1;obtain⟨p,l,k,rfl⟩:∃ p l k,vb=.slice (some p) l k:=thev hb h2
      subst e1
      exact fin false trivial (zfz ht (some p) l k).1 (by rintro op (rfl | rfl)<;>rfl)
    · have e1:va=.map none:=nilv ha h1;obtain⟨p,rfl⟩:∃ p,vb=.map (some p):=thev hb h2
      subst e1
      exact fin false trivial (zgC ht (some p)).1 (by rintro op (rfl | rfl)<;>rfl)
    · have e1:va=.nilFunc:=nilv ha h1;obtain⟨f,p,q,rfl⟩:∃ f p q,vb=.func f p q:=thev hb h2
      subst e1
      exact fin false trivial ((zfV ht).2 f p q).1 (by rintro op (rfl | rfl)<;>rfl)
  · rw[ff]
    rcases hd with⟨rfl,rfl,e,rfl⟩ | ⟨rfl,rfl,e,rfl⟩ | ⟨rfl,rfl,k,e,rfl⟩ | ⟨rfl,rfl,k,e,v,rfl⟩
    · have e2:vb=.pointer none:=nilv hb h2;obtain⟨p,rfl⟩:∃ p,va=.pointer (some p):=thev ha h1
      subst e2
      exact fin false trivial (zgB ht (some p)).2 (by rintro op (rfl | rfl)<;>rfl)
    · have e2:vb=.slice none 0 0:=nilv hb h2;obtain⟨p,l,k,rfl⟩:∃ p l k,va=.slice (some p) l k:=thev ha h1
      subst e2
      exact fin false trivial (zfz ht (some p) l k).2 (by rintro op (rfl | rfl)<;>rfl)
    · have e2:vb=.map none:=nilv hb h2;obtain⟨p,rfl⟩:∃ p,va=.map (some p):=thev ha h1
      subst e2
      exact fin false trivial (zgC ht (some p)).2 (by rintro op (rfl | rfl)<;>rfl)
    · have e2:vb=.nilFunc:=nilv hb h2;obtain⟨f,p,q,rfl⟩:∃ f p q,va=.func f p q:=thev ha h1
      subst e2
      exact fin false trivial ((zfV ht).2 f p q).2 (by rintro op (rfl | rfl)<;>rfl)
theorem zi9(l:List UInt8):VR φ ⟨9,zaJ l,l.length,0,0,[]⟩ (.string ⟨l.toArray⟩):=.str l 0 0 []
theorem zlV{want:Bool}{t:TypeId}{x y:Operand}{a b:AV}{va vb:Value}(ha:VR φ a va)(hb:VR φ b vb)(hr:HR P w0 H φ w)(hok:AllOk ((zgG want).run a b H c)) :
    Out P w0 (BinY P (bi want .eql .neq) t x y va vb w) H φ ((zgG want).run a b H c) c:=by
  refine Out.bi hok fun h1 hok=>Out.bi hok fun h2 _=>?_
  obtain⟨p,rfl,e1,e1'⟩:=ha.of_str (zaa.1 h1)
  obtain⟨q,rfl,e2,e2'⟩:=hb.of_str (zaa.1 h2)
  have hbe:decide (p=q)=(p == q):=by rw[Bool.eq_iff_iff,decide_eq_true_eq,beq_iff_eq]
  rw[zdQ,e1,e1',e2,e2',zj9,hbe]
  refine Out.same hr (zb7 _) (zep trivial ?_)
  cases want
  · simp only[zai,binOp,Op.stringOp,ByteArray.toList_mk];rfl
  · simp only[zag,binOp,Op.stringOp,ByteArray.toList_mk];rfl
theorem zhM{a b:AV}{p q:List UInt8}(e1:a.p=zaJ p)(e1':a.q=p.length)(e2:b.p=zaJ q)(e2':b.q=q.length):zbp a b=Op.bytesLess p q:=by
  unfold zbp
  rw[zbD,zbD]
  unfold zmT
  rw[zhL,e1,e1',e2,e2']
  have em:∀ x y,Nat.mul x y=x * y:=fun _ _=>rfl
  have ep:∀ x y,Nat.pow x y=x ^ y:=fun _ _=>rfl
  simp only[em,ep]
  cases h:nble (Nat.succ (zaJ p * 256 ^ q.length)) (zaJ q * 256 ^ p.length)
  · have h':=zaW.1 h
    rw[zai]
    cases h2:nbeq (zaJ p * 256 ^ q.length) (zaJ q * 256 ^ p.length)
    · have h2':=zam.1 h2
      rw[zai,eq_comm,decide_eq_false_iff_not]
      omega
    · have h2':=zaa.1 h2
      rw[zag,Bool.eq_iff_iff,decide_eq_true_eq,zah]
      omega
  · have h':=zah.1 h
    rw[zag,eq_comm,decide_eq_true_eq]
    omega
theorem zkC(p q:List UInt8):(Op.bytesLess p q || p == q)=!Op.bytesLess q p:=by
  rw[zhL,zhL]
  by_cases h:p=q
  · subst h;simp
  · have hne:(p == q)=false:=by simpa using h
    rw[hne,Bool.or_false,Bool.eq_iff_iff,decide_eq_true_eq,Bool.not_eq_true',decide_eq_false_iff_not]
    have hd:zaJ p * 256 ^ q.length=zaJ q * 256 ^ p.length→p.length ≠ q.length:=by
      intro e hl
      rw[hl] at e
      exact h (zk9 hl (Nat.eq_of_mul_eq_mul_right (Nat.pow_pos (by omega)) e))
    omega
theorem zf0{op:BinOp}{f:AV→AV→Bool}{t:TypeId}{x y:Operand}{a b:AV}{va vb:Value}(hf:(op=.lss∧f=zbp) ∨ (op=.gtr∧f=fun a b=>zbp b a) ∨ (op=.leq∧f=fun a b=>nb (zbp b a)) ∨ (op=.geq∧f=fun a b=>nb (zbp a b)))
    (ha:VR φ a va) (hb:VR φ b vb) (hr:HR P w0 H φ w) (hok:AllOk ((zei f).run a b H c)) :
    Out P w0 (BinY P op t x y va vb w) H φ ((zei f).run a b H c) c:=by
  refine Out.bi hok fun h1 hok=>Out.bi hok fun h2 _=>?_
  obtain⟨p,rfl,e1,e1'⟩:=ha.of_str (zaa.1 h1)
  obtain⟨q,rfl,e2,e2'⟩:=hb.of_str (zaa.1 h2)
  refine Out.same hr (zb7 _) (zep trivial ?_)
  rcases hf with⟨rfl,rfl⟩ | ⟨rfl,rfl⟩ | ⟨rfl,rfl⟩ | ⟨rfl,rfl⟩<;>simp only[zdQ,zhM e1 e1' e2 e2',zhM e2 e2' e1 e1',binOp,Op.stringOp,ByteArray.toList_mk,zkC,Bool.not_not]<;>rfl
theorem zxK{t:TypeId}{x y:Operand}{a b:AV}{va vb:Value}(ha:VR φ a va)(hb:VR φ b vb)(hr:HR P w0 H φ w)(hok:AllOk (catC.run a b H c)) :
    Out P w0 (BinY P .add t x y va vb w) H φ (catC.run a b H c) c:=by
  refine Out.bi hok fun h1 hok=>Out.bi hok fun h2 hok=>Out.bi hok fun h3 _=>?_
  obtain⟨p,rfl,e1,e1'⟩:=ha.of_str (zaa.1 h1)
  obtain⟨q,rfl,e2,e2'⟩:=hb.of_str (zaa.1 h2)
  have h3':=zah.1 h3
  have ea:Nat.add a.q b.q=a.q+b.q:=rfl
  rw[ea] at h3'
  have hv:VR φ ⟨9,Nat.add (Nat.mul a.p (Nat.pow 256 b.q)) b.p,Nat.add a.q b.q,0,0,[]⟩ (.string ⟨(p++q).toArray⟩):=by
    have:=zi9 (φ:=φ) (p++q)
    rw[zfr,List.length_append] at this
    rw[e1,e1',e2,e2']
    exact this
  refine Out.same hr hv (zep trivial ?_)
  have:binOp .add t (.string ⟨p.toArray⟩) (.string ⟨q.toArray⟩)=Op.stringOp .add ⟨p.toArray⟩ ⟨q.toArray⟩:=rfl
  rw[this,← ByteArray.mk_append_mk]
  refine run_string_add_sum _ _ _ ?_
  simp only[ByteArray.size_mk',List.size_toArray]
  omega
end Go.Eng
