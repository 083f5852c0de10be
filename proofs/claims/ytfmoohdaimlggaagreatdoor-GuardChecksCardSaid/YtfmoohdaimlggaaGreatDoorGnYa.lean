/- A part of the proof that the evaluator in GnC, and the driver in GnZ, answer as the model does; no conditions. -/
import Derived.Test.YtfmoohdaimlggaaGreatDoorGnSa
namespace Go.Eng
open Go.RowKit
variable {P:Program} {w0:World} {H:Hp} {φ:Ph} {c:Kont} {w:World} {z:Nat→Option (List Value)}
theorem zaw{a b:Bool}:bi a b false=true ↔ a=true∧b=true:=by cases a<;>cases b<;>simp[bi]
theorem zbw{a b:Bool}:bi a true b=true ↔ a=true ∨ b=true:=by cases a<;>cases b<;>simp[bi]
theorem FZ.vr{a:AV}{v:Value}(h:FZ φ.fz a v):VR φ a v :=
  FZ.rec (motive_1:=fun a v _=>VR φ a v) (motive_2:=fun as vs _=>VRs φ as vs)
    (fun c p r s cs h1 h2=>.int c p r s cs h1 h2) (fun b r s cs=>.bool b r s cs) (fun l r s cs=>.str l r s cs)
    (fun q r s cs=>.nilp q r s cs) (fun q r s cs=>.nilm q r s cs) (fun q r s cs=>.nilf q r s cs) (fun q r s=>.frz _ _ _ _ _ _ (.nils q r s)) (fun q r a cap=>.frz _ _ _ _ _ _ (.empty q r a cap)) (fun q r s a=>.frz _ _ _ _ _ _ (.done q r s a))
    (fun q r s cs x off cap C l h1 h2 h3 h4 h5 h6 h7 h8 _=>.frz _ _ _ _ _ _ (.sl q r s cs x off cap C l h1 h2 h3 h4 h5 h6 h7 h8))
    (fun q r s x off e C l h1 h2 h3 h4 _=>.fptr _ _ _ _ _ _ (.ptr q r s x off e C l h1 h2 h3 h4)) .nil (fun _ _ i1 i2=>.cons i1 i2) h
theorem FZs.vrs{as:List AV}{vs:List Value}(h:FZs φ.fz as vs):VRs φ as vs:=by
  induction as generalizing vs with
  | nil=>cases h;exact .nil
  | cons a as ih=>cases h with | cons h1 h2=>exact .cons h1.vr (ih h2)
theorem FZs.length{as:List AV}{vs:List Value}(h:FZs z as vs):as.length=vs.length:=by
  induction as generalizing vs with
  | nil=>cases h;rfl
  | cons a as ih=>cases h with | cons h1 h2=>simp[ih h2]
theorem FZs.get{as:List AV}{vs:List Value}(h:FZs z as vs){i:Nat}{a:AV}(ha:as[i]?=some a):∃ v,vs[i]?=some v∧FZ z a v:=by
  induction as generalizing vs i with
  | nil=>simp at ha
  | cons x as ih=>cases h with
    | cons h1 h2=>cases i with
      | zero=>simp at ha;subst ha;exact⟨_,by simp,h1⟩
      | succ i=>simpa using ih h2 (by simpa using ha)
theorem FZs.append{as bs:List AV}{vs ws:List Value}(h:FZs z as vs)(h':FZs z bs ws):FZs z (as++bs) (vs++ws):=by
  induction as generalizing vs with
  | nil=>cases h;exact h'
  | cons a as ih=>cases h with | cons h1 h2=>exact .cons h1 (ih h2)
theorem FZs.take{as:List AV}{vs:List Value}(h:FZs z as vs)(n:Nat):FZs z (as.take n) (vs.take n):=by
  induction as generalizing vs n with
  | nil=>cases h;simp;exact .nil
  | cons a as ih=>cases h with
    | cons h1 h2=>cases n with
      | zero=>exact .nil
      | succ n=>exact .cons h1 (ih h2 n)
theorem FZs.drop{as:List AV}{vs:List Value}(h:FZs z as vs)(n:Nat):FZs z (as.drop n) (vs.drop n):=by
  induction as generalizing vs n with
  | nil=>cases h;simp;exact .nil
  | cons a as ih=>cases h with
    | cons h1 h2=>cases n with
      | zero=>exact .cons h1 h2
      | succ n=>exact ih h2 n
theorem FZ.one{a:AV}{v:Value}(h:FZ z a v):za6 a=true:=by
  cases h<;>first | rfl | (unfold za6;simp only;rw[zah.2 (by omega)];rfl)
theorem VR.of_frz{a:AV}{v:Value}(h:VR φ a v)(ht:a.tag=24):FZ φ.fz a v:=by
  cases h<;>simp only at ht<;>first | assumption | omega
theorem VR.of_fptr{a:AV}{v:Value}(h:VR φ a v)(ht:a.tag=26):FZ φ.fz a v:=by
  cases h<;>simp only at ht<;>first | assumption | omega
theorem FZ.of_ptr{a:AV}{v:Value}(h:FZ z a v)(ht:a.tag=26):∃ e x off C l,a.cs=[e]∧z x=some C∧FZs z (cellsOf e) l∧zaO e=true∧(C.drop off).take l.length=l∧v=.pointer (some ⟨x,off+a.q,none⟩):=by
  cases h<;>simp only at ht<;>first | exact⟨_,_,_,_,_,rfl,by assumption,by assumption,by assumption,by assumption,rfl⟩ | omega
inductive FSl(z:Nat→Option (List Value))(a:AV):Value→Prop
  | nil:a.p=0→a.cs=[]→FSl z a (.slice none 0 0)
  | empty (ad:Addr) (cap:Nat):a.p=1→a.cs=[]→(a.s=0 ∨ cap=0)→FSl z a (.slice (some ad) 0 cap)
  | sl (x off cap:Nat) (C l:List Value):a.p=1→z x=some C→FZs z (zba a.cs) l→(∀ c ∈ a.cs,zaO c=true∧(cellsOf c).length=a.r)→a.cs.length≤cap→(a.s=1→cap=a.cs.length)→a.cs.length<2 ^ 63 →
      (C.drop off).take l.length=l→0<a.cs.length→FSl z a (.slice (some ⟨x,off,none⟩) a.cs.length cap)
theorem FZ.of_sl{a:AV}{v:Value}(h:FZ z a v)(ht:a.tag=24):FSl z a v:=by
  cases h with
  | nils q r s=>exact .nil rfl rfl
  | empty q r a cap=>exact .empty a cap rfl rfl (.inl rfl)
  | done q r s a=>exact .empty a 0 rfl rfl (.inr rfl)
  | sl q r s cs x off cap C l h1 h2 h3 h4 h5 h6 h7 h8=>exact .sl x off cap C l rfl h1 h2 h3 h4 h5 h6 h7 h8
  | _=>simp only at ht;omega
theorem FSl.fz{a:AV}{v:Value}(h:FSl z a v)(q s:Nat)(hs:s=0 ∨ s=a.s):FZ z ⟨24,a.p,q,a.r,s,a.cs⟩ v:=by
  cases h with
  | nil h1 h2=>rw[h1,h2];exact .nils q _ s
  | empty ad cap h1 h2 h3 =>
    rw[h1,h2]
    rcases h3 with h3 | rfl
    · have:s=0:=by rcases hs with h | h;exact h;exact h.trans h3
      rw[this];exact .empty q _ ad cap
    · exact .done q _ s ad
  | sl x off cap C l h1 h2 h3 h4 h5 h6 h7 h8 h9 =>
    rw[h1]
    exact .sl q _ s a.cs x off cap C l h2 h3 h4 h5 (fun e=>by rcases hs with rfl | rfl;cases e;exact h6 e) h7 h8 h9
theorem zgf{k:Nat}{c:AV}(h:zax k c=true):(k<32∧c.tag=k) ∨ (32≤k∧c.tag=24∧c.r=k - 32):=by
  unfold zax at h
  cases h1:nble 32 k
  · rw[h1,zai] at h;exact .inl ⟨zaW.1 h1,zaa.1 h⟩
  · rw[h1,zag] at h
    cases h2:nbeq c.tag 24
    · rw[h2] at h;cases h
    · rw[h2,zag] at h;exact .inr ⟨zah.1 h1,zaa.1 h2,zaa.1 h⟩
theorem FZ.can{k:Nat}{c:AV}{v:Value}(h:FZ z c v)(hk:k≤9 ∨ 32≤k)(ht:zax k c=true):FZ z (canC k c) v:=by
  rcases zgf ht with⟨h32,rfl⟩ | ⟨h32,e24,er⟩
  · unfold canC
    cases h with
    | int c p r s cs h1 h2 =>
      show FZ z (bi (nble c 8) (mk1 c p) _) _
      rw[zah.2 (by omega)];exact .int c p 0 0 [] h1 h2
    | bool b r s cs=>exact .bool b 0 0 []
    | str l r s cs=>exact .str l 0 0 []
    | _=>simp only at hk h32;omega
  · have:=(h.of_sl e24).fz 0 0 (.inl rfl)
    unfold canC
    rw[zaW.2 (by omega),zai,show nbeq k 9=false from zam.2 (by omega),zai]
    rw[er] at this
    exact this
theorem znX{l:List AV}{j:Nat}(h:(nthL l j).tag ≠ 18):l[j]?=some (nthL l j):=by
  rw[zcG] at h ⊢
  cases e:l[j]? with
  | none=>rw[e] at h;exact absurd rfl h
  | some a=>rfl
theorem zkP{R:AV→Value→Prop}(hR:∀ (c:AV) (v:Value) (k:Nat),R c v→(k≤9 ∨ 32≤k)→zax k c=true→FZ z (canC k c) v)(ks:List Nat)(hks:∀ k ∈ ks,k≤9 ∨ 32≤k){cs:List AV}{l:List Value}(h:∀ (i:Nat) (c:AV),cs[i]?=some c→∃ v,l[i]?=some v∧R c v):∀ j,zdW ks cs j=true→FZs z (zcN ks cs j) ((l.drop j).take ks.length)∧(ks=[] ∨ j+ks.length≤l.length)∧(zcN ks cs j).length=ks.length∧∀ c ∈ zcN ks cs j,za6 c=true:=by
  induction ks with
  | nil=>intro j _;exact⟨by simp[zcN];exact .nil,.inl rfl,rfl,fun c hc=>by cases hc⟩
  | cons k ks ih =>
    intro j ht
    have ht':bi (zax k (nthL cs j)) (zdW ks cs (Nat.succ j)) false=true:=ht
    cases h1:zax k (nthL cs j)
    · rw[h1] at ht';cases ht'
    rw[h1,zag] at ht'
    have hk:=hks k (by simp)
    have hg:=znX (l:=cs) (j:=j) (by rcases zgf h1 with h | h<;>omega)
    obtain⟨v,hv,hf⟩:=h _ _ hg
    have hj:=(List.getElem?_eq_some_iff.1 hv).1
    obtain⟨g1,g2,g3,g4⟩:=ih (fun k hk=>hks k (by simp[hk])) _ ht'
    have e:(l.drop j).take (ks.length+1)=v::(l.drop (j+1)).take ks.length:=by
      rw[List.drop_eq_getElem_cons hj,List.take_succ_cons]
      congr 1
      rw[List.getElem?_eq_getElem hj] at hv;exact Option.some.inj hv
    refine⟨?_,.inr ?_,?_,?_⟩
    · rw[List.length_cons,e]
      exact .cons (hR _ _ _ hf hk h1) g1
    · rcases g2 with rfl | g2
      · simp;omega
      · simp only[List.length_cons];omega
    · show (canC k (nthL cs j)::zcN ks cs (Nat.succ j)).length=_
      simp[g3]
    · intro c hc
      cases hc with
      | head =>
        show za6 (canC k (nthL cs j))=true
        unfold canC
        rcases hk with hk | hk
        · by_cases h8:k≤8
          · rw[zah.2 h8,zag];unfold za6 mk1;rw[zah.2 (show k≤14 by omega)];rfl
          · have:k=9:=by omega
            subst this;rfl
        · rw[zaW.2 (by omega),zai,show nbeq k 9=false from zam.2 (by omega),zai];rfl
      | tail _ hc=>exact g4 c hc
theorem ztz(ks:List Nat)(hks:∀ k ∈ ks,k≤9 ∨ 32≤k){cs:List AV}{l:List Value}(h:FZs z cs l)(j:Nat)(ht:zdW ks cs j=true):FZs z (zcN ks cs j) ((l.drop j).take ks.length)∧(ks=[] ∨ j+ks.length≤l.length)∧(zcN ks cs j).length=ks.length∧∀ c ∈ zcN ks cs j,za6 c=true :=
  zkP (R:=FZ z) (fun _ _ _ h1 h2 h3=>h1.can h2 h3) ks hks (fun _ _ hc=>h.get hc) j ht
theorem VR.can{k:Nat}{c:AV}{v:Value}(h:VR φ c v)(hk:k≤9 ∨ 32≤k)(ht:zax k c=true):FZ φ.fz (canC k c) v:=by
  rcases zgf ht with⟨h32,rfl⟩ | ⟨h32,e24,er⟩
  · unfold canC
    cases h with
    | int c p r s cs h1 h2 =>
      show FZ _ (bi (nble c 8) (mk1 c p) _) _
      rw[zah.2 (by omega)];exact .int c p 0 0 [] h1 h2
    | bool b r s cs=>exact .bool b 0 0 []
    | str l r s cs=>exact .str l 0 0 []
    | _=>simp only at hk h32;omega
  · exact (h.of_frz e24).can hk ht
theorem zmn(ks:List Nat)(hks:∀ k ∈ ks,k≤9 ∨ 32≤k){cs:List AV}{l:List Value}(h:VRs φ cs l)(j:Nat)(ht:zdW ks cs j=true):FZs φ.fz (zcN ks cs j) ((l.drop j).take ks.length)∧(ks=[] ∨ j+ks.length≤l.length)∧(zcN ks cs j).length=ks.length∧∀ c ∈ zcN ks cs j,za6 c=true :=
  zkP (R:=VR φ) (fun _ _ _ h1 h2 h3=>h1.can h2 h3) ks hks (fun _ _ hc=>h.get hc) j ht
theorem zyr{t:TypeId}{k:Nat}(h:kTag P t=some k):k≤9 ∨ 32≤k:=by
  unfold kTag at h
  split at h<;>first | (cases h;done) | skip
  · rename_i k' _;cases h;left;cases k'<;>simp[zap]
  · cases h;omega
  · cases h;omega
  · rename_i e _
    cases hs:(szB P e).run with
    | none=>rw[hs] at h;cases h
    | some n =>
      rw[hs,zan] at h
      cases h
      right
      show 32≤32+n
      omega
theorem zuT{ts:List TypeId}:∀ {ks:List Nat},zjI P ts=some ks→∀ k ∈ ks,k≤9 ∨ 32≤k:=by
  induction ts with
  | nil=>intro ks h k hk;cases h;cases hk
  | cons t ts ih =>
    intro ks h k hk
    have h':om (kTag P t) none (fun k=>om (zjI P ts) none fun ks=>some (k::ks))=some ks:=h
    cases h1:kTag P t with
    | none=>rw[h1] at h';cases h'
    | some k1 =>
      rw[h1,zan] at h'
      cases h2:zjI P ts with
      | none=>rw[h2] at h';cases h'
      | some k2 =>
        rw[h2,zan] at h'
        cases h'
        cases hk with
        | head=>exact zyr h1
        | tail _ hk=>exact ih h2 k hk
theorem zhw{t:TypeId}{ks:List Nat}(h:(ksB P t).run=some ks):∀ k ∈ ks,k≤9 ∨ 32≤k:=by
  have h':om (zff P 20 t) none (zjI P)=some ks:=h
  cases h1:zff P 20 t with
  | none=>rw[h1] at h';cases h'
  | some ts=>rw[h1,zan] at h';exact zuT h'
end Go.Eng
namespace Go.Eng
open Go.RowKit
variable {P:Program} {w0:World} {H:Hp} {φ:Ph} {c:Kont} {w:World} {z:Nat→Option (List Value)}
theorem zbx(a:AV)(l:List AV):zba (a::l)=cellsOf a++zba l:=zaV _ _
theorem zdG(a b:List AV):zba (a++b)=zba a++zba b:=by
  induction a with
  | nil=>rfl
  | cons x a ih=>rw[List.cons_append,zbx,zbx,ih,List.append_assoc]
theorem zbP{l:List AV}{sz:Nat}(h:∀ c ∈ l,zaO c=true∧(cellsOf c).length=sz):(zba l).length=l.length * sz:=by
  induction l with
  | nil=>simp[zba]
  | cons a l ih =>
    rw[zbx,List.length_append,ih fun c hc=>h c (by simp[hc]),(h a (by simp)).2,List.length_cons,Nat.add_mul];omega
theorem znY{sz:Nat}:∀ {l:List AV},(∀ c ∈ l,zaO c=true∧(cellsOf c).length=sz)→∀ {i:Nat} {e:AV},l[i]?=some e→((zba l).drop (i * sz)).take sz=cellsOf e:=by
  intro l
  induction l with
  | nil=>intro _ i e h;simp at h
  | cons a l ih =>
    intro h i e hi
    have ha:=(h a (by simp)).2
    rw[zbx]
    cases i with
    | zero =>
      simp at hi;subst hi
      rw[Nat.zero_mul,List.drop_zero,← ha,List.take_left'];rfl
    | succ i =>
      have e1:(i+1) * sz=(cellsOf a).length+i * sz:=by rw[ha,Nat.add_mul];omega
      rw[e1,← List.drop_drop,List.drop_left' rfl]
      exact ih (fun c hc=>h c (by simp[hc])) (by simpa using hi)
theorem zc1{sz:Nat}:∀ {l:List AV},(∀ c ∈ l,zaO c=true∧(cellsOf c).length=sz)→∀ n,(zba l).take (n * sz)=zba (l.take n):=by
  intro l
  induction l with
  | nil=>intro _ n;simp[zba]
  | cons a l ih =>
    intro h n
    have ha:=(h a (by simp)).2
    cases n with
    | zero=>simp[zba]
    | succ n =>
      have e1:(n+1) * sz=(cellsOf a).length+n * sz:=by rw[ha,Nat.add_mul];omega
      rw[zbx,List.take_succ_cons,zbx,e1,List.take_append,List.take_of_length_le (by omega)]
      congr 1
      rw[show (cellsOf a).length+n * sz - (cellsOf a).length=n * sz by omega]
      exact ih (fun c hc=>h c (by simp[hc])) n
theorem zkQ{sz:Nat}:∀ {l:List AV},(∀ c ∈ l,zaO c=true∧(cellsOf c).length=sz)→∀ n,(zba l).drop (n * sz)=zba (l.drop n):=by
  intro l
  induction l with
  | nil=>intro _ n;simp[zba]
  | cons a l ih =>
    intro h n
    have ha:=(h a (by simp)).2
    cases n with
    | zero=>simp
    | succ n =>
      have e1:(n+1) * sz=(cellsOf a).length+n * sz:=by rw[ha,Nat.add_mul];omega
      rw[zbx,List.drop_succ_cons,e1,← List.drop_drop,List.drop_left' rfl]
      exact ih (fun c hc=>h c (by simp[hc])) n
theorem zbv{α:Type}:∀ (n:Nat) (l:List α),za4 n l=l.take n:=by
  intro n
  induction n with
  | zero=>intro l;rfl
  | succ n ih=>intro l;cases l with
    | nil=>rfl
    | cons a l=>show a::za4 n l=_;rw[ih];rfl
theorem zfG{α:Type}(x:α):∀ (n:Nat) (l:List α),putN x n l=l.set n x:=by
  intro n
  induction n with
  | zero=>intro l;cases l<;>rfl
  | succ n ih=>intro l;cases l with
    | nil=>rfl
    | cons a l=>show a::putN x n l=_;rw[ih];rfl
theorem znZ{x o:Nat}{cs:List Value}{t:TypeId}{fr:Nat × Nat}(h:w.heap[x]?=some (.cells cs.toArray t fr))(v:Value)(hv:cs[o]?=some v):w.cell? ⟨x,o,none⟩=some v:=by
  simp[World.cell?,h,hv]
theorem zde{x off n:Nat}{cs:List Value}{t:TypeId}{fr:Nat × Nat}(h:w.heap[x]?=some (.cells cs.toArray t fr))(hn:n≤cs.length - off) :
    (loadCells ⟨x,off,none⟩ n).run P w=.ok ((cs.drop off).take n).toArray w:=by
  have hl:((cs.drop off).take n).length=n:=by rw[List.length_take,List.length_drop];omega
  have:=run_loadCells_list (P:=P) w ⟨x,off,none⟩ ((cs.drop off).take n) (fun j v hv=>by
    rw[Addr.add_mid]
    refine znZ h v ?_
    rw[List.getElem?_take] at hv
    split at hv
    · rw[List.getElem?_drop] at hv;exact hv
    · cases hv)
  rwa [hl] at this
theorem zmo{t:TypeId}{d:TypeDesc}{sz x off:Nat}{ks:List Nat}{cs:List AV}{l cells:List Value}{q:Nat}{ty:TypeId}{fr:Nat × Nat}(ht:(tyB P t).run=some d)(hs:(szB P t).run=some sz)
    (hks:∀ k ∈ ks,k≤9 ∨ 32≤k) (hlen:ks.length=bi (zaC P t) sz 1) (ho:w.heap[x]?=some (.cells cells.toArray ty fr)) (hl:FZs φ.fz cs l) (hc:(cells.drop off).take l.length=l) (hr:HR P w0 H φ w)
    (hok:AllOk (zhz (zaC P t) ks cs q H c)):Out P w0 (fun v w'=>(Instr.loadAt t (.pointer (some ⟨x,off+q,none⟩))).run P w=.ok v w') H φ (zhz (zaC P t) ks cs q H c) c:=by
  refine Out.bi hok fun h1 _=>?_
  obtain⟨g1,g2,g3,g4⟩:=ztz ks hks hl q h1
  have hln:l.length≤cells.length - off:=by
    have:=congrArg List.length hc
    rw[List.length_take,List.length_drop] at this;omega
  have hin:∀ i v,l[i]?=some v→cells[off+i]?=some v:=by
    intro i v hv
    rw[← hc,List.getElem?_take] at hv
    split at hv
    · rwa [List.getElem?_drop] at hv
    · cases hv
  cases hg:zaC P t
  · rw[hg,zai] at hlen
    have hq:q+1≤l.length:=by rcases g2 with h | h;rw[h] at hlen;cases hlen;omega
    have hql:q<l.length:=by omega
    have e:(l.drop q).take ks.length=[l[q]]:=by
      rw[hlen,List.drop_eq_getElem_cons hql];rfl
    rw[e] at g1
    unfold zbE
    rw[zai]
    cases hcan:zcN ks cs q with
    | nil=>rw[hcan] at g3;rw[hlen] at g3;cases g3
    | cons a as =>
      rw[hcan] at g1
      cases g1 with | cons g1 _ =>
      refine Out.same hr g1.vr ?_
      simp only[Instr.loadAt,Instr.sureAddr,loadVar,Sem.run_bind,Sem.run_pure',zdP ht,hg,Result.andThen_ok,run_load]
      simp[znZ ho _ (hin q l[q] (by simp[hql]))]
  · rw[hg,zag] at hlen
    unfold zbE
    rw[zag]
    have e:((cells.drop (off+q)).take sz)=(l.drop q).take sz:=by
      rw[← hc,List.drop_take,List.drop_drop,List.take_take]
      congr 1
      rcases g2 with h | h
      · have:sz=0:=by rw[h] at hlen;exact hlen.symm
        omega
      · omega
    have hsz:sz≤cells.length - (off+q):=by
      rcases g2 with h | h
      · have:sz=0:=by rw[h] at hlen;exact hlen.symm
        omega
      · omega
    rw[hlen] at g1
    refine Out.same hr (.agg _ _ _ _ _ ((l.drop q).take sz) g1.vrs g4) ?_
    simp only[Instr.loadAt,Instr.sureAddr,loadVar,Sem.run_bind,Sem.run_pure',zdP ht,hg,Result.andThen_ok,zaS hs,if_true]
    rw[zde ho hsz]
    simp only[Result.andThen_ok,e]
theorem HR.list{b x:Nat}(hr:HR P w0 H φ w)(hb:φ b=some x)(hk:isL (hget H b)=true):∃ (l rest:List Value) (t:TypeId) (fr:Nat × Nat),w.heap[x]?=some (.cells (l++rest).toArray t fr)∧FZs φ.fz (zba (hget H b).cs) l∧(∀ c ∈ (hget H b).cs,zaO c=true∧(cellsOf c).length=(hget H b).t) ∧
    ((hget H b).kind=6→fr=(0,0))∧(l++rest).length=φ.k x * (hget H b).t∧(hget H b).cs.length<2 ^ 40∧0<(hget H b).t∧(hget H b).cs.length=φ.tl b:=by
  have hk':(hget H b).kind=6 ∨ (hget H b).kind=7:=by
    unfold isL at hk
    cases h6:nbeq (hget H b).kind 6
    · rw[h6] at hk;exact .inr (zaa.1 hk)
    · exact .inl (zaa.1 h6)
  obtain⟨_,_,o,ho,hB⟩:=hr.blk b x hb
  rcases hB.ext (by omega) with⟨h,_⟩ | ⟨h,_⟩ | ⟨_,l,rest,t,fr,rfl,h2,h3,h4,h5,h6,h7⟩
  · omega
  · omega
  · exact⟨l,rest,t,fr,ho,h2,h3,h4,h5,h6,h7,hr.tl b x hb hk'⟩
theorem zt0{t:TypeId}{d:TypeDesc}{sz:Nat}{a:AV}{va:Value}(ht:(tyB P t).run=some d)(hs:(szB P t).run=some sz)(ha:VR φ a va)(hr:HR P w0 H φ w)(hok:AllOk ((zjJ (zaC P t) sz (ksB P t).run).run a H c)) :
    Out P w0 (fun v w'=>(Instr.loadAt t va).run P w=.ok v w') H φ ((zjJ (zaC P t) sz (ksB P t).run).run a H c) c:=by
  refine Out.om hok fun ks hks hok=>?_
  refine Out.bi2 hok (fun _ hok=>(zaY hok).elim) fun hn hok=>Out.bi2 hok (fun h26 hok=>?_) fun _ hok=>Out.bi hok fun h27 hok=>Out.bi hok fun hL hok=>Out.bi hok fun hst hok=>?_
  · obtain⟨e,x,off,C,l,e1,e2,e3,e4,e5,rfl⟩:=(ha.of_fptr (zaa.1 h26)).of_ptr (zaa.1 h26)
    have e0:nthL a.cs 0=e:=by rw[e1];rfl
    rw[e0] at hok ⊢
    obtain⟨⟨ty,fr,ho⟩,_⟩:=hr.fz x C e2
    rw[zdQ] at hn
    refine zmo ht hs (zhw hks) (by have:=zaa.1 (show nbeq (lenL ks) (bi (zaC P t) sz 1)=true by simpa using hn);rwa [zaz] at this) ho e3 e5 hr hok
  · obtain⟨x,hx,_,rfl⟩:=ha.of_optr (zaa.1 h27)
    obtain⟨l,rest,ty,fr,ho,g1,g2,g3,g4,g5,g6,g7⟩:=hr.list hx hL
    have hst:=zaa.1 hst
    have hne:(nthL (hget H a.p).cs a.r).tag ≠ 18 ∨ ks=[]:=by
      cases ks with
      | nil=>exact .inr rfl
      | cons k ks =>
        left
        intro h18
        have hk:=zhw hks k (by simp)
        unfold zhz at hok
        obtain⟨h1,_⟩:=AllOk.bi hok
        have h1':bi (zax k (nthL (cellsOf (nthL (hget H a.p).cs a.r)) a.q)) (zdW ks _ _) false=true:=h1
        have ec:cellsOf (nthL (hget H a.p).cs a.r)=[nthL (hget H a.p).cs a.r]:=by
          unfold cellsOf;rw[h18];rfl
        rw[ec] at h1'
        cases hb:zax k (nthL [nthL (hget H a.p).cs a.r] a.q)
        · rw[hb] at h1';cases h1'
        have:=zgf hb
        have e18:(nthL [nthL (hget H a.p).cs a.r] a.q).tag=18:=by
          rw[zcG]
          cases a.q with
          | zero=>exact h18
          | succ q=>rfl
        omega
    rw[zdQ] at hn
    have hlen:ks.length=bi (zaC P t) sz 1:=by have:=zaa.1 (show nbeq (lenL ks) (bi (zaC P t) sz 1)=true by simpa using hn);rwa [zaz] at this
    rcases hne with hne | rfl
    · have hg:=znX hne
      have hi:=(List.getElem?_eq_some_iff.1 hg).1
      have hm:nthL (hget H a.p).cs a.r ∈ (hget H a.p).cs:=List.mem_of_getElem? hg
      have hcl:=(g2 _ hm).2
      have hfl:=zbP g2
      have hl:=g1.length
      have hle:(a.r+1) * (hget H a.p).t≤(hget H a.p).cs.length * (hget H a.p).t:=Nat.mul_le_mul_right _ hi
      rw[Nat.add_mul,Nat.one_mul] at hle
      have hsub:FZs φ.fz (cellsOf (nthL (hget H a.p).cs a.r)) ((l.drop (a.r * a.s)).take (hget H a.p).t):=by
        have:=(g1.drop (a.r * a.s)).take (hget H a.p).t
        rw[hst] at this ⊢
        rwa [znY g2 hg] at this
      refine zmo ht hs (zhw hks) hlen ho hsub ?_ hr hok
      have hl2:((l.drop (a.r * a.s)).take (hget H a.p).t).length=(hget H a.p).t:=by rw[← hsub.length];exact hcl
      rw[hl2,List.drop_append,List.take_append]
      rw[hst]
      rw[Nat.sub_eq_zero_of_le (by rw[List.length_drop];omega:(hget H a.p).t≤(l.drop (a.r * (hget H a.p).t)).length)]
      simp
    · have h0:bi (zaC P t) sz 1=0:=hlen.symm
      have hg:zaC P t=true:=by cases hg:zaC P t;rw[hg] at h0;cases h0;rfl
      rw[hg,zag] at h0
      have e:zhz (zaC P t) [] (cellsOf (nthL (hget H a.p).cs a.r)) a.q H c=c H (aggV []):=by rw[hg];rfl
      rw[e]
      subst h0
      refine Out.same hr (.agg _ _ _ _ [] [] .nil (fun c hc=>by cases hc)) ?_
      simp only[Instr.loadAt,Instr.sureAddr,loadVar,Sem.run_bind,Sem.run_pure',zdP ht,hg,Result.andThen_ok,zaS hs,if_true]
      rfl
end Go.Eng
namespace Go.Eng
open Go.RowKit
variable {P:Program} {w0:World} {H:Hp} {φ:Ph} {c:Kont} {w:World} {z:Nat→Option (List Value)}
theorem zl6{s:TypeId}{fs:Array Field}{f:Nat}{fd:Field}{sz:Nat}{a:AV}{va:Value}(hs:(tyB P s).run=some (.struct fs))(hf:fs[f]?=some fd)(hz:(szB P fd.type).run=some sz)(hz0:sz ≠ 0)
    (ha:VR φ a va) (hr:HR P w0 H φ w) (hok:AllOk ((zes fd.offset).run a H c)) :
    Out P w0 (fun v w'=>(Instr.fieldAt s va f).run P w=.ok v w') H φ ((zes fd.offset).run a H c) c:=by
  refine Out.bi2 hok (fun h1 _=>?_) fun _ hok=>Out.bi hok fun h1 _=>?_
  · obtain⟨e,x,off,C,l,e1,e2,e3,e4,e5,rfl⟩:=(ha.of_fptr (zaa.1 h1)).of_ptr (zaa.1 h1)
    have e0:nthL a.cs 0=e:=by rw[e1];rfl
    rw[e0]
    refine Out.same (val:=.pointer (some ⟨x,off+(a.q+fd.offset),none⟩)) hr (.fptr _ _ _ _ _ _ (.ptr _ _ _ x off e C l e2 e3 e4 e5)) ?_
    simp only[Instr.fieldAt,Sem.run_bind,zav hs,Result.andThen_ok,hf,Instr.sureAddr,Sem.run_pure',fieldPlace,zaS hz,if_neg hz0,Addr.add_mid,Nat.add_assoc]
  · obtain⟨x,hx,hlt,rfl⟩:=ha.of_optr (zaa.1 h1)
    refine Out.same (val:=.pointer (some ⟨x,a.r * a.s+(a.q+fd.offset),none⟩)) hr (.optr _ _ _ _ _ _ hx hlt) ?_
    simp only[Instr.fieldAt,Sem.run_bind,zav hs,Result.andThen_ok,hf,Instr.sureAddr,Sem.run_pure',fieldPlace,zaS hz,if_neg hz0,Addr.add_mid,Nat.add_assoc]
theorem zuU{a:AV}{va:Value}(ρ:Operand→Value)(x:Operand)(o:Oper)(ho:o.op=.nilCheck x)(hρ:ρ x=va)(ha:VR φ a va)(hr:HR P w0 H φ w)(hok:AllOk (nilY.run a H c)) :
    Out P w0 (fun v w'=>(execOp ρ o).run P w=.ok (.value v) w') H φ (nilY.run a H c) c:=by
  refine Out.bi hok fun ht _=>Out.same hr ha ?_
  have key:∃ p,va=.pointer (some p):=by
    cases h26:nbeq a.tag 26
    · rw[h26,zai] at ht
      obtain⟨x,_,_,rfl⟩:=ha.of_optr (zaa.1 ht);exact⟨_,rfl⟩
    · obtain⟨_,_,_,_,_,_,_,_,_,_,rfl⟩:=(ha.of_fptr (zaa.1 h26)).of_ptr (zaa.1 h26);exact⟨_,rfl⟩
  obtain⟨p,rfl⟩:=key
  simp only[execOp,ho,hρ]
  rfl
theorem zpl{a:AV}{va:Value}{n:Nat}(ha:VR φ a va)(h:ixT a=true)(hn:a.p<n)(h63:n≤2 ^ 63):∃ k,va=.int k (a.p:Int):=by
  have ht:a.tag=3 ∨ (4≤a.tag∧a.tag≤7):=by
    unfold ixT at h
    cases h3:nbeq a.tag 3
    · rw[h3,zai] at h
      cases h4:nble 4 a.tag
      · rw[h4] at h;cases h
      · rw[h4,zag] at h;exact .inr ⟨zah.1 h4,zah.1 h⟩
    · exact .inl (zaa.1 h3)
  obtain⟨rfl,hlt,_⟩:=ha.of_int (c:=a.tag) (by omega) rfl
  suffices hneg:zbb a.tag a.p=false from ⟨_,by rw[zea hneg]⟩
  refine zaW.2 ?_
  unfold zbj
  rcases ht with ht | ⟨h4,h7⟩
  · rw[ht]
    have e:bi (nble 4 3) (kMod 3) (Nat.div (kMod 3) 2)=2 ^ 63:=by decide
    rw[e];omega
  · rw[zah.2 h4,zag];exact hlt
theorem zeP{x:AV}{v:Value}(h:VR φ x v)(ht:x.tag=25)(hr:0<x.r):∃ y,φ x.q=some y∧x.r≤φ.tl x.q∧φ.tl x.q≤φ.k y∧v=.slice (some ⟨y,0,none⟩) x.r (φ.k y):=by
  cases h<;>simp only at ht hr<;>first | exact⟨_,by assumption,by assumption,by assumption,rfl⟩ | omega
theorem zt1{t e:TypeId}{sz:Nat}{a b:AV}{va vb:Value}(ht:(tyB P t).run=some (.slice e))(hz:(szB P e).run=some sz)(ha:VR φ a va)(hb:VR φ b vb)(hr:HR P w0 H φ w)(hok:AllOk ((zjK sz).run a b H c)) :
    Out P w0 (fun v w'=>(Instr.indexAt t va vb).run P w=.ok v w') H φ ((zjK sz).run a b H c) c:=by
  refine Out.bi hok fun hi hok=>Out.bi2 hok (fun h1 hok=>Out.bi hok fun h2 hok=>Out.bi hok fun h3 _=>?_) fun _ hok=>Out.bi hok fun h1 hok=>Out.bi hok fun h4 hok=>Out.bi hok fun h2 hok=>Out.bi hok fun h3 _=>?_
  · have hlt:b.p<a.cs.length:=by have:=zah.1 h3;rwa [zaz] at this
    cases (ha.of_frz (zaa.1 h1)).of_sl (zaa.1 h1) with
    | nil g1 g2=>rw[g2] at hlt;simp at hlt
    | empty ad cap g1 g2 g3=>rw[g2] at hlt;simp at hlt
    | sl x off cap C l g1 g2 g3 g4 g5 g6 g7 g8 g9 =>
      obtain⟨k,rfl⟩:=zpl hb hi hlt (Nat.le_of_lt g7)
      have hr':=zaa.1 h2
      have hn:nthL a.cs b.p=a.cs[b.p]:=by rw[zcG,List.getElem?_eq_getElem hlt];rfl
      have hm:nthL a.cs b.p ∈ a.cs:=by rw[hn];exact List.getElem_mem hlt
      have hcl:=(g4 _ hm).2
      have hsub:FZs φ.fz (cellsOf (nthL a.cs b.p)) ((l.drop (b.p * sz)).take sz):=by
        have:=(g3.drop (b.p * a.r)).take a.r
        rw[znY g4 (e:=nthL a.cs b.p) (by rw[hn];simp[hlt])] at this
        rwa [hr'] at this
      refine Out.same (val:=.pointer (some ⟨x,off+b.p * sz+0,none⟩)) hr (.fptr _ _ _ _ _ _ (.ptr _ _ _ x (off+b.p * sz) _ C _ g2 hsub (g4 _ hm).1 ?_)) ?_
      · rw[← hsub.length,hcl,hr',← g8,List.drop_take,List.drop_drop,List.take_take]
        congr 1
        have h5:=g3.length
        rw[zbP g4,hr'] at h5
        have:(b.p+1) * sz≤a.cs.length * sz:=Nat.mul_le_mul_right _ hlt
        rw[Nat.add_mul] at this
        omega
      · have hlt':(0:Int)≤(b.p:Int)∧(b.p:Int)<(a.cs.length:Int):=by omega
        simp only[Instr.indexAt,Sem.run_bind,asIntOf,Sem.run_pure',zav ht,Result.andThen_ok,hlt',and_self,if_true,zaS hz,Addr.add_mid,Int.toNat_natCast,Nat.add_zero]
  · have hlt:b.p<a.r:=zah.1 h3
    obtain⟨y,hy,g1,g2,rfl⟩:=zeP ha (zaa.1 h1) (by omega)
    obtain⟨l,rest,ty,fr,ho,k1,k2,k3,k4,k5,k6,k7⟩:=hr.list hy h4
    obtain⟨k,rfl⟩:=zpl hb hi hlt (by omega)
    refine Out.same (val:=.pointer (some ⟨y,b.p * sz+0,none⟩)) hr (.optr _ _ _ _ _ _ hy (by omega)) ?_
    have hlt':(0:Int)≤(b.p:Int)∧(b.p:Int)<(a.r:Int):=by omega
    simp only[Instr.indexAt,Sem.run_bind,asIntOf,Sem.run_pure',zav ht,Result.andThen_ok,hlt',and_self,if_true,zaS hz,Addr.add_mid,Int.toNat_natCast,Nat.zero_add,Nat.add_zero]
theorem zuV{t e ty:TypeId}{tys:Array TypeId}{a:AV}{va:Value}(ht0:tys[0]?=some t)(ht:(tyB P t).run=some (.slice e))(ha:VR φ a va)(hr:HR P w0 H φ w)(hok:AllOk (lenY.run a H c)) :
    Out P w0 (fun v w'=>(Builtin.len_ tys ty #[va]).run P w=.ok v w') H φ (lenY.run a H c) c:=by
  have h0:(#[va]:Array Value)[0]?=some va:=rfl
  have fin:∀ n:Nat,n<2 ^ 63→VR φ (mk1 3 n) (.int .i64 n):=fun n hn=>by
    have hneg:zbb 3 n=false:=zaW.2 (by
      have e:zbj 3=2 ^ 63:=by decide
      rw[e];exact hn)
    have:=VR.int (φ:=φ) 3 n 0 0 [] (by omega) (by have e:kMod 3=2 ^ 64:=by decide
                                                  rw[e];omega)
    rwa [zea hneg] at this
  refine Out.bi2 hok (fun h1 hok=>?_) fun _ hok=>Out.bi hok fun h1 hok=>Out.bi hok fun h2 hok=>?_
  · rw[zaz]
    cases (ha.of_frz (zaa.1 h1)).of_sl (zaa.1 h1) with
    | nil g1 g2 =>
      rw[g2]
      exact Out.same hr (fin 0 (by omega)) (by simp only[Builtin.len_,ht0,h0,Sem.run_bind,zav ht,Result.andThen_ok];rfl)
    | empty ad cap g1 g2 g3 =>
      rw[g2]
      exact Out.same hr (fin 0 (by omega)) (by simp only[Builtin.len_,ht0,h0,Sem.run_bind,zav ht,Result.andThen_ok];rfl)
    | sl x off cap C l g1 g2 g3 g4 g5 g6 g7 g8 g9 =>
      exact Out.same hr (fin _ g7) (by simp only[Builtin.len_,ht0,h0,Sem.run_bind,zav ht,Result.andThen_ok];rfl)
  · by_cases hr0:a.r=0
    · have:∃ ad cap,va=.slice ad 0 cap:=by
        cases ha<;>simp only at h1 hr0<;>first | (subst hr0;exact⟨_,_,rfl⟩) | exact⟨_,_,rfl⟩ | (exact absurd (zaa.1 h1) (by omega))
      obtain⟨ad,cap,rfl⟩:=this
      rw[hr0]
      exact Out.same hr (fin 0 (by omega)) (by simp only[Builtin.len_,ht0,h0,Sem.run_bind,zav ht,Result.andThen_ok];rfl)
    · obtain⟨y,hy,g1,g2,rfl⟩:=zeP ha (zaa.1 h1) (by omega)
      obtain⟨l,rest,ty,fr,ho,k1,k2,k3,k4,k5,k6,k7⟩:=hr.list hy h2
      exact Out.same hr (fin _ (by omega)) (by simp only[Builtin.len_,ht0,h0,Sem.run_bind,zav ht,Result.andThen_ok];rfl)
theorem zkR{want:Bool}{e:TypeId}{t:TypeId}{x y:Operand}{a b:AV}{va vb:Value}(ht:(tyB P t).run=some (.slice e))(ha:VR φ a va)(hb:VR φ b vb)(hr:HR P w0 H φ w)(hok:AllOk ((zgI want).run a b H c)) :
    Out P w0 (BinY P (bi want .eql .neq) t x y va vb w) H φ ((zgI want).run a b H c) c:=by
  refine Out.bi hok fun h1 hok=>Out.bi hok fun h2 _=>?_
  have hvb:=hb.isNil h1
  simp only at hvb
  subst hvb
  have key:∃ ad l k,va=.slice ad l k∧ad.isNone=nbeq a.p 0∧(ad=none→l=0∧k=0):=by
    cases h24:nbeq a.tag 24
    · rw[h24,zai] at h2
      cases ha<;>simp only at h2<;>first | exact⟨_,_,_,rfl,rfl,fun _=>⟨rfl,rfl⟩⟩ | exact⟨_,_,_,rfl,rfl,fun h=>nomatch h⟩ | (exact absurd (zaa.1 h2) (by omega))
    · cases (ha.of_frz (zaa.1 h24)).of_sl (zaa.1 h24) with
      | nil g1 g2=>exact⟨_,_,_,rfl,by rw[g1];rfl,fun _=>⟨rfl,rfl⟩⟩
      | empty ad cap g1 g2 g3=>exact⟨_,_,_,rfl,by rw[g1];rfl,fun h=>by cases h⟩
      | sl x off cap C l g1 g2 g3 g4 g5 g6 g7 g8 g9=>exact⟨_,_,_,rfl,by rw[g1];rfl,fun h=>by cases h⟩
  obtain⟨ad,l,k,rfl,e1,e2⟩:=key
  rw[zdQ,← e1]
  refine Out.same hr (zb7 _) (zep trivial (zkA want ((zfz ht ad l k).2) ?_))
  rintro op (rfl | rfl)<;>rfl
end Go.Eng
