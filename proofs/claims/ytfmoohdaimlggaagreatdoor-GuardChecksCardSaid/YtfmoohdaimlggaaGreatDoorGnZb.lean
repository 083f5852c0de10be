/- A part of the proof that the evaluator in GnC, and the driver in GnZ, answer as the model does; no conditions. -/
import Derived.Test.YtfmoohdaimlggaaGreatDoorGnZa
import Derived.Test.YtfmoohdaimlggaaGreatDoorGnLb
namespace Go.Eng
open Go.RowKit
variable {P:Program} {w0:World} {H Hb:Hp} {φ φ0:Ph} {w:World} {N:Nat} {T:Fr} {a:Act} {lab:Lab} {r:Rec} {fin:BR} {top:Code} {L:RL}
theorem zf5(t:Nat):(getB t).run zdU=unkV:=by
  by_cases ht:t<511
  · rw[zcS ht]
    have key:∀ {α:Type} (x:α) (j:Nat),(get1 j).run (zcL x)=x:=by
      intro α x j
      unfold get1 zcL
      split<;>rfl
    unfold zdU
    rw[key,key,key]
  · exact zdl (by omega) _
structure BaseY(P:Program)(w0:World)(Hb:Hp)(φ0:Ph):Prop where
  lim:Hb.lim=Hb.n
  hr:HR P w0 Hb φ0 w0
  nex:∀ b x,φ0 b=some x→¬ exB φ0 x
theorem zuZ(hb:BaseY P w0 Hb φ0)(hs:St P w0 N Hb φ0 T H φ a w):Ent P w0 N Hb H φ0 φ a w zdU Hb ⟨fun b=>if b<Hb.n then φ b else none,φ.k,φ.op,φ.fz,φ.tl⟩ []:=by
  have hlt:∀ b x,φ0 b=some x→b<Hb.n∧x<w0.heap.size:=fun b x h=>by
    obtain⟨h1,_,o,h3,_⟩:=hb.hr.blk b x h
    exact⟨h1,(Array.getElem?_eq_some_iff.1 h3).1⟩
  have hback:∀ b x,b<Hb.n→φ b=some x→φ0 b=some x:=by
    intro b x hbn h
    cases h0:φ0 b with
    | none=>exact absurd (hs.ex.fresh b x h h0) (by omega)
    | some y=>rw[(hs.ex.keep b y h0).1] at h;exact h
  have hn:=hb.hr.n
  have hlow:∀ b,b<Hb.n→hget H b=hget Hb b:=fun b hbn=>hs.ex.low b (by rw[hb.lim];exact hbn) (by omega)
  let φs:Ph:=⟨fun b=>if b<Hb.n then φ b else none,φ.k,φ.op,φ.fz,φ.tl⟩
  have hφs:∀ b x,φs b=some x→b<Hb.n∧φ b=some x:=by
    intro b x h
    have h':(if b<Hb.n then φ b else none)=some x:=h
    by_cases hbn:b<Hb.n
    · rw[if_pos hbn] at h';exact⟨hbn,h'⟩
    · rw[if_neg hbn] at h';cases h'
  have hle:Le φ0 φs:=by
    refine⟨fun b x h=>⟨?_,(hs.ex.keep b x h).2⟩,hs.ex.keep.op,hs.ex.keep.fz,hs.ex.keep.tl⟩
    show (if b<Hb.n then φ b else none)=some x
    rw[if_pos (hlt b x h).1];exact (hs.ex.keep b x h).1
  refine⟨⟨?_,?_,hb.hr.n,hb.hr.lim,hs.hr.below.op rfl,hb.hr.gl.mono hle,hs.hr.op,?_,?_,hs.hr.fo⟩,⟨hle,?_,Nat.le_refl _,rfl,fun _ _ _=>rfl,fun _ _ _ _=>rfl,fun _ _ _ h=>h,hs.ex.fzn⟩,?_,rfl,rfl,rfl,hb.lim,Nat.le_refl _,?_,?_⟩
  · intro b x h
    obtain⟨hbn,h⟩:=hφs b x h
    have h0:=hback b x hbn h
    obtain⟨_,_,o,h3,h4⟩:=hb.hr.blk b x h0
    refine⟨hbn,fun hl=>by rw[hb.lim] at hl;omega,o,?_,h4.mono hle (hs.ex.keep b x h0).2⟩
    rw[hs.hr.below.block x (hlt b x h0).2 (fun hx=>hb.nex b x h0 (by unfold exB at hx ⊢;rwa [← hs.ex.keep.op]))];exact h3
  · intro b b' x h h' k1 k2
    obtain⟨hbn,h⟩:=hφs b x h
    obtain⟨hbn',h'⟩:=hφs b' x h'
    rw[← hlow b hbn] at k1
    rw[← hlow b' hbn'] at k2
    exact hs.hr.inj b b' x h h' k1 k2
  · intro x C hx
    exact⟨(hs.hr.fz x C hx).1,fun b h hl=>by have:=(hφs b x h).1;rw[hb.lim] at hl;omega⟩
  · intro b x h hk
    obtain⟨hbn,h⟩:=hφs b x h
    rw[← hlow b hbn] at hk ⊢
    exact hs.hr.tl b x h hk
  · intro b x h h0
    obtain⟨hbn,h⟩:=hφs b x h
    rw[hback b x hbn h] at h0;cases h0
  · intro t
    rw[zf5];exact .unk _ _ _ _ _ _
  · intro b x h hk
    exact .inl (hφs b x h).1
  · intro b hbn
    show (if b<Hb.n then φ b else none)=φ b
    rw[if_pos hbn]
theorem zoe{φ:Ph}(ht:TR P φ N T a)(h:nbeq (lenL (zaK T)) 0=true):a.defers=[]:=by
  have:=zaa.1 h
  rw[zaz] at this
  have e:=List.length_eq_zero_iff.1 this
  have hd:=ht.defers
  rw[e] at hd
  exact hd
theorem zpn(hL:AllOk L)(hb:BaseY P w0 Hb φ0){q:List Nat}{c:Code}{k:Nat→BR}{ks:Nat→List (Nat × BR)}(hctx:∀ n,zc2 P N lab fin top (jmpN P N lab Hb r fin top n) q=some ⟨c,k n,ks n⟩)
    {m:Nat} (hs:St P w0 N Hb φ0 T H φ a w) (h:∀ x ∈ (zib P lab (jmpN P N lab Hb r fin top m) q).run r T H,x ∈ L) :
    ∃ m',m=m'+1∧∃ T' H' φ',St P w0 N Hb φ0 T' H' φ' a w∧∀ x ∈ (zaB P N lab fin (jmpN P N lab Hb r fin top m') q c (k m') (ks m')).run r T' H',x ∈ L:=by
  have h':∀ x ∈ om (lab q) (zab 240) (fun live=>om (frzS P live T H) (zab 239) fun x=>om (zrd x.1 x.2 live) (zab 241) fun ds=>jmpN P N lab Hb r fin top m q ds),x ∈ L:=h
  cases hl:lab q with
  | none=>rw[hl] at h';exact (zaq hL h').elim
  | some live =>
    rw[hl,zan] at h'
    cases hfz:frzS P live T H with
    | none=>rw[hfz] at h';exact (zaq hL h').elim
    | some xz =>
    rw[hfz,zan] at h'
    obtain⟨φz,hs⟩:=zyv live T H φ xz hfz hs
    obtain⟨T,H⟩:=xz
    simp only[] at h' hs
    cases hk:zrd T H live with
    | none=>rw[hk] at h';exact (zaq hL h').elim
    | some ds =>
      rw[hk,zan] at h'
      cases m with
      | zero=>exact (zaq hL h').elim
      | succ m =>
        refine⟨m,rfl,?_⟩
        have h2:∀ x ∈ om (zc2 P N lab fin top (jmpN P N lab Hb r fin top m) q) (zab 247) (fun x=>om (lab q) (zab 247) fun live=>bi (ziK live) (zfp live ds zdU Hb fun T H=>(zaB P N lab fin (jmpN P N lab Hb r fin top m) q x.c x.k x.ks).run r T H) (zab 247)),x ∈ L:=h'
        rw[hctx m,zan,hl,zan] at h2
        cases hsl:ziK live
        · rw[hsl] at h2;exact (zaq hL h2).elim
        · rw[hsl,zag] at h2
          obtain⟨hc,hh⟩:=zas (show bi (bi (nbeq (lenL (zaK T)) 0) (ziJ (zia T H live)) false) (zmQ T H live) none=some ds from hk)
          obtain⟨hc1,hc2⟩:=zaw.1 hc
          obtain⟨T',H',φ',Q',he,hx⟩:=zuY hL hs hb.lim live ds zdU Hb _ [] hsl hh (by simpa using zmp hc2) (zuZ hb hs) h2
          exact⟨T',H',φ',⟨⟨hs.tr.size,he.val,by rw[he.marks];exact zoe hs.tr hc1,he.hr.gl⟩,he.hr,he.ex⟩,hx⟩
def OnY(P:Program)(w0:World)(r:Rec)(N:Nat)(Hb:Hp)(φ0:Ph)(L:RL)(n:Nat)(k:Nat→BR)(a:Act)(w:World):Prop :=
  ∃ m,m≤n∧∃ T H φ,St P w0 N Hb φ0 T H φ a w∧∀ x ∈ (k m).run r T H,x ∈ L
theorem OnY.mono{n n':Nat}{k:Nat→BR}(hn:n≤n')(h:OnY P w0 r N Hb φ0 L n k a w):OnY P w0 r N Hb φ0 L n' k a w:=by
  obtain⟨m,h1,h2⟩:=h
  exact⟨m,Nat.le_trans h1 hn,h2⟩
theorem On.y{n m:Nat}{k:Nat→BR}(hm:m≤n)(h:On P w0 r N Hb φ0 L (k m) a w):OnY P w0 r N Hb φ0 L n k a w:=by
  obtain⟨T,H,φ,h1,h2⟩:=h
  exact⟨m,hm,T,H,φ,h1,h2⟩
def QYY(P:Program)(w0:World)(r:Rec)(N:Nat)(Hb:Hp)(φ0:Ph)(L:RL)(fin:BR)(n:Nat)(k:Nat→BR)(ks:Nat→List (Nat × BR)):Exit→Act→World→Prop
  | .normal,a,w=>OnY P w0 r N Hb φ0 L n k a w
  | .exit i,a,w=>OnY P w0 r N Hb φ0 L n (fun m=>zeD i (ks m)) a w
  | .ret,a,w=>OnY P w0 r N Hb φ0 L n (fun _=>fin) a w
  | _,_,_=>False
theorem QYY.mono{n n':Nat}{k:Nat→BR}{ks:Nat→List (Nat × BR)}(hn:n≤n'):∀ (e:Exit) (a:Act) (w:World),QYY P w0 r N Hb φ0 L fin n k ks e a w→QYY P w0 r N Hb φ0 L fin n' k ks e a w:=by
  intro e a w h
  cases e with
  | normal=>exact OnY.mono hn h
  | exit i=>exact OnY.mono hn h
  | ret=>exact OnY.mono hn h
  | _=>exact h.elim
end Go.Eng
namespace Go.Eng
open Go.RowKit
variable {P:Program} {w0:World} {H Hb:Hp} {φ φ0:Ph} {w:World} {N:Nat} {T:Fr} {a:Act} {lab:Lab} {r:Rec} {fin:BR} {top:Code} {L:RL} {ro:Option Nat}
theorem zeQ{o:Operand}{b:Bool}(hs:St P w0 N Hb φ0 T H φ a w)(h8:((getO P o).run T).tag=8)(hp:((getO P o).run T).p=bi b 1 0):St P w0 N Hb φ0 (zcY o b T) H φ a w :=
  ⟨zyt hs.tr h8 hp,hs.hr,hs.ex⟩
theorem zmq{φ:Ph}{z:AV}{v:Value}(h:VR φ z v)(ht:z.tag≤9):FZ φ.fz z v:=by
  cases h with
  | int c p r s cs e1 e2=>exact .int c p r s cs e1 e2
  | bool b r s cs=>exact .bool b r s cs
  | str l r s cs=>exact .str l r s cs
  | _=>simp only at ht;omega
theorem zva{z c:AV}{n:Nat}(h:c ∈ repC n [z]):c=z:=by
  induction n with
  | zero=>cases h
  | succ n ih =>
    have h':c ∈ appL [z] (repC n [z]):=h
    rw[zaV,List.mem_append] at h'
    rcases h' with h' | h'
    · simpa using h'
    · exact ih h'
theorem zof{z:AV}(n:Nat):(repC n [z]).length=n:=by
  induction n with
  | zero=>rfl
  | succ n ih =>
    show (appL [z] (repC n [z])).length=_
    rw[zaV,List.length_append,ih];simp;omega
theorem zyw{φ:Ph}:∀ {cs:List AV} {l:List Value},VRs φ cs l→(∀ c ∈ cs,c.tag≤9)→FZs φ.fz cs l:=by
  intro cs
  induction cs with
  | nil=>intro l h _;cases h;exact .nil
  | cons c cs ih =>
    intro l h hc
    cases h with | cons h1 h2=>exact .cons (zmq h1 (hc c (by simp))) (ih h2 fun c h=>hc c (by simp[h]))
theorem zyx{zz:Nat→Option (List Value)}{z:AV}{l:List Value}(h:FZs zz (cellsOf z) l)(n:Nat):FZs zz (zba (repC n [z])) (List.replicate n l).flatten:=by
  induction n with
  | zero=>exact .nil
  | succ n ih =>
    show FZs zz (zba (appL [z] (repC n [z]))) _
    rw[zaV,List.replicate_succ,List.flatten_cons]
    show FZs zz (zba (z::repC n [z])) _
    rw[zbx]
    exact h.append ih
theorem zlA{c:Kont}{t e:TypeId}{z:AV}{sz bt:Nat}{a b:AV}{va vb:Value}(hu:(tyB P t).run=some (.slice e))(hs:(szB P e).run=some sz)(hbt:(btB P e).run=some bt)(hz:(zeB P e).run=some z)(hb6:bt≤1000000)(hz0:0<sz)(hzs:(cellsOf z).length=sz)(hzt:∀ c ∈ cellsOf z,c.tag≤9)(hzk:zaO z=true)
    (ha:VR φ a va) (hb:VR φ b vb) (hr:HR P w0 H φ w) (hok:AllOk ((zf4 sz z).run a b H c)) :
    Out P w0 (fun v w'=>(Instr.makeSlice t va vb).run P w=.ok v w') H φ ((zf4 sz z).run a b H c) c:=by
  refine Out.bi hok fun g1 hok=>Out.bi hok fun g2 hok=>Out.bi hok fun g3 hok=>Out.bi hok fun g4 hok=>?_
  obtain⟨i,zv,hi,hzv,hzr,hc⟩:=zeg hz
  obtain⟨h1,h2⟩:=(hzr φ).cells hc
  obtain⟨ie,hie,he⟩:=Option.map_eq_some_iff.1 (show (P.info? e).map (·.size)=some sz from hs)
  rw[hi] at hie;cases hie
  obtain⟨ie,hie,he'⟩:=Option.map_eq_some_iff.1 (show (P.info? e).map (·.bytes)=some bt from hbt)
  rw[hi] at hie;cases hie
  have g3':=zah.1 g3;have g4':=zah.1 g4
  obtain⟨rfl,l1,_⟩:=ha.of_int (c:=3) (by omega) (zaa.1 g1)
  obtain⟨rfl,l2,_⟩:=hb.of_int (c:=3) (by omega) (zaa.1 g2)
  have v1:valI 3 a.p=(a.p:Int):=zbs (by rw[zc5];omega)
  have v2:valI 3 b.p=(b.p:Int):=zbs (by rw[zc5];omega)
  rw[v1,v2]
  have hzsz:zv.cells.size=i.size:=by rw[h1.length] at hzs;rw[he];simpa using hzs
  have hm:=zdw hzsz b.p
  have hbytes:(i.bytes:Int) * (b.p:Int)≤281474976710656:=by
    have:i.bytes * b.p≤1000000 * 100000:=Nat.mul_le_mul (by omega) g4'
    have h':((i.bytes * b.p:Nat):Int)≤281474976710656:=by omega
    rwa [Int.natCast_mul] at h'
  have hrun:=run_make w t e i zv hu hi hzv .i64 .i64 (a.p:Int) (b.p:Int) (by omega) (by omega) hbytes (by omega)
  simp only[Int.toNat_natCast] at hrun
  have hf:FZs φ.fz (cellsOf z) zv.cells.toList:=zyw h1 hzt
  have hzl:zv.cells.toList.length=sz:=by rw[← h1.length];exact hzs
  have hfl:(List.replicate b.p zv.cells.toList).flatten.length=b.p * sz:=by
    rw[List.length_flatten,List.map_replicate,List.sum_replicate_nat,hzl]
  refine Out.newL (o:=.cells (madeCells zv.cells (b.p * i.size)) e) (val:=.slice (some ⟨w.heap.size,0,none⟩) a.p b.p) b.p hr ?_ ?_ hrun hok
  · intro φ' hle hk
    refine⟨(fun h=>by cases h),(fun h=>by cases h),(fun h=>by cases h),fun _=>.inr (.inr ⟨.inl rfl,(List.replicate b.p zv.cells.toList).flatten,[],e,(0,0),?_,?_,?_,fun _=>rfl,?_,?_,hz0⟩)⟩
    · rw[List.append_nil,← hm]
    · exact (zyx hf b.p).mono hle.fz
    · intro c hc
      have:=zva hc
      subst this
      exact⟨hzk,hzs⟩
    · rw[List.append_nil,hfl]
      show _=φ'.k _ * sz
      rw[hk]
    · show (repC b.p [z]).length<2 ^ 40
      rw[zof];omega
  · intro φ' hle hf' hk htl
    have htl':φ'.tl H.n=b.p:=htl.trans (zof b.p)
    have:=VR.own (φ:=φ') H.n w.heap.size a.p 0 [] hf' (by omega) (by omega)
    rw[hk] at this
    exact this
theorem zvb{o:Oper}{t:TypeId}{l m:Operand}(ho:o.op=.makeSlice t l m){k:BR}{Q:Exit→Act→World→Prop}(hrec:zaU P r)(hL:AllOk L)(hs:St P w0 N Hb φ0 T H φ a w)(h:∀ x ∈ (zre P N o t l m k).run r T H,x ∈ L) :
    o.wpIn (fen ro) 0 P a w (On P w0 r N Hb φ0 L k) Q:=by
  unfold zre at h
  split at h
  · rename_i e hu
    cases hsz:(szB P e).run with
    | none=>rw[hsz] at h;exact zcU hrec hL hs h
    | some sz =>
    rw[hsz,zan] at h
    cases hbt:(btB P e).run with
    | none=>rw[hbt] at h;exact zcU hrec hL hs h
    | some bt =>
    rw[hbt,zan] at h
    cases hze:(zeB P e).run with
    | none=>rw[hze] at h;exact zcU hrec hL hs h
    | some z =>
    rw[hze,zan] at h
    cases hc:bi (nble bt 1000000) (bi (nble 1 sz) (bi (nbeq (lenL (cellsOf z)) sz) (bi (allL (fun c=>nble c.tag 9) (cellsOf z)) (zaO z) false) false) false) false
    · rw[hc] at h;exact zcU hrec hL hs h
    · rw[hc,zag] at h
      obtain⟨c1,hc⟩:=zaw.1 hc
      obtain⟨c2,hc⟩:=zaw.1 hc
      obtain⟨c3,hc⟩:=zaw.1 hc
      obtain⟨c4,c5⟩:=zaw.1 hc
      have c2:=zah.1 c2
      have c3:=zaa.1 c3
      rw[zaz] at c3
      rw[zcH,List.all_eq_true] at c4
      have h':∀ x ∈ (zf4 sz z).run ((getO P l).run T) ((getO P m).run T) H (fun H v=>(putK N o.dst k).run r T H v),x ∈ L:=h
      obtain⟨H',v,φ',val,w',h1,h2,h3,h4,h5⟩:=zlA (w0:=w0) hu hsz hbt hze (zah.1 c1) c2 c3 (fun c hc=>zah.1 (c4 c hc)) c5 (hs.tr.eval l) (hs.tr.eval m) hs.hr (hL.of_sub h')
      refine⟨fun _ _=>trivial,?_⟩
      have hrun:(execOp a.eval o).run P w=.ok (.value val) w':=by
        have he:execOp a.eval o=(do pure (.value (← Instr.makeSlice t (a.eval l) (a.eval m)))):=by simp only[execOp,ho]
        rw[he]
        simp only[Sem.run_bind,h2,Result.andThen_ok,Sem.run_pure']
      rw[Oper.semAt_eq _ _ _ (fun c hc=>by rw[ho] at hc;cases hc),hrun,Oper.uponIn_value]
      exact zcI hL (hs.tr.mono h5.keep) h3 h4 (hs.ex.trans h5) fun x hx=>h' x (h1 x hx)
  · exact zcU hrec hL hs h
theorem zog{o:Oper}{k:BR}{Q:Exit→Act→World→Prop}(hrec:zaU P r)(hL:AllOk L)(hs:St P w0 N Hb φ0 T H φ a w)(h:∀ x ∈ (opY P N o k).run r T H,x ∈ L) :
    o.wpIn (fen ro) 0 P a w (On P w0 r N Hb φ0 L k) Q:=by
  by_cases hpk:∃ x y z,o.op=.pick x y z
  · obtain⟨x,y,z,ho⟩:=hpk
    simp only[opY,ho] at h
    cases h8:nbeq ((getO P x).run T).tag 8
    · rw[h8] at h;exact (zaq hL h).elim
    rw[h8,zag] at h
    have h8:=zaa.1 h8
    obtain⟨b,e,hp,_⟩:=(hs.tr.eval x).of_bool h8
    have hrun:(execOp a.eval o).run P w=.ok (.value (if b then a.eval y else a.eval z)) w:=by
      simp only[execOp,ho,e]
      cases b<;>simp[asBool]
    refine⟨fun _ _=>trivial,?_⟩
    rw[Oper.semAt_eq _ _ _ (fun c hc=>by rw[ho] at hc;cases hc),hrun,Oper.uponIn_value]
    have hks:=zeQ (b:=b) hs h8 hp
    rw[hp] at h
    cases b with
    | true=>exact zcI hL hks.tr (hs.tr.eval y) hs.hr hs.ex h
    | false=>exact zcI hL hks.tr (hs.tr.eval z) hs.hr hs.ex h
  · by_cases hmk:∃ t l m,o.op=.makeSlice t l m
    · obtain⟨t,l,m,ho⟩:=hmk
      simp only[opY,ho] at h
      exact zvb ho hrec hL hs h
    have e:opY P N o k=opK P N o k:=by
      unfold opY
      split
      · rename_i t l m ho;exact absurd ⟨t,l,m,ho⟩ hmk
      · rename_i x y z ho;exact absurd ⟨x,y,z,ho⟩ hpk
      · rfl
    rw[e] at h
    exact zcU hrec hL hs h
theorem zyy{all:Array Oper}{o:Oper}{k:BR}{Q:Exit→Act→World→Prop}(hrec:zaU P r)(hL:AllOk L)(hs:St P w0 N Hb φ0 T H φ a w)(h:∀ x ∈ (opGY P N all o k).run r T H,x ∈ L) :
    if Region.wanted o (yielded all a.tmps) then o.wpIn (fen ro) 0 P a w (On P w0 r N Hb φ0 L k) Q else On P w0 r N Hb φ0 L k (a.put o.dst undef) w:=by
  unfold opGY at h
  cases hg:o.guard with
  | none =>
    rw[hg] at h
    simp only[Region.wanted,hg,if_true]
    exact zog hrec hL hs h
  | some jw =>
    obtain⟨j,want⟩:=jw
    rw[hg] at h
    simp only[] at h
    cases hd:(all[j]?).bind (·.dst) with
    | none=>rw[hd] at h;exact (zaq hL h).elim
    | some d =>
      rw[hd] at h
      simp only[] at h
      cases hb:nble (Nat.succ d) N
      · rw[hb] at h;exact (zaq hL h).elim
      rw[hb,zag] at h
      have hy:=zhN hd hs.tr (zah.1 hb)
      have hv:=hs.tr.val d
      simp only[Region.wanted,hg]
      simp only[] at h
      cases h8:nbeq ((getB d).run T).tag 8
      · rw[h8,zai] at h
        cases h19:nbeq ((getB d).run T).tag 19
        · rw[h19] at h;exact (zaq hL h).elim
        · rw[h19,zag] at h
          have e:=hv.of_ud (zaa.1 h19)
          rw[e] at hy
          rw[hy]
          simp only[undef]
          exact zcI hL hs.tr (.ud _ _ _ _ _) hs.hr hs.ex h
      · rw[h8,zag] at h
        have h8:=zaa.1 h8
        obtain⟨b,e,hp,_⟩:=hv.of_bool h8
        rw[e] at hy
        rw[hy]
        have hbw:nbeq ((getB d).run T).p (bi want 1 0)=(some b == some want):=by
          rw[hp];cases b<;>cases want<;>rfl
        rw[hbw] at h
        cases hw:(some b == some want)
        · rw[hw] at h
          have hbn:b=nb want:=by cases b<;>cases want<;>first | rfl | cases hw
          have hks:=zeQ (o:=.tmp d) (b:=nb want) hs h8 (by rw[← hbn];exact hp)
          exact zcI hL hks.tr (.ud _ _ _ _ _) hs.hr hs.ex h
        · rw[hw] at h
          have hbn:b=want:=by cases b<;>cases want<;>first | rfl | cases hw
          have hks:=zeQ (o:=.tmp d) (b:=want) hs h8 (by rw[← hbn];exact hp)
          exact zog hrec hL hks h
theorem zyz{ops:Array Oper}{k:BR}(hrec:zaU P r)(hL:AllOk L)(n:Nat):∀ (i:Nat) (T:Fr) (H:Hp) (φ:Ph) (a:Act) (w:World),i+n=ops.size→St P w0 N Hb φ0 T H φ a w →
    (∀ x ∈ (opsY P N ops (ops.toList.drop i) k).run r T H,x ∈ L)→wpOpsIn (fen ro) 0 P ops (QK P w0 r N Hb φ0 L k) (List.range' i n) a w:=by
  induction n with
  | zero =>
    intro i T H φ a w hi hs h
    rw[List.drop_of_length_le (by simp;omega)] at h
    exact⟨T,H,φ,hs,h⟩
  | succ n ih =>
    intro i T H φ a w hi hs h
    have hlt:i<ops.size:=by omega
    have hd:ops.toList.drop i=ops[i]::ops.toList.drop (i+1):=by
      rw[List.drop_eq_getElem_cons (by simpa using hlt)];simp
    rw[hd] at h
    have ho:ops[i]?=some ops[i]:=by simp[hlt]
    rw[List.range'_succ]
    simp only[wpOpsIn,ho]
    have key:=zyy (ro:=ro) (P:=P) (all:=ops) (o:=ops[i]) (k:=opsY P N ops (ops.toList.drop (i+1)) k) (Q:=QK P w0 r N Hb φ0 L k) hrec hL hs h
    have hnext:∀ a w,On P w0 r N Hb φ0 L (opsY P N ops (ops.toList.drop (i+1)) k) a w→wpOpsIn (fen ro) 0 P ops (QK P w0 r N Hb φ0 L k) (List.range' (i+1) n) a w:=by
      rintro a w ⟨T,H,φ,h1,h2⟩
      exact ih (i+1) T H φ a w (by omega) h1 h2
    split
    · rename_i hw
      rw[if_pos hw] at key
      exact Oper.wpIn_mono hnext key
    · rename_i hw
      rw[if_neg hw] at key
      exact⟨fun _ _=>trivial,hnext _ _ key⟩
theorem zkU{n m:Nat}{k:Nat→BR}{ks:Nat→List (Nat × BR)}(h5:∀ x ∈ L,x.tag=5)(hm:m≤n):∀ (e:Exit) (a:Act) (w:World),QK P w0 r N Hb φ0 L (k m) e a w→QYY P w0 r N Hb φ0 L fin n k ks e a w:=by
  intro e a w h
  cases e with
  | normal=>exact On.y hm h
  | exit i=>obtain⟨x,hx,h1,_⟩:=h;have:=h5 x hx;omega
  | ret=>obtain⟨x,hx,h1,_⟩:=h;have:=h5 x hx;omega
  | _=>exact h.elim
section sound
variable (hm:P.follows .mixedOrders=true) (hrec:zaU P r) (hL:AllOk L) (h5:∀ x ∈ L,x.tag=5) (hb:BaseY P w0 Hb φ0)
include hm hrec hL h5 hb
theorem zj1(c:Code):∀ (rp:List Nat) (k:Nat→BR) (ks:Nat→List (Nat × BR)),(∀ n,zc2 P N lab fin top (jmpN P N lab Hb r fin top n) rp=some ⟨c,k n,ks n⟩) →
    ∀ (n:Nat) (T:Fr) (H:Hp) (φ:Ph) (a:Act) (w:World),St P w0 N Hb φ0 T H φ a w→(∀ x ∈ (zaB P N lab fin (jmpN P N lab Hb r fin top n) rp c (k n) (ks n)).run r T H,x ∈ L) →
    c.wpIn (fen none) 0 P (QYY P w0 r N Hb φ0 L fin n k ks) a w:=by
  induction c with
  | skip=>exact fun rp k ks hat n T H φ a w hs h=>wpIn_skip ⟨n,Nat.le_refl _,T,H,φ,hs,h⟩
  | label l=>exact fun rp k ks hat n T H φ a w hs h=>wpIn_label ⟨n,Nat.le_refl _,T,H,φ,hs,h⟩
  | ret=>exact fun rp k ks hat n T H φ a w hs h=>wpIn_ret ⟨n,Nat.le_refl _,T,H,φ,hs,h⟩
  | exit i=>exact fun rp k ks hat n T H φ a w hs h=>wpIn_exit ⟨n,Nat.le_refl _,T,H,φ,hs,h⟩
  | region id ops draw =>
    intro rp k ks hat n T H φ a w hs h
    cases draw with
    | false =>
      refine wpIn_mono ?_ (zkU h5 (Nat.le_refl n))
      refine wpIn_region ?_
      rw[List.range_eq_range']
      exact zyz hrec hL _ 0 T H φ a w (by omega) hs h
    | true=>exact wpIn_mono (zlm hm hrec hL hs h) (zkU h5 (Nat.le_refl n))
  | seq x y ihx ihy =>
    intro rp k ks hat n T H φ a w hs h
    have hatx:∀ n,zc2 P N lab fin top (jmpN P N lab Hb r fin top n) (0::rp)=some ⟨x,atY P lab (jmpN P N lab Hb r fin top n) (1::rp) (zaB P N lab fin (jmpN P N lab Hb r fin top n) (1::rp) y (k n) (ks n)),ks n⟩:=fun n=>by
      show om (zc2 P N lab fin top (jmpN P N lab Hb r fin top n) rp) none _=_
      rw[hat n];rfl
    have haty:∀ n,zc2 P N lab fin top (jmpN P N lab Hb r fin top n) (1::rp)=some ⟨y,k n,ks n⟩:=fun n=>by
      show om (zc2 P N lab fin top (jmpN P N lab Hb r fin top n) rp) none _=_
      rw[hat n];rfl
    refine wpIn_seq (wpIn_mono (ihx (0::rp) _ ks hatx n T H φ a w hs h) ?_)
    intro e a' w' hq
    cases e with
    | normal =>
      obtain⟨m,hm1,T',H',φ',h1,h2⟩:=hq
      cases hl:lab (1::rp) with
      | none =>
        have e1:atY P lab (jmpN P N lab Hb r fin top m) (1::rp) (zaB P N lab fin (jmpN P N lab Hb r fin top m) (1::rp) y (k m) (ks m))=zaB P N lab fin (jmpN P N lab Hb r fin top m) (1::rp) y (k m) (ks m):=by
          unfold atY;rw[hl];rfl
        have h2':∀ z ∈ (atY P lab (jmpN P N lab Hb r fin top m) (1::rp) (zaB P N lab fin (jmpN P N lab Hb r fin top m) (1::rp) y (k m) (ks m))).run r T' H',z ∈ L:=h2
        rw[e1] at h2'
        exact wpIn_mono (ihy (1::rp) k ks haty m T' H' φ' a' w' h1 h2') (QYY.mono hm1)
      | some live =>
        have e1:atY P lab (jmpN P N lab Hb r fin top m) (1::rp) (zaB P N lab fin (jmpN P N lab Hb r fin top m) (1::rp) y (k m) (ks m))=zib P lab (jmpN P N lab Hb r fin top m) (1::rp):=by
          unfold atY;rw[hl];rfl
        have h2':∀ z ∈ (atY P lab (jmpN P N lab Hb r fin top m) (1::rp) (zaB P N lab fin (jmpN P N lab Hb r fin top m) (1::rp) y (k m) (ks m))).run r T' H',z ∈ L:=h2
        rw[e1] at h2'
        obtain⟨m',rfl,T2,H2,φ2,g1,g2⟩:=zpn hL hb haty h1 h2'
        exact wpIn_mono (ihy (1::rp) k ks haty m' T2 H2 φ2 a' w' g1 g2) (QYY.mono (by omega))
    | _=>exact hq
  | cond c x y ihx ihy =>
    intro rp k ks hat n T H φ a w hs h
    have hatx:∀ n,zc2 P N lab fin top (jmpN P N lab Hb r fin top n) (0::rp)=some ⟨x,k n,ks n⟩:=fun n=>by
      show om (zc2 P N lab fin top (jmpN P N lab Hb r fin top n) rp) none _=_
      rw[hat n];rfl
    have haty:∀ n,zc2 P N lab fin top (jmpN P N lab Hb r fin top n) (1::rp)=some ⟨y,k n,ks n⟩:=fun n=>by
      show om (zc2 P N lab fin top (jmpN P N lab Hb r fin top n) rp) none _=_
      rw[hat n];rfl
    have h':∀ z ∈ bi (nbeq ((getO P c).run T).tag 8) (bi (nbeq ((getO P c).run T).p 1) ((zaB P N lab fin (jmpN P N lab Hb r fin top n) (0::rp) x (k n) (ks n)).run r (zcY c true T) H) ((zaB P N lab fin (jmpN P N lab Hb r fin top n) (1::rp) y (k n) (ks n)).run r (zcY c false T) H)) (zab 245),z ∈ L:=h
    cases h8:nbeq ((getO P c).run T).tag 8
    · rw[h8] at h';exact (zaq hL h').elim
    · rw[h8,zag] at h'
      have h8:=zaa.1 h8
      obtain⟨b,e,hp,_⟩:=(hs.tr.eval c).of_bool h8
      have hks:=zeQ (b:=b) hs h8 hp
      rw[hp] at h'
      cases b with
      | true=>exact wpIn_cond_true e (ihx (0::rp) k ks hatx n _ H φ a w hks h')
      | false=>exact wpIn_cond_false e (ihy (1::rp) k ks haty n _ H φ a w hks h')
  | block i c ih =>
    intro rp k ks hat n T H φ a w hs h
    have hatc:∀ n,zc2 P N lab fin top (jmpN P N lab Hb r fin top n) (0::rp)=some ⟨c,k n,(i,k n)::ks n⟩:=fun n=>by
      show om (zc2 P N lab fin top (jmpN P N lab Hb r fin top n) rp) none _=_
      rw[hat n];rfl
    refine wpIn_block (wpIn_mono (ih (0::rp) k (fun n=>(i,k n)::ks n) hatc n T H φ a w hs h) ?_)
    intro e a' w' hq
    cases e with
    | normal=>exact hq
    | exit j =>
      obtain⟨m,hm1,T',H',φ',h1,h2⟩:=hq
      have h2':∀ z ∈ (bi (nbeq i j) (k m) (zeD j (ks m))).run r T' H',z ∈ L:=h2
      by_cases hji:j=i
      · simp only[Exit.inBlock,hji,if_true]
        rw[zaa.2 hji.symm,zag] at h2'
        exact⟨m,hm1,T',H',φ',h1,h2'⟩
      · simp only[Exit.inBlock,hji,if_false]
        rw[zam.2 (Ne.symm hji),zai] at h2'
        exact⟨m,hm1,T',H',φ',h1,h2'⟩
    | ret=>exact hq
    | goto l=>exact hq.elim
    | panic ch=>exact hq.elim
    | outgrown=>exact hq.elim
  | loop c ih =>
    intro rp k ks hat n T H φ a w hs h
    have hatc:∀ n,zc2 P N lab fin top (jmpN P N lab Hb r fin top n) (0::rp)=some ⟨c,zib P lab (jmpN P N lab Hb r fin top n) (0::rp),ks n⟩:=fun n=>by
      show om (zc2 P N lab fin top (jmpN P N lab Hb r fin top n) rp) none _=_
      rw[hat n];rfl
    let J:Nat→Act→World→Prop:=fun m a w=>m≤n∧∃ T H φ,St P w0 N Hb φ0 T H φ a w∧∀ x ∈ (zib P lab (jmpN P N lab Hb r fin top m) (0::rp)).run r T H,x ∈ L
    let μ:Act→World→Nat:=fun a w=>(Classical.propDecidable (∃ n,J n a w)).byCases (fun h=>Classical.choose (least h)) (fun _=>0)
    have hμ:∀ a w,(∃ n,J n a w)→J (μ a w) a w∧∀ m,J m a w→μ a w≤m:=by
      intro a w he
      have:μ a w=Classical.choose (least he):=by
        show (Classical.propDecidable (∃ n,J n a w)).byCases _ _=_
        cases Classical.propDecidable (∃ n,J n a w) with
        | isTrue h=>rfl
        | isFalse h=>exact absurd he h
      rw[this]
      exact Classical.choose_spec (least he)
    refine wpIn_loop (fun a w=>∃ n,J n a w) μ ⟨n,Nat.le_refl _,T,H,φ,hs,h⟩ ?_
    intro a w he
    obtain⟨hJ,_⟩:=hμ a w he
    generalize hme:μ a w=m at hJ
    obtain⟨hmn,T,H,φ,hs,hr⟩:=hJ
    obtain⟨m',rfl,T',H',φ',g1,g2⟩:=zpn hL hb hatc hs hr
    refine wpIn_mono (ih (0::rp) _ ks hatc m' T' H' φ' a w g1 g2) ?_
    intro e a' w' hq
    cases e with
    | normal =>
      obtain⟨m2,hm2,T2,H2,φ2,k1,k2⟩:=hq
      have hJ':J m2 a' w':=⟨by omega,T2,H2,φ2,k1,k2⟩
      exact⟨⟨m2,hJ'⟩,Nat.lt_of_le_of_lt ((hμ a' w' ⟨m2,hJ'⟩).2 m2 hJ') (by omega)⟩
    | exit i=>exact OnY.mono (by omega) hq
    | ret=>exact OnY.mono (by omega) hq
    | goto l=>exact hq.elim
    | panic ch=>exact hq.elim
    | outgrown=>exact hq.elim
  | scope c ih =>
    intro rp k ks hat n T H φ a w hs h
    have hatc:∀ n,zc2 P N lab fin top (jmpN P N lab Hb r fin top n) (0::rp)=some ⟨c,k n,ks n⟩:=fun n=>by
      show om (zc2 P N lab fin top (jmpN P N lab Hb r fin top n) rp) none _=_
      rw[hat n];rfl
    refine zdx (wpIn_mono (ih (0::rp) k ks hatc n T H φ a w hs h) ?_)
    intro e a' w' hq
    cases e with
    | goto l=>exact hq.elim
    | _=>exact hq
  | _=>intro rp k ks hat n T H φ a w hs h;exact (zaq hL h).elim
end sound
end Go.Eng
namespace Go.Eng
open Go.RowKit
variable {P:Program} {w0:World} {H Hb:Hp} {φ φ0:Ph} {w:World} {N:Nat} {T:Fr} {a:Act} {lab:Lab} {r:Rec}
def zd4(z:Nat→Option (List Value))(w:World):Prop:=∀ x C,z x=some C→∃ t fr,w.heap[x]?=some (.cells C.toArray t fr)
def zic(z:Nat→Option (List Value))(w:World)(v0:AV):Ending→World→Prop
  | .returned v,w'=>∃ z',(∀ x C,z x=some C→z' x=some C)∧(∀ x C,z' x=some C→z x=some C ∨ w.heap.size≤x)∧zd4 z' w'∧FV z' v0 v∧Below w.heap.size w w'
  | _,_=>False
def zac(P:Program)(f:Nat)(args:List AV)(v0:AV):Prop:=∀ (z:Nat→Option (List Value)) (w:World) (vals:List Value),zd4 z w→P.globals.size≤w.heap.size→FVs z args vals→Calls P f vals.toArray w (zic z w v0)
noncomputable section
def okN(p:Prop):Nat:=(Classical.propDecidable p).byCases (fun _=>1) (fun _=>0)
theorem zak{p:Prop}:okN p=1 ↔ p:=by
  unfold okN
  cases Classical.propDecidable p with
  | isTrue h=>exact⟨fun _=>h,fun _=>rfl⟩
  | isFalse h=>exact⟨fun e=>(by cases e),fun e=>absurd e h⟩
def natP(P:Program)(f:Nat)(ts:List TypeId)(V:List AV→AV):Native:=fun args H=>om (zdV P ts args H) (zaG 300) fun x=>[⟨okN (zac P f x.1 (V x.1)),301,V x.1,x.2⟩]
def zaf(P:Program):Hp:=⟨noH.t,P.globals.size,P.globals.size⟩
def phz(P:Program)(z:Nat→Option (List Value)):Ph:=⟨fun b=>if b<P.globals.size then some b else none,fun _=>0,fun t v=>(t=31∧∃ (x:Nat) (C:List Value),v=.int .i64 (x:Int)∧z x=some C) ∨ (t=29∧∃ x:Nat,v=.agg #[.int .i64 (x:Int),.int .i64 ((0:Nat):Int)]),z,fun _=>0⟩
end
theorem zg6(i:Nat):hget (zaf P) i=noB:=zj5 i
theorem zlB{z:Nat→Option (List Value)}(hG:P.globals.size≤32767)(hz:zd4 z w)(hw:P.globals.size≤w.heap.size):BaseY P w (zaf P) (phz P z):=by
  have hφ:∀ b x,(phz P z) b=some x→b<P.globals.size∧x=b:=by
    intro b x h
    have h':(if b<P.globals.size then some b else none)=some x:=h
    by_cases hb:b<P.globals.size
    · rw[if_pos hb] at h';cases h';exact⟨hb,rfl⟩
    · rw[if_neg hb] at h';cases h'
  refine⟨rfl,⟨?_,?_,hG,Nat.le_refl _,BelowX.refl _ _,?_,⟨?_,hw,fun x _=>.inr ⟨rfl,x,rfl⟩⟩,?_,?_,?_⟩,fun _ _ _ h=>by rcases h with h | h<;>have:=h.1<;>omega⟩
  · intro b x h
    obtain⟨h1,rfl⟩:=hφ b x h
    refine⟨h1,fun hl=>by have hl':P.globals.size≤x:=hl;omega,w.heap[x]'(by omega),by simp,?_⟩
    rw[zg6];exact zfQ
  · intro b b' x h h' k1 k2
    rw[zg6] at k1;exact absurd rfl k1
  · intro g hg
    show (if g<P.globals.size then some g else none)=some g
    rw[if_pos hg]
  · intro t v _ h
    rcases h with h | h<;>have:=h.1<;>omega
  · intro x C hx
    refine⟨hz x C hx,fun b hb hl=>?_⟩
    have hl':P.globals.size≤b:=hl
    have:=(hφ b x hb).1;omega
  · intro b x h hk
    rw[zg6] at hk
    rcases hk with hk | hk<;>cases hk
  · intro x C hx
    exact .inr (.inl ⟨rfl,x,C,rfl,hx⟩)
theorem zy0(f:Nat)(ts:List TypeId)(V:List AV→AV):zdZ P f (natP P f ts V):=by
  intro w0 H φ w args vals hargs hr hall
  unfold natP at hall ⊢
  cases hf:zdV P ts args H with
  | none=>rw[hf] at hall;exact (zaI hall).elim
  | some x =>
    obtain⟨as,H1⟩:=x
    rw[hf,zan] at hall
    rw[zan]
    have hp:zac P f as (V as):=zak.1 (hall _ (List.mem_singleton.2 rfl))
    obtain⟨φ1,f1,g1⟩:=zjF ts hf hr hargs
    have hr1:=f1.hr
    have hlt:∀ b x,φ1 b=some x→x<w.heap.size:=by
      intro b x hb
      obtain⟨_,_,o,h3,_⟩:=hr1.blk b x hb
      exact (Array.getElem?_eq_some_iff.1 h3).1
    have hG:P.globals.size≤w.heap.size:=by
      rcases Nat.eq_zero_or_pos P.globals.size with h0 | h0
      · omega
      · have:=hlt _ _ (hr1.gl (P.globals.size - 1) (by omega));omega
    refine Calls.mono (hp φ1.fz w vals (fun x C hx=>(hr1.fz x C hx).1) hG g1) fun e w' he=>?_
    cases e with
    | returned v =>
      obtain⟨z',z1,z2,z3,z4,z5⟩:=he
      let φ2:Ph:=⟨φ1.f,φ1.k,φ1.op,z',φ1.tl⟩
      have hle:Le φ1 φ2:=⟨fun _ _ h=>⟨h,rfl⟩,rfl,z1,fun _ _ _=>rfl⟩
      refine⟨_,List.mem_singleton.2 rfl,φ2,z4 φ2 rfl,⟨?_,hr1.inj,hr1.n,hr1.lim,(hr1.below.trans (z5.mono hr1.below.size)).op rfl,hr1.gl,hr1.op,?_,hr1.tl,?_⟩,f1.ex.trans ⟨hle,fun b y hb hn=>(by have hb':φ1 b=some y:=hb;rw[hb'] at hn;cases hn),Nat.le_refl _,rfl,fun _ _ _=>rfl,fun _ _ _ _=>rfl,fun _ _ _ h=>h,?_⟩⟩
      · intro b y hb
        obtain⟨h1,h2,o,h3,h4⟩:=hr1.blk b y hb
        exact⟨h1,h2,o,by rw[z5.block y (hlt b y hb)];exact h3,h4.mono hle rfl⟩
      · intro y C hy
        refine⟨z3 y C hy,fun b hb hl=>?_⟩
        rcases z2 y C hy with h | h
        · exact (hr1.fz y C h).2 b hb hl
        · have:=hlt b y hb;omega
      · intro y C hy
        rcases z2 y C hy with h | h
        · exact hr1.fo y C h
        · exact .inl (.inl (Nat.le_trans hr1.below.size h))
      · intro y C hy
        rcases z2 y C hy with h | h
        · exact .inl h
        · exact .inr fun b _ hb=>by have:=hlt b y hb;omega
    | panicked ch=>exact he.elim
    | outgrown=>exact he.elim
theorem zgg{v v0:AV}(h:∀ x ∈ ansY v,x ∈ ansY v0):v=v0:=by
  have h1:=h _ (List.mem_singleton.2 rfl)
  have h2:=List.mem_singleton.1 h1
  have h3:(setB 0).run noFr v=(setB 0).run noFr v0:=congrArg Res.T h2
  have h4:=congrArg (fun T=>(getB 0).run T) h3
  simp only[zbr] at h4
  simpa using h4
theorem zy1(hm:P.follows .mixedOrders=true){f:Nat}{fn:Func}{c:Code}(hf:P.funcs[f]?=some fn)(hbd:fn.body=some c)(hG:P.globals.size≤32767)(hrec:zaU P r){lab:Lab}{ts:List TypeId}{n:Nat}{args:List AV}{v0:AV}
    (h:zt5 P fn.ntmps lab (zaf P) r (finY P fn.results.toList ts) c n args=ansY v0):zac P f args v0:=by
  intro z w vals hz hw hargs
  have hb:=zlB hG hz hw
  have h5:∀ x ∈ ansY v0,x.tag=5:=fun x hx=>by rw[List.mem_singleton.1 hx]
  have hL:AllOk (ansY v0):=fun x hx ht=>by have:=h5 x hx;omega
  refine zeq (ro:=none) (n:=0) (callsIn_of_wp_marks hf hbd trivial ?_)
  have hst:St P w fn.ntmps (zaf P) (phz P z) (zar 0 args noFr) (zaf P) (phz P z) { tmps:=vals.toArray++Array.replicate (fn.ntmps - vals.toArray.size) undef,defers:=[] } w:=⟨zfC (hargs (phz P z) rfl) _ hb.hr.gl,hb.hr,EX.refl _ _⟩
  refine wpIn_mono (zj1 (fin:=finY P fn.results.toList ts) (top:=c) (lab:=lab) hm hrec hL h5 hb c [] (fun _=>finY P fn.results.toList ts) (fun _=>[]) (fun _=>rfl) n _ _ _ _ _ hst (by rw[show (zaB P fn.ntmps lab (finY P fn.results.toList ts) (jmpN P fn.ntmps lab (zaf P) r (finY P fn.results.toList ts) c n) [] c (finY P fn.results.toList ts) []).run r (zar 0 args noFr) (zaf P)=ansY v0 from h];exact fun _ h=>h)) ?_
  have hend:∀ (a':Act) (w':World),OnY P w r fn.ntmps (zaf P) (phz P z) (ansY v0) n (fun _=>finY P fn.results.toList ts) a' w'→LeavesInM (fen none) 0 P fn a'.tmps (zic z w v0) a'.defers .returning w':=by
    rintro a' w' ⟨m,_,T,H',φ',hs,hx⟩
    have hx':∀ x ∈ (bi (nb (nbeq (lenL (zaK T)) 0)) (zab 248) <| om ((zbM P fn.results.toList).run T H') (zab 248) fun v=>match ts with
      | [t]=>om (frzV P t v H') (zab 249) fun x=>ansY x.1
      | ts=>bi (nbeq v.tag 16) (om (zdV P ts v.cs H') (zab 249) fun x=>ansY (tupV x.1)) (zab 249)),x ∈ ansY v0:=hx
    cases hmk:nbeq (lenL (zaK T)) 0
    · rw[hmk] at hx';exact (zaq hL hx').elim
    rw[hmk] at hx'
    have hx':∀ x ∈ (om ((zbM P fn.results.toList).run T H') (zab 248) fun v=>match ts with
      | [t]=>om (frzV P t v H') (zab 249) fun x=>ansY x.1
      | ts=>bi (nbeq v.tag 16) (om (zdV P ts v.cs H') (zab 249) fun x=>ansY (tupV x.1)) (zab 249)),x ∈ ansY v0:=hx'
    have hm0:zaK T=[]:=by
      have:=zaa.1 hmk
      rw[zaz] at this
      exact List.length_eq_zero_iff.1 this
    cases hv:(zbM P fn.results.toList).run T H' with
    | none=>rw[hv] at hx';exact (zaq hL hx').elim
    | some v =>
      rw[hv,zan] at hx'
      refine ze2 (H':=H') _ hs.tr.defers hs.hr (by rw[hm0];rfl) fun φ2 w2 hex2 hr2=>?_
      obtain⟨val,h3,h4⟩:=zdN (hs.tr.mono hex2.keep) hr2 hv
      refine⟨val,h3,?_⟩
      have hfin:∃ φ3 H3,Frz P w w2 H' φ2 H3 φ3∧FV φ3.fz v0 val:=by
        by_cases ht:∃ t,ts=[t]
        · obtain⟨t,rfl⟩:=ht
          have hx':∀ x ∈ om (frzV P t v H') (zab 249) (fun x=>ansY x.1),x ∈ ansY v0:=hx'
          cases hz:frzV P t v H' with
          | none=>rw[hz] at hx';exact (zaq hL hx').elim
          | some y =>
            obtain⟨a1,H1⟩:=y
            rw[hz,zan] at hx'
            have e:=zgg hx'
            obtain⟨φ3,g1,g2⟩:=zhy hz hr2 h4
            exact⟨φ3,H1,g1,e ▸ g2⟩
        · have hx':∀ x ∈ bi (nbeq v.tag 16) (om (zdV P ts v.cs H') (zab 249) fun x=>ansY (tupV x.1)) (zab 249),x ∈ ansY v0:=by
            match ts,hx',ht with
            | [],hx',_=>exact hx'
            | [t],_,ht=>exact absurd ⟨t,rfl⟩ ht
            | _::_::_,hx',_=>exact hx'
          cases h16:nbeq v.tag 16
          · rw[h16] at hx';exact (zaq hL hx').elim
          rw[h16,zag] at hx'
          cases hz:zdV P ts v.cs H' with
          | none=>rw[hz] at hx';exact (zaq hL hx').elim
          | some y =>
            obtain⟨a1,H1⟩:=y
            rw[hz,zan] at hx'
            have e:=zgg hx'
            obtain⟨l,rfl,hl⟩:=h4.of_tup (zaa.1 h16)
            obtain⟨φ3,g1,g2⟩:=zjF ts hz hr2 hl
            exact⟨φ3,H1,g1,fun ψ e'=>e ▸ .tup 0 0 0 0 a1 l (g2 ψ e')⟩
      obtain⟨φ3,H3,g1,g2⟩:=hfin
      have hex:=(hs.ex.trans hex2).trans g1.ex
      have hne:∀ k,¬ exB φ3 k:=fun k hk=>by
        unfold exB at hk
        rw[hex.keep.op] at hk
        rcases hk with hk | hk<;>have:=hk.1<;>omega
      refine⟨φ3.fz,hex.keep.fz,fun x C hx=>?_,fun x C hx=>(g1.hr.fz x C hx).1,g2,g1.hr.below.below hne⟩
      rcases g1.hr.fo x C hx with (h | h) | h
      · exact .inr h
      · exact (hne x h).elim
      · rw[hex.keep.op] at h
        obtain⟨_,x',C',e1,e2⟩ | ⟨h0,_⟩:=h
        rotate_left
        · omega
        have e3:x=x':=by injection e1 with _ e1;exact Int.ofNat.inj e1
        subst e3
        have e4:=hex.keep.fz x C' e2
        rw[hx] at e4;cases e4
        exact .inl e2
  intro e a' w' hq
  cases e with
  | normal=>exact hend a' w' hq
  | ret=>exact hend a' w' hq
  | exit i =>
    obtain⟨m,_,T,H',φ',_,hx⟩:=hq
    exact (zaq hL hx).elim
  | _=>exact hq.elim
end Go.Eng
